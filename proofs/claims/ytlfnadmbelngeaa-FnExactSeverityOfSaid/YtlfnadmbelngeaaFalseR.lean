/- The false openings of partial cuts, as the reference finds them. No conditions. -/
import Derived.Test.YtlfnadmbelngeaaFalse
namespace Go.Proofs.Ytlfnadmbelngeaa
open Go.RowKit
set_option linter.unusedVariables false
set_option linter.unusedSimpArgs false

theorem cells5_keep {a1 a2 a3 a4 a5 o1 o2 o3 o4 o5 : Nat} {v1 v2 v3 v4 v5 : Value} {w0 w w' : World}
    (h : w.cell? ⟨a1, o1, none⟩ = some v1 ∧ w.cell? ⟨a2, o2, none⟩ = some v2 ∧ w.cell? ⟨a3, o3, none⟩ = some v3 ∧ w.cell? ⟨a4, o4, none⟩ = some v4 ∧ w.cell? ⟨a5, o5, none⟩ = some v5 ∧ Below w0.heap.size w0 w) (hb : Below w.heap.size w w') :
    w'.cell? ⟨a1, o1, none⟩ = some v1 ∧ w'.cell? ⟨a2, o2, none⟩ = some v2 ∧ w'.cell? ⟨a3, o3, none⟩ = some v3 ∧ w'.cell? ⟨a4, o4, none⟩ = some v4 ∧ w'.cell? ⟨a5, o5, none⟩ = some v5 ∧ Below w0.heap.size w0 w' := by
  obtain ⟨h1, h2, h3, h4, h5, h6⟩ := h
  exact ⟨cell_keep h1 (hb.block _ (lt_of_cell h1)), cell_keep h2 (hb.block _ (lt_of_cell h2)), cell_keep h3 (hb.block _ (lt_of_cell h3)), cell_keep h4 (hb.block _ (lt_of_cell h4)), cell_keep h5 (hb.block _ (lt_of_cell h5)), h6.trans (hb.mono h6.size)⟩
theorem cells5_below {a1 a2 a3 a4 a5 o1 o2 o3 o4 o5 : Nat} {v1 v2 v3 v4 v5 : Value} {w0 w : World}
    (h : w.cell? ⟨a1, o1, none⟩ = some v1 ∧ w.cell? ⟨a2, o2, none⟩ = some v2 ∧ w.cell? ⟨a3, o3, none⟩ = some v3 ∧ w.cell? ⟨a4, o4, none⟩ = some v4 ∧ w.cell? ⟨a5, o5, none⟩ = some v5 ∧ Below w0.heap.size w0 w) : Below w0.heap.size w0 w := h.2.2.2.2.2

set_option maxRecDepth 100000 in
set_option maxHeartbeats 2000000 in
theorem l15False_any {S S' : Nat → Prop} (m : Mk) (u v : Value) (t cuts : List (List Int)) (n : Nat) (W : World) (hf : Fits m t cuts) (hn : (n : Int) = m.c) (h : V2 S W u t) (hc : V2 S' W v cuts) :
    Calls Try.prog 99 #[.agg #[.int .i64 m.c, .int .i64 m.d, .int .i64 m.s, .int .i64 m.e, .int .i64 m.l, u], v] W fun e' w' => ∃ v', e' = .returned v' ∧ F2 W.heap.size w' v' (falseL n t cuts) ∧ Below W.heap.size W w' := by
  obtain ⟨a, c, rfl, hmx⟩ := h.form
  obtain ⟨a', c', rfl, hmx'⟩ := hc.form
  have hrows := hf.rows
  have hdoors := hf.doors
  have hfew := hf.few
  have hcols := hf.cols
  have hlens : ∀ i, i < cuts.length → (getl cuts i).length = n := fun i hi => by have := hf.lens i hi; omega
  have Hcols := Lib.hid hcols; clear hcols
  have Hlens := Lib.hid hlens; clear hlens
  have Hf := Lib.hid (And.intro hf hn); clear hf hn
  obtain ⟨locks, hlocks⟩ : ∃ x, x = locksTo n t cuts (getl t 0).length := ⟨_, rfl⟩
  have hfin : falseL n t cuts = falseRows t cuts locks (getl t 0).length cuts.length := by rw [hlocks]; rfl
  rw [hfin]
  have hll : locks.length ≤ (getl t 0).length := by rw [hlocks, locksTo_len]; exact Nat.le_refl _
  have hlg : (getl t 0).length ≤ locks.length := by rw [hlocks, locksTo_len]; exact Nat.le_refl _
  have hlk : ∀ k, k < (getl t 0).length → (getll locks k).length = n := fun k hk => by rw [hlocks]; exact lock_len hk
  have Hlocks := Lib.hid hlocks; clear hlocks hfin
  have Hlk := Lib.hid hlk; clear hlk
  obtain ⟨W1, hW1, hB01, hz01, HZ01, hc01, hh01⟩ := box_facts W #[.int .i64 m.c, .int .i64 m.d, .int .i64 m.s, .int .i64 m.e, .int .i64 m.l, .slice a t.length c] 34
  have hV1 := (h.below hB01).any
  have hC1 := (hc.below hB01).any
  go_enter Try.func99, Try.ntmps99
  go_wp2_with fail
  rw [← hW1]
  refine (l15Locks_any m _ _ t cuts n _ Hf.out.1 Hf.out.2 hV1 hC1).mono ?_
  rintro e' wL ⟨lv, rfl, hLk0, hBL⟩
  rw [← Hlocks.out] at hLk0
  have hLk := hLk0.any
  have hzL := hBL.size
  have hout0 := Out2.start wL wL.heap.size (Nat.le_refl _)
  obtain ⟨la, lc, rfl, hlm⟩ := hLk.form
  have HW1 := Lib.hid hW1; clear hW1 hh01
  have Hc01 := Lib.hid hc01; clear hc01
  have HO0 := Lib.hid hout0; clear hout0 hLk0
  go_wp2_with fail
  go_loopw [6, 7, 8] (fun ou j _ wr => ∃ i : Nat, i ≤ cuts.length ∧ j = .int .i64 (i : Int) ∧ Out2 wL.heap.size wr ou (falseRows t cuts locks (getl t 0).length i) ∧ Below wL.heap.size wL wr) (fun _ j _ _ => cuts.length - (intOf j).toNat)
  case atStart => exact ⟨0, Nat.zero_le _, rfl, HO0.out, (Below.refl _ _).alloc (Nat.le_refl _) _⟩
  case round =>
    obtain ⟨i, hi, rfl, hO, hBo⟩ := hrel
    obtain ⟨wo, rfl⟩ : ∃ wo, wo = wr := ⟨_, rfl⟩
    have hzo := hBo.size
    by_cases hii : i < cuts.length
    · have hrl := falseRows_len t cuts locks (getl t 0).length i
      have him : i * (getl t 0).length ≤ 10 * 12 := Nat.mul_le_mul (by omega) (by omega)
      have HO := Lib.hid hO; clear hO
      go_wp2_with fail
      go_loopw [6, 8] (fun ou j wr => ∃ k : Nat, k ≤ (getl t 0).length ∧ j = .int .i64 (k : Int) ∧ Out2 wL.heap.size wr ou (falseRows t cuts locks (getl t 0).length i ++ falseTo t cuts locks i k) ∧ Below wL.heap.size wL wr) (fun _ j _ => (getl t 0).length - (intOf j).toNat)
      case atStart => exact ⟨0, Nat.zero_le _, rfl, by simpa [falseTo] using HO.out, hBo⟩
      case round =>
        obtain ⟨k, hk, rfl, hO, hBn⟩ := hrel
        have hzn := hBn.size
        have hBW := hBL.trans (hBn.mono hzL)
        have hzW : W.heap.size < wr.heap.size := by omega
        have hpl := falseTo_len t cuts locks i k
        have hal : (falseRows t cuts locks (getl t 0).length i ++ falseTo t cuts locks i k).length ≤ 1000 := by rw [List.length_append]; omega
        by_cases hkk : k < (getl t 0).length
        · have hit : i < t.length := by omega
          have hkl : k < locks.length := by omega
          have hkt : k < (getl t i).length := by rw [Hcols.out i hit]; exact hkk
          obtain ⟨b1, off1, a1, c1, rfl, _, hc1, hr1⟩ := (hC1.below hBW).cell hii
          obtain ⟨b2, off2, a2, c2, rfl, _, hc2, hr2⟩ := (hLk.below hBn).cell hkl
          obtain ⟨b3, off3, a3, c3, rfl, _, hc3, hr3⟩ := (hV1.below hBW).cell hit
          obtain ⟨b4, off4, rfl, _, hc4⟩ := hr3.cell hkt
          have hl3 := hr3.len
          unfold maxLen at hl3
          have hc5 : wr.cell? ⟨W.heap.size, 5, none⟩ = some (.slice (some ⟨b3, off3, none⟩) t.length c) := by rw [(bcell hBW).1 _ _ hz01, Hc01.out]; rfl
          obtain ⟨vs, bk, g1, g2, g3⟩ := hO
          have G := Lib.hid (And.intro g1 (And.intro g2 g3)); clear g1 g2 g3
          by_cases h1 : geti (getl t i) k = 0
          · have e1 : (geti (getl t i) k == 0) = true := by simp [h1]
            have hlen : (getl cuts i).length ≤ (getll locks k).length := by rw [Hlk.out k hkk, Hlens.out i hii]; exact Nat.le_refl _
            cases ho : opensB (getll locks k) (getl cuts i)
            · have hst : falseTo t cuts locks i (k + 1) = falseTo t cuts locks i k := by rw [falseTo, if_neg (by rw [ho]; simp)]
              have Hst := Lib.hid hst; clear hst
              have Ho := Lib.hid ho; clear ho
              have H1 := Lib.hid h1; clear h1
              go_wp2_with fail
              go_region_held3 (fun w' => w'.cell? ⟨W.heap.size, 5, none⟩ = some (.slice (some ⟨b3, off3, none⟩) t.length c) ∧ w'.cell? ⟨b1, off1 + i, none⟩ = some (.slice a1 (getl cuts i).length c1) ∧ w'.cell? ⟨b2, off2 + k, none⟩ = some (.slice a2 (getll locks k).length c2) ∧ w'.cell? ⟨b3, off3 + i, none⟩ = some (.slice (some ⟨b4, off4, none⟩) (getl t i).length c3) ∧ w'.cell? ⟨b4, off4 + k, none⟩ = some (.int .i64 (geti (getl t i) k)) ∧ Below wr.heap.size wr w')
                (first | exact cells5_keep (by assumption) (by assumption) | exact ⟨hc5, hc1, hc2, hc3, hc4, (Below.refl _ _).drew⟩)
                (first | (go_at_call 69; refine (l04Opens_b _ _ (getll locks k) (getl cuts i) _ _ Ho.out (hr2.below (cells5_below (by assumption))) (hr1.below (cells5_below (by assumption))) hlen).mono ?_; rintro e' wq ⟨rfl, hb⟩))
              have hb05 := cells5_below (w0 := wr) (by assumption)
              clear hc1 hc2 hc3 hc4 hc5 hr1 hr2 hr3
              go_wp2_with fail
              go_roundw
              case rel => exact ⟨k + 1, by omega, by go_num, by rw [Hst.out]; exact Out2.keep ⟨vs, bk, G.out.1, G.out.2.1, G.out.2.2⟩ hb05, hBn.trans (hb05.mono hzn)⟩
              case measure => simp [intOf]; omega
            · have hst : falseTo t cuts locks i (k + 1) = falseTo t cuts locks i k ++ [[(i : Int), (k : Int)]] := by rw [falseTo, if_pos ⟨h1, ho⟩]
              have Hst := Lib.hid hst; clear hst
              have Ho := Lib.hid ho; clear ho
              have H1 := Lib.hid h1; clear h1
              go_wp2_with fail
              go_region_held3 (fun w' => w'.cell? ⟨W.heap.size, 5, none⟩ = some (.slice (some ⟨b3, off3, none⟩) t.length c) ∧ w'.cell? ⟨b1, off1 + i, none⟩ = some (.slice a1 (getl cuts i).length c1) ∧ w'.cell? ⟨b2, off2 + k, none⟩ = some (.slice a2 (getll locks k).length c2) ∧ w'.cell? ⟨b3, off3 + i, none⟩ = some (.slice (some ⟨b4, off4, none⟩) (getl t i).length c3) ∧ w'.cell? ⟨b4, off4 + k, none⟩ = some (.int .i64 (geti (getl t i) k)) ∧ Below wr.heap.size wr w')
                (first | exact cells5_keep (by assumption) (by assumption) | exact ⟨hc5, hc1, hc2, hc3, hc4, (Below.refl _ _).drew⟩)
                (first | (go_at_call 69; refine (l04Opens_b _ _ (getll locks k) (getl cuts i) _ _ Ho.out (hr2.below (cells5_below (by assumption))) (hr1.below (cells5_below (by assumption))) hlen).mono ?_; rintro e' wq ⟨rfl, hb⟩))
              have hb05 := cells5_below (w0 := wr) (by assumption)
              clear hc1 hc2 hc3 hc4 hc5 hr1 hr2 hr3
              have hz5 := hb05.size
              have hown5 := (own_chg G.out.1 (Chg.of_below (F := fun _ => False) hb05) (fun _ _ h => h)).alloc (.cells #[.int .i64 i, .int .i64 k] 2)
              go_wp2_with (at_builtin; refine wp_app1h (wq.alloc (.cells #[.int .i64 i, .int .i64 k] 2)) (wq.heap.size + 1) (by simp) rfl _ _ 24 rfl wL.heap.size 27 (.slice none 0 0) 24 Try.underlying24 inf_ints rfl u6 _ _ rfl hown5 (.slice (some ⟨wq.heap.size, 0, none⟩) 2 2) _ rfl rfl (by omega) (by omega) (by simp; omega) ?_; intro v1 w1 hown1 hgrow1 hblk1 hB1)
              go_roundw
              case rel =>
                refine ⟨k + 1, by omega, by go_num, ?_, ((hBn.trans (hb05.mono hzn)).alloc (by omega) _).trans hB1⟩
                rw [Hst.out, ← List.append_assoc]
                exact Out2.push (l := [(i : Int), (k : Int)]) (b := wq.heap.size) G.out.1 G.out.2.1 G.out.2.2 (by omega) (hb05.alloc (by omega) _) (pair_X1 (Below.refl _ _)) (fun _ => by omega) hown1 hgrow1 hblk1
              case measure => simp [intOf]; omega
          · have e1 : (geti (getl t i) k == 0) = false := by simp [h1]
            have hst : falseTo t cuts locks i (k + 1) = falseTo t cuts locks i k := by rw [falseTo, if_neg (fun h => h1 h.1)]
            have Hst := Lib.hid hst; clear hst
            have H1 := Lib.hid h1; clear h1
            go_wp2_with fail
            go_quiet (fail)
            go_wp2_with fail
            go_roundw
            case rel => exact ⟨k + 1, by omega, by go_num, by rw [Hst.out]; exact Out2.keep ⟨vs, bk, G.out.1, G.out.2.1, G.out.2.2⟩ (below_drewN (Below.refl _ _) _), below_drewN hBn _⟩
            case measure => simp [intOf]; omega
        · obtain rfl : k = (getl t 0).length := by omega
          have hkl : ¬ (getl t 0).length < locks.length := by omega
          have hst : falseRows t cuts locks (getl t 0).length (i + 1) = falseRows t cuts locks (getl t 0).length i ++ falseTo t cuts locks i (getl t 0).length := rfl
          have Hst := Lib.hid hst; clear hst
          have HO2 := Lib.hid hO; clear hO
          go_wp2_with fail
          go_roundw
          case rel => exact ⟨i + 1, by omega, by go_num, by rw [Hst.out]; exact HO2.out, hBn⟩
          case measure => simp [intOf]; omega
    · obtain rfl : i = cuts.length := by omega
      have hfx := hO.f2
      have Hfx := Lib.hid hfx; clear hfx
      go_wp2_with fail
      go_ret
      exact ⟨_, rfl, F2.mono Hfx.out (by omega), hB01.trans ((hBL.trans (hBo.mono hzL)).mono (by omega))⟩
end Go.Proofs.Ytlfnadmbelngeaa
