/- What the reference answers on reasons: the rows that a reason may have. No conditions. -/
import Derived.Test.YtbckginfipeibaaReas
namespace Go.Proofs.Ytbckginfipeibaa
open Go.RowKit
set_option linter.unusedVariables false
set_option linter.unusedSimpArgs false

set_option maxRecDepth 100000 in
set_option maxHeartbeats 2000000 in
theorem l18Rows_any {S S' : Nat → Prop} (m : Mk) (u v : Value) (t cuts : List (List Int)) (key door n : Nat) (W : World) (hf : Fits m t cuts) (hk : key < cuts.length) (hd : door < (getl t 0).length) (hn : (n : Int) = m.c) (h : V2 S W u t) (hc : V2 S' W v cuts) :
    Calls Try.prog 80 #[.agg #[.int .i64 m.c, .int .i64 m.d, .int .i64 m.s, .int .i64 m.e, .int .i64 m.l, u], v, .int .i64 key, .int .i64 door] W fun e' w' => ∃ v', e' = .returned v' ∧ F2 W.heap.size w' v' (reasRows t cuts key door n) ∧ Below W.heap.size W w' := by
  obtain ⟨a, c, rfl, hmx⟩ := h.form
  obtain ⟨a', c', rfl, hmx'⟩ := hc.form
  have hmk := Mk.ok_iff.1 hf.ok
  have hrows := hf.rows
  have hfew := hf.few
  have hn6 : n ≤ 6 := by omega
  have hdd : ∀ k, k < t.length → door < (getl t k).length := fun k hk => by rw [hf.cols k hk]; exact hd
  have hcc : ∀ k, k < cuts.length → (getl cuts k).length = n := fun k hk => by have := hf.lens k hk; omega
  have Hdd := Lib.hid hdd; clear hdd
  have Hcc := Lib.hid hcc; clear hcc
  have Hf := Lib.hid hf; clear hf hmk
  have hn1 : (n : Int) ≤ m.c := by omega
  have hn2 : m.c ≤ n := by omega
  clear hn
  obtain ⟨W1, hW1, hB01, hz01, HZ01, hc01, hh01⟩ := box_facts W #[.int .i64 m.c, .int .i64 m.d, .int .i64 m.s, .int .i64 m.e, .int .i64 m.l, .slice a t.length c] 34
  have hV1 := h.below hB01
  have hC1 := hc.below hB01
  have hout0 := Out2.start W1 W1.heap.size (Nat.le_refl _)
  have Hout0 := Lib.hid hout0; clear hout0
  go_enter Try.func80, Try.ntmps80
  go_wp2_with fail
  rw [← hW1, show W.heap.size + 1 = W1.heap.size from HZ01.out.symm]
  have HW1 := Lib.hid hW1; clear hW1 hh01
  have Hc01 := Lib.hid hc01; clear hc01
  go_loopw [9, 10, 11, 12] (fun ou i _ _ wr => ∃ x : Nat, x ≤ n ∧ i = .int .i64 (x : Int) ∧ Out2 W1.heap.size wr ou (reasRows t cuts key door x) ∧ Below W1.heap.size W1 wr) (fun _ i _ _ _ => n - (intOf i).toNat)
  case atStart => exact ⟨0, Nat.zero_le _, rfl, Hout0.out, (Below.refl _ _).alloc (Nat.le_refl _) _⟩
  case round =>
    obtain ⟨x, hx, rfl, hO, hB⟩ := hrel
    obtain ⟨wo, rfl⟩ : ∃ wo, wo = wr := ⟨_, rfl⟩
    have hzr := hB.size
    have hxo : ∀ o, wo.cell? ⟨W.heap.size, o, none⟩ = (#[.int .i64 m.c, .int .i64 m.d, .int .i64 m.s, .int .i64 m.e, .int .i64 m.l, .slice a t.length c] : Array Value)[o]? := fun o => by rw [(bcell hB).1 _ _ hz01, Hc01.out]
    by_cases hxn : x < n
    · obtain ⟨wrB, hwrB⟩ : ∃ B, B = wo.heap.size := ⟨_, rfl⟩
      have hown0 := own_lit0 wo wrB 2 1 (by omega)
      have HO := Lib.hid hO; clear hO
      have hdx : decide ((x : Int) < m.c) = true := by simp; omega
      go_wp2_with fail
      clear hxo
      go_loopw [11, 12] (fun ro i wn => ∃ k : Nat, k ≤ cuts.length ∧ i = .int .i64 (k : Int) ∧ wn.ownsRow wrB 2 1 ro (reasRow t cuts key door x k).length ((reasRow t cuts key door x k).map (Value.int .i64)) ∧ Below wrB wo wn) (fun _ i _ => cuts.length - (intOf i).toNat)
      case atStart => exact ⟨0, Nat.zero_le _, rfl, hown0, (Below.refl _ _).alloc (by omega) _⟩
      case round =>
        obtain ⟨k, hk2, rfl, hown, hBn⟩ := hrel
        have hrl := reasRow_len t cuts key door x k
        have hzn := hBn.size
        have hBW := hB.trans (hBn.mono (by omega))
        have hxb : ∀ o, wr.cell? ⟨W.heap.size, o, none⟩ = (#[.int .i64 m.c, .int .i64 m.d, .int .i64 m.s, .int .i64 m.e, .int .i64 m.l, .slice a t.length c] : Array Value)[o]? := fun o => by rw [(bcell hBW).1 _ _ hz01, Hc01.out]
        by_cases hkk : k < cuts.length
        · have hkt : k < t.length := by omega
          obtain ⟨b1, off1, a1, c1, rfl, _, hc1, hr1⟩ := (hC1.below hBW).cell hkk
          obtain ⟨b2, off2, a2, c2, rfl, _, hc2, hr2⟩ := (hV1.below hBW).cell hkt
          obtain ⟨b3, off3, rfl, _, hc3⟩ := hr2.cell (Hdd.out k hkt)
          have hxk2 : x < (getl cuts k).length := by rw [Hcc.out k hkk]; exact hxn
          have hxk1 : x < (getl cuts key).length := by rw [Hcc.out key hk]; exact hxn
          obtain ⟨b4, off4, rfl, _, hc4⟩ := hr1.cell hxk2
          obtain ⟨b5, off5, a5, c5, e5, _, hc5, hr5⟩ := (hC1.below hBW).cell hk
          simp only [Option.some.injEq, Addr.mk.injEq, and_true] at e5
          obtain ⟨rfl, rfl⟩ := e5
          obtain ⟨b6, off6, rfl, _, hc6⟩ := hr5.cell hxk1
          have hl2 := hr2.len
          have hl1 := hr1.len
          have hl5 := hr5.len
          have hdk := Hdd.out k hkt
          unfold maxLen at hl1 hl2 hl5
          by_cases h1 : geti (getl t k) door = 1
          · have e2 : (geti (getl t k) door == 1) = true := by simp [h1]
            by_cases h2 : geti (getl cuts k) x = geti (getl cuts key) x
            · have e3 : (geti (getl cuts k) x == geti (getl cuts key) x) = true := by simp [h2]
              have hst : reasRow t cuts key door x (k + 1) = reasRow t cuts key door x k ++ [(k : Int)] := by rw [reasRow, if_pos ⟨h1, h2⟩]
              have Hst := Lib.hid hst; clear hst
              have H1 := Lib.hid h1; clear h1
              have H2 := Lib.hid h2; clear h2
              go_wp2_with fail
              go_quiet (fail)
              have hown' : (wr.drewN nq).ownsRow wrB 2 1 u11 (reasRow t cuts key door x k).length ((reasRow t cuts key door x k).map (Value.int .i64)) := hown
              have hzq : wr.heap.size ≤ (wr.drewN nq).heap.size := Nat.le_refl _
              go_wp2_with (at_builtin; refine wp_app1 _ rfl _ _ 29 rfl wrB 2 (.int .i64 0) 8 Try.underlying29 inf_int rfl _ _ _ rfl hown' (.int .i64 k) _ rfl rfl (by omega) (by omega) (by omega) ?_; intro v1 w1 hown1 hgrow1 hblk1 hB1)
              go_roundw
              case rel => exact ⟨k + 1, by omega, by go_num, by rw [Hst.out, List.map_append, List.length_append]; exact hown1, (below_drewN hBn _).trans (hB1.mono (Nat.le_refl _))⟩
              case measure => simp [intOf]; omega
            · have e3 : (geti (getl cuts k) x == geti (getl cuts key) x) = false := by simp [h2]
              have hst : reasRow t cuts key door x (k + 1) = reasRow t cuts key door x k := by rw [reasRow, if_neg (fun h => h2 h.2)]
              have Hst := Lib.hid hst; clear hst
              have H1 := Lib.hid h1; clear h1
              have H2 := Lib.hid h2; clear h2
              go_wp2_with fail
              go_quiet (fail)
              go_wp2_with fail
              go_roundw
              case rel => exact ⟨k + 1, by omega, by go_num, by rw [Hst.out]; exact hown, below_drewN hBn _⟩
              case measure => simp [intOf]; omega
          · have e2 : (geti (getl t k) door == 1) = false := by simp [h1]
            have hst : reasRow t cuts key door x (k + 1) = reasRow t cuts key door x k := by rw [reasRow, if_neg (fun h => h1 h.1)]
            have Hst := Lib.hid hst; clear hst
            have H1 := Lib.hid h1; clear h1
            go_wp2_with fail
            go_quiet (fail)
            go_wp2_with fail
            go_roundw
            case rel => exact ⟨k + 1, by omega, by go_num, by rw [Hst.out]; exact hown, below_drewN hBn _⟩
            case measure => simp [intOf]; omega
        · obtain rfl : k = cuts.length := by omega
          obtain ⟨vs, bk, g1, g2, g3⟩ := HO.out
          have hBwo : Below wo.heap.size wo wr := hBn.mono (by omega)
          obtain ⟨bx1, hx1, hbx⟩ := own_F1 hown
          have hO4 := own_chg g1 (Chg.of_below (F := fun _ => False) hBwo) (fun _ _ h => h)
          obtain ⟨ra, rc, rfl, hrc1, hrc2⟩ := own_form hown
          have hlx := Nat.le_of_eq (reasRows_len t cuts key door x)
          have G := Lib.hid (And.intro g1 (And.intro g2 g3)); clear g1 g2 g3
          have Hx1 := Lib.hid (And.intro hx1 hbx); clear hx1 hbx hown hxb
          go_wp2_with (at_builtin; refine wp_app1 _ rfl _ _ 24 rfl W1.heap.size 29 (.slice none 0 0) 24 Try.underlying24 inf_ints rfl _ _ _ rfl hO4 (.slice ra (reasRow t cuts key door x cuts.length).length rc) _ rfl rfl (by omega) (by omega) (by omega) ?_; intro v1 w1 hown1 hgrow1 hblk1 hB1)
          go_roundw
          case rel => exact ⟨x + 1, by omega, by go_num, by rw [reasRows_succ]; exact Out2.push G.out.1 G.out.2.1 G.out.2.2 hzr hBwo Hx1.out.1 (fun hn => by have := Hx1.out.2 hn; omega) hown1 hgrow1 hblk1, (hB.trans (hBwo.mono hzr)).trans hB1⟩
          case measure => simp [intOf]; omega
    · obtain rfl : x = n := by omega
      have hfx := hO.f2
      go_wp2_with fail
      go_ret
      exact ⟨_, rfl, F2.mono hfx (by omega), hB01.trans (hB.mono (by omega))⟩
end Go.Proofs.Ytbckginfipeibaa
