/- The locks of doors for partial cuts, as the reference makes them. No conditions. -/
import Derived.Test.YtlfnadmbelngeaaLocks
namespace Go.Proofs.Ytlfnadmbelngeaa
open Go.RowKit
set_option linter.unusedVariables false
set_option linter.unusedSimpArgs false

set_option maxRecDepth 100000 in
set_option maxHeartbeats 2000000 in
theorem l15Lock_any {S S' : Nat → Prop} (m : Mk) (u v : Value) (t cuts : List (List Int)) (d n : Nat) (W : World) (hf : Fits m t cuts) (hn : (n : Int) = m.c) (hd : d < (getl t 0).length) (h : V2 S W u t) (hc : V2 S' W v cuts) :
    Calls Try.prog 50 #[.agg #[.int .i64 m.c, .int .i64 m.d, .int .i64 m.s, .int .i64 m.e, .int .i64 m.l, u], v, .int .i64 d] W fun e' w' => ∃ v', e' = .returned (.agg #[v']) ∧ F2 W.heap.size w' v' (lockR n t cuts d) ∧ Below W.heap.size W w' := by
  obtain ⟨a, c, rfl, hmx⟩ := h.form
  obtain ⟨a', c', rfl, hmx'⟩ := hc.form
  have hrows := hf.rows
  have hfew := hf.few
  have hok := hf.ok
  have hdd : ∀ k, k < t.length → d < (getl t k).length := fun k hk => by rw [hf.cols k hk]; exact hd
  have hlk := doorCuts_lens (d := d) hf hn
  have hdp := doorCuts_deps (d := d) hf hn
  have Hdd := Lib.hid hdd; clear hdd
  have Hlk := Lib.hid (And.intro hlk hdp); clear hlk hdp
  have Hok := Lib.hid (And.intro hok hn); clear hok hf hn
  obtain ⟨W1, hW1, hB01, hz01, HZ01, hc01, hh01, hc02, hh02⟩ := two_boxes W #[.int .i64 m.c, .int .i64 m.d, .int .i64 m.s, .int .i64 m.e, .int .i64 m.l, .slice a t.length c] #[.slice none 0 0] 34 62
  have hV1 := (h.below hB01).any
  have hC1 := (hc.below hB01).any
  have hown0 := own_lit0 W1 W1.heap.size 27 1 (Nat.le_refl _)
  go_enter Try.func50, Try.ntmps50
  go_wp2_with fail
  rw [← hW1, show W.heap.size + 1 + 1 = W1.heap.size from HZ01.out.symm]
  have HW1 := Lib.hid hW1; clear hW1
  have Hc01 := Lib.hid (And.intro hc01 (And.intro hh01 (And.intro hc02 hh02))); clear hc01 hh01 hc02 hh02
  go_loopw [7, 8] (fun o i wn => ∃ (j : Nat) (vs : List Value), j ≤ cuts.length ∧ i = .int .i64 (j : Int) ∧ wn.ownsRow W1.heap.size 27 1 o (doorCuts t cuts d j).length vs ∧ RowVs (fun _ => True) W1 vs (doorCuts t cuts d j) ∧ Below W1.heap.size W1 wn) (fun _ i _ => cuts.length - (intOf i).toNat)
  case atStart => exact ⟨0, [], Nat.zero_le _, rfl, hown0, RowVs.nil, (Below.refl _ _).alloc (Nat.le_refl _) _⟩
  case round =>
    obtain ⟨j, vs, hj, rfl, hown, hR, hBn⟩ := hrel
    have hzn := hBn.size
    have hzn1 : W.heap.size < wr.heap.size := by omega
    have hxn : ∀ o, wr.cell? ⟨W.heap.size, o, none⟩ = (#[.int .i64 m.c, .int .i64 m.d, .int .i64 m.s, .int .i64 m.e, .int .i64 m.l, .slice a t.length c] : Array Value)[o]? := fun o => by rw [(bcell hBn).1 _ _ (by omega), Hc01.out.1]
    have hdrl := doorCuts_len t cuts d j
    by_cases hjj : j < cuts.length
    · have hjt : j < t.length := by omega
      have hkj := Hdd.out j hjt
      obtain ⟨b1, off1, a1, c1, rfl, _, hc1, hr1⟩ := (hV1.below hBn).cell hjt
      obtain ⟨b2, off2, rfl, _, hc2⟩ := hr1.cell hkj
      obtain ⟨b3, off3, a3, c3, rfl, _, hc3', hr3'⟩ := hC1.cell hjj
      have hc3 := cell_keep hc3' (hBn.block _ (lt_of_cell hc3'))
      clear hc3'
      have hgl : (getl t j).length ≤ maxLen := hr1.len
      have hgl3 : (getl cuts j).length ≤ maxLen := hr3'.len
      unfold maxLen at hgl hgl3
      by_cases h1 : geti (getl t j) d = 1
      · have e1 : (geti (getl t j) d == 1) = true := by simp [h1]
        have hst : doorCuts t cuts d (j + 1) = doorCuts t cuts d j ++ [getl cuts j] := by rw [doorCuts, if_pos h1]
        have Hst := Lib.hid hst; clear hst
        have H1 := Lib.hid h1; clear h1
        go_wp2_with (at_builtin; refine wp_app1 _ rfl _ _ 24 rfl W1.heap.size 27 (.slice none 0 0) 24 Try.underlying24 inf_ints rfl _ _ _ rfl hown (.slice a3 (getl cuts j).length c3) _ rfl rfl (by omega) (by omega) (by omega) ?_; intro v1 w1 hown1 hgrow1 hblk1 hB1)
        go_roundw
        case rel => exact ⟨j + 1, _, by omega, by go_num, by rw [Hst.out, List.length_append]; exact hown1, by rw [Hst.out]; exact hR.snoc hr3', hBn.trans (hB1.mono (Nat.le_refl _))⟩
        case measure => simp [intOf]; omega
      · have e1 : (geti (getl t j) d == 1) = false := by simp [h1]
        have hst : doorCuts t cuts d (j + 1) = doorCuts t cuts d j := by rw [doorCuts, if_neg h1]
        have Hst := Lib.hid hst; clear hst
        have H1 := Lib.hid h1; clear h1
        go_wp2_with fail
        go_roundw
        case rel => exact ⟨j + 1, _, by omega, by go_num, by rw [Hst.out]; exact hown, by rw [Hst.out]; exact hR, hBn⟩
        case measure => simp [intOf]; omega
    · obtain rfl : j = cuts.length := by omega
      have hV4 := own_V2 hown (hR.keep (Below.keep hBn fun _ _ h => h))
      obtain ⟨ka, kc, rfl, hkc1, hkc2⟩ := own_form hown
      have hres : wr.heap[W.heap.size + 1]? = some (.cells #[.slice none 0 0] 62 (0, 0)) := heap_below Hc01.out.2.2.2 hBn hz01
      have Hres := Lib.hid hres; clear hres
      clear hown hR
      go_wp2_with fail
      refine (l04Hull_any m Hok.out.1 _ (doorCuts t cuts d cuts.length) n _ Hok.out.2 hV4 (by omega) Hlk.out.1 Hlk.out.2).mono ?_
      rintro e' w4 ⟨v4, rfl, hF4, hb4⟩
      have hres4 := heap_below Hres.out hb4 (by omega)
      have hrc := cell_of_block hres4 0
      have hrf := frozen_of_block hres4 0
      obtain ⟨a4, c4, rfl, _⟩ := hF4.v2.form
      have hln := Nat.le_of_eq (hullR_len (doorCuts t cuts d cuts.length) n)
      have hrs := cell_of_block (heap_setCell_self (off := 0) hres4 (.slice a4 (hullR (doorCuts t cuts d cuts.length) n).length c4)) 0
      have Hrs := Lib.hid hrs; clear hrs hres4 hV4 hxn
      have HF4 := Lib.hid hF4; clear hF4
      have hz4 := hb4.size
      go_wp2_with fail
      have hrs := Hrs.out
      simp at hrs
      refine bodyPost_ret (v := .agg #[.slice a4 (hullR (doorCuts t cuts d cuts.length) n).length c4]) (by simp [results, Try.results50, go_sem, hrs]) rfl ⟨_, rfl, ?_, ?_⟩
      · exact (F2.set HF4.out (by omega)).mono (by omega)
      · have hbb := (hB01.trans (hBn.mono (by omega))).trans (hb4.mono (by omega))
        exact by (repeat (first | (with_reducible refine Below.setCell ?_ ?_ _) | (with_reducible refine Below.alloc ?_ ?_ _) | (with_reducible refine Below.drew ?_) | (with_reducible refine below_drewN ?_ _) | (with_reducible exact Below.refl _ _) | (with_reducible assumption) | (with_reducible refine Below.trans ?_ (Below.mono (by with_reducible assumption) ?_)) | go_size))

set_option maxRecDepth 100000 in
set_option maxHeartbeats 2000000 in
theorem l15Locks_any {S S' : Nat → Prop} (m : Mk) (u v : Value) (t cuts : List (List Int)) (n : Nat) (W : World) (hf : Fits m t cuts) (hn : (n : Int) = m.c) (h : V2 S W u t) (hc : V2 S' W v cuts) :
    Calls Try.prog 68 #[.agg #[.int .i64 m.c, .int .i64 m.d, .int .i64 m.s, .int .i64 m.e, .int .i64 m.l, u], v] W fun e' w' => ∃ v', e' = .returned v' ∧ V3 (fun b => W.heap.size ≤ b) w' v' (locksTo n t cuts (getl t 0).length) ∧ Below W.heap.size W w' := by
  obtain ⟨a, c, rfl, hmx⟩ := h.form
  obtain ⟨a', c', rfl, hmx'⟩ := hc.form
  have hrows := hf.rows
  have hdoors := hf.doors
  have hfew := hf.few
  have Hf := Lib.hid (And.intro hf hn); clear hf hn
  obtain ⟨W1, hW1, hB01, hz01, HZ01, hc01, hh01⟩ := box_facts W #[.int .i64 m.c, .int .i64 m.d, .int .i64 m.s, .int .i64 m.e, .int .i64 m.l, .slice a t.length c] 34
  have hV1 := (h.below hB01).any
  have hC1 := (hc.below hB01).any
  obtain ⟨b0, off0, a0, c0, rfl, _, hcc0, hr0⟩ := hV1.cell (k := 0) (by omega)
  simp only [Nat.add_zero] at hcc0
  have hl0 := hr0.len
  unfold maxLen at hl0
  have hout0 := OutL.start W1 W1.heap.size (Nat.le_refl _)
  have Hout0 := Lib.hid hout0; clear hout0
  go_enter Try.func68, Try.ntmps68
  go_wp2_with fail
  rw [← hW1, show W.heap.size + 1 = W1.heap.size from HZ01.out.symm]
  have HW1 := Lib.hid hW1; clear hW1 hh01
  have Hc01 := Lib.hid hc01; clear hc01
  have Hcc0 := Lib.hid hcc0; clear hcc0
  go_loopw [5, 6] (fun ou i wr => ∃ x : Nat, x ≤ (getl t 0).length ∧ i = .int .i64 (x : Int) ∧ OutL W1.heap.size wr ou (locksTo n t cuts x) ∧ Below W1.heap.size W1 wr) (fun _ i _ => (getl t 0).length - (intOf i).toNat)
  case atStart => exact ⟨0, Nat.zero_le _, rfl, Hout0.out, (Below.refl _ _).alloc (Nat.le_refl _) _⟩
  case round =>
    obtain ⟨x, hx, rfl, hO, hB⟩ := hrel
    obtain ⟨wo, rfl⟩ : ∃ wo, wo = wr := ⟨_, rfl⟩
    have hzr := hB.size
    have hzo : W.heap.size < wo.heap.size := by omega
    have hxo : ∀ o, wo.cell? ⟨W.heap.size, o, none⟩ = (#[.int .i64 m.c, .int .i64 m.d, .int .i64 m.s, .int .i64 m.e, .int .i64 m.l, .slice (some ⟨b0, off0, none⟩) t.length c] : Array Value)[o]? := fun o => by rw [(bcell hB).1 _ _ hz01, Hc01.out]
    have hcc := cell_keep Hcc0.out (hB.block _ (lt_of_cell Hcc0.out))
    by_cases hxn : x < (getl t 0).length
    · obtain ⟨vs4, g1, g2⟩ := hO
      have G := Lib.hid (And.intro g1 g2); clear g1 g2
      go_wp2_with fail
      refine (l15Lock_any m _ _ t cuts x n _ Hf.out.1 Hf.out.2 hxn (hV1.below hB) (hC1.below hB)).mono ?_
      rintro e' w4 ⟨v4, rfl, hF4, hb4⟩
      have hO4 := own_chg G.out.1 (Chg.of_below (F := fun _ => False) hb4) (fun _ _ h => h)
      have hz4 := hb4.size
      obtain ⟨a4, c4, rfl, _⟩ := hF4.v2.form
      have hlx := Nat.le_of_eq (locksTo_len n t cuts x)
      have HF4 := Lib.hid hF4; clear hF4 hxo hcc
      go_wp2_with (at_builtin; refine wp_app1 _ rfl _ _ 66 rfl W1.heap.size 62 (.agg #[.slice none 0 0]) 24 Try.underlying66 inf_lock rfl _ _ _ rfl hO4 (.slice a4 (lockR n t cuts x).length c4) _ rfl rfl (by omega) (by omega) (by omega) ?_; intro v1 w1 hown1 hgrow1 hblk1 hB1)
      go_roundw
      case rel => exact ⟨x + 1, by omega, by go_num, by rw [locksTo]; exact OutL.push G.out.1 G.out.2 hzr hb4 HF4.out (Nat.le_refl _) hown1 hgrow1 hblk1, (hB.trans (hb4.mono hzr)).trans hB1⟩
      case measure => simp [intOf]; omega
    · obtain rfl : x = (getl t 0).length := by omega
      have hfx := hO.v3
      have Hfx := Lib.hid hfx; clear hfx
      go_wp2_with fail
      go_ret
      exact ⟨_, rfl, Hfx.out.mono (fun b h _ => by have : W1.heap.size ≤ b := h; omega) (fun _ _ _ => rfl), hB01.trans (hB.mono (by omega))⟩
end Go.Proofs.Ytlfnadmbelngeaa
