/- The different rows of a reason, as the reference finds them. No conditions. -/
import Derived.Test.YtmjplkbmhdkggaaGreatMDraw17
import Derived.Test.YtmjplkbmhdkggaaGreatMFalse
import Derived.Test.YtmjplkbmhdkggaaGreatMDraw14
namespace Go.Proofs.YtmjplkbmhdkggaaGreat
open Go.RowKit
set_option linter.unusedVariables false
set_option linter.unusedSimpArgs false
def lenOf : Value → Nat
 | .slice _ n _ => n
 | _ => 0
theorem diffI_len (l : List Int) (h : l.length ≤ 100) : (diffI l).length ≤ 100 := by
 unfold diffI Go.Lib.compact Go.Lib.compactUpTo
 rw [List.length_map]
 refine Nat.le_trans (List.length_filter_le _ _) ?_
 simpa using h
set_option maxHeartbeats 600000 in
theorem l18Different_any {S : Nat → Prop} (v : Value) (l : List Int) (W : World) (h : V1 S W v l) (hn : numB l = true) :
  Calls Tryz.prog 76 #[v] W fun e' w' => ∃ v', e' = .returned v' ∧ F1 W.heap.size w' v' (diffI l) ∧ Below W.heap.size W w' := by
 have hV := h
 obtain ⟨a, c, rfl, hm⟩ := h.form
 obtain ⟨hl, hr⟩ := numB_iff.1 hn
 obtain ⟨hs, hmem⟩ := diffI_sort l
 have hDl : ∀ k, k ≤ (diffI l).length → minAbove l (lowOf (diffI l) k) l.length = if k < (diffI l).length then geti (diffI l) k else -1 := fun k hk => minAbove_next hs hmem (fun x hx => (hr x hx).1) hk
 have hD0 : ∀ k, k < (diffI l).length → 0 ≤ geti (diffI l) k ∧ geti (diffI l) k ≤ 1000000000000 := fun k hk => hr _ ((hmem _).1 (geti_mem hk))
 have hDlen : (diffI l).length ≤ 100 := by
  exact diffI_len l hl
 generalize diffI l = D at *
 obtain ⟨B, hBs⟩ : ∃ B, B = W.heap.size := ⟨_, rfl⟩
 rw [← hBs]
 have hown0 := own_lit0 W B 2 1 (by omega)
 have hBle : W.heap.size ≤ B := by omega
 have hBge : B ≤ W.heap.size := by omega
 have Hnext := Lib.hid hDl
 have HD0 := Lib.hid hD0
 have Hr := Lib.hid hr
 clear hBs hs hmem hDl hD0 hr hn
 go_enter Tryz.func76, Tryz.ntmps76
 go_wp2_with fail
 go_loopw [3, 4, 5] (fun ro _ _ wr => ∃ k : Nat, k ≤ D.length ∧ wr.ownsRow B 2 1 ro k ((D.take k).map (Value.int .i64)) ∧ Below B W wr) (fun ro _ _ _ => D.length - lenOf ro)
 case atStart => exact ⟨0, Nat.zero_le _, hown0, (Below.refl _ _).alloc (by omega) _⟩
 case round =>
  obtain ⟨k, hk, hown, hB⟩ := hrel
  obtain ⟨wo, rfl⟩ : ∃ wo, wo = wr := ⟨_, rfl⟩
  have hzr := hB.size
  obtain ⟨lo, hlo⟩ : ∃ lo, lo = lowOf D k := ⟨_, rfl⟩
  have hVo := hV.below (hB.mono hBle)
  obtain ⟨ao, co, rfl, hco1, hco2⟩ := own_form hown
  unfold maxLen at hco2
  by_cases hk0 : k = 0
  ·have Hlo1 : Hid (lo = -1) := Lib.hid (by rw [hlo]; unfold lowOf; rw [if_pos hk0])
   have Hlo := Lib.hid hlo; clear hlo
   have hkz : ((k : Int) == 0) = true := by simp [hk0]
   have Hk0 := Lib.hid hk0; clear hk0
   go_wp2_with fail
   go_loopw [4, 5] (fun lv iv wn => ∃ (i nq : Nat), i ≤ l.length ∧ iv = .int .i64 (i : Int) ∧ lv = .int .i64 (minAbove l lo i) ∧ wn = wo.drewN nq) (fun _ iv _ => l.length - (intOf iv).toNat)
   case atStart => exact ⟨0, 0, Nat.zero_le _, rfl, rfl, rfl⟩
   case round =>
    obtain ⟨i, nq, hi, rfl, rfl, rfl⟩ := hrel
    obtain ⟨q, hqe⟩ : ∃ q, q = minAbove l lo i := ⟨_, rfl⟩
    rw [← hqe]
    by_cases hii : i < l.length
    ·obtain ⟨b1, off1, rfl, _, hc1⟩ := hVo.cell hii
     have hx := Hr.out _ (geti_mem hii)
     have Hq := Lib.hid hqe; clear hqe
     have hgt : lo < geti l i := by rw [Hlo1.out]; omega
     by_cases hq : q < 0
     ·have hqd : decide (q < 0) = true := decide_eq_true hq
      go_wp2_with fail
      go_quiet (fail)
      go_wp2_with fail
      go_roundw
      case rel => exact ⟨i + 1, _, by omega, by go_num, by unfold minAbove; rw [if_pos ⟨hgt, .inl (by rw [← Hq.out]; exact hq)⟩]; try rw [← Hq.out], by first | rfl | simp only [World.drewN_drewN]⟩
      case measure => simp [intOf]; omega
     ·have hqd : decide (q < 0) = false := decide_eq_false hq
      by_cases hlt : geti l i < q
      ·have hld : decide (geti l i < q) = true := decide_eq_true hlt
       go_wp2_with fail
       go_quiet (fail)
       go_wp2_with fail
       go_roundw
       case rel => exact ⟨i + 1, _, by omega, by go_num, by unfold minAbove; rw [if_pos ⟨hgt, .inr (by rw [← Hq.out]; exact hlt)⟩]; try rw [← Hq.out], by first | rfl | simp only [World.drewN_drewN]⟩
       case measure => simp [intOf]; omega
      ·have hld : decide (geti l i < q) = false := decide_eq_false hlt
       go_wp2_with fail
       go_quiet (fail)
       go_wp2_with fail
       go_roundw
       case rel => exact ⟨i + 1, _, by omega, by go_num, by unfold minAbove; rw [if_neg (fun hx => by rw [← Hq.out] at hx; rcases hx.2 with h | h <;> omega)]; try rw [← Hq.out], by first | rfl | simp only [World.drewN_drewN]⟩
       case measure => simp [intOf]; omega
    ·have hlo := Hlo.out
     obtain rfl : i = l.length := by omega
     have hown2 := own_chg hown (Chg.of_below (F := fun _ => False) (below_drewN (Below.refl _ _) nq)) (fun _ _ h => h)
     have hB2 := below_drewN hB nq
     generalize wo.drewN nq = wz at *
     have hzz := hB2.size
     have hnx := Hnext.out k hk
     rw [← hlo] at hnx
     rw [hnx] at hqe
     by_cases hkD : k < D.length
     ·rw [if_pos hkD] at hqe
      have hD0 := HD0.out k hkD
      have hst : D.take (k + 1) = D.take k ++ [geti D k] := by rw [List.take_add_one, List.getElem?_eq_getElem hkD, geti_eq hkD]; rfl
      have Hst := Lib.hid hst; clear hst
      subst hqe
      have hq0 : ¬ geti D k < 0 := by omega
      clear hnx hlo
      go_wp2_with (at_builtin; refine wp_app1 _ rfl _ _ 44 rfl B 2 (.int .i64 0) 8 Tryz.underlying44 inf_int rfl _ _ _ rfl hown2 (.int .i64 (geti D k)) _ rfl rfl (by omega) (by omega) (by omega) ?_; intro v1 w1 hown1 hgrow1 hblk1 hB1)
      go_roundw
      case rel => exact ⟨k + 1, by omega, by rw [Hst.out, List.map_append]; exact hown1, hB2.trans hB1⟩
      case measure =>
       obtain ⟨a1, c1, e1, _⟩ := own_form hown1
       rw [e1]; simp [lenOf]; omega
     ·obtain rfl : k = D.length := by omega
      rw [if_neg hkD] at hqe
      subst hqe
      rw [List.take_length] at hown2
      clear hnx hlo
      go_wp2_with fail
      go_ret
      exact ⟨_, rfl, own_F1 hown2, hB2⟩
  ·have hlo1 : lo = geti D (k - 1) := by rw [hlo]; unfold lowOf; rw [if_neg hk0]
   have hk1 : 0 < k := by omega
   have hkz : ((k : Int) == 0) = false := by simp [hk0]
   have hlk : (D.take k).length = k := by rw [List.length_take]; omega
   obtain ⟨b2, off2, rfl, _, hc2⟩ := (own_V1 hown).cell (k := k - 1) (by rw [hlk]; omega)
   rw [geti_take (by omega), ← hlo1] at hc2
   have Hlo := Lib.hid hlo; clear hlo hlo1 hlk hk0
   have Hown := Lib.hid hown; clear hown
   go_wp2_with fail
   go_loopw [4, 5] (fun lv iv wn => ∃ (i nq : Nat), i ≤ l.length ∧ iv = .int .i64 (i : Int) ∧ lv = .int .i64 (minAbove l lo i) ∧ wn = wo.drewN nq) (fun _ iv _ => l.length - (intOf iv).toNat)
   case atStart => exact ⟨0, 0, Nat.zero_le _, rfl, rfl, rfl⟩
   case round =>
    obtain ⟨i, nq, hi, rfl, rfl, rfl⟩ := hrel
    obtain ⟨q, hqe⟩ : ∃ q, q = minAbove l lo i := ⟨_, rfl⟩
    rw [← hqe]
    by_cases hii : i < l.length
    ·obtain ⟨b1, off1, rfl, _, hc1⟩ := hVo.cell hii
     have hx := Hr.out _ (geti_mem hii)
     have Hq := Lib.hid hqe; clear hqe
     by_cases hgt : lo < geti l i
     ·have hgd : decide (lo < geti l i) = true := decide_eq_true hgt
      have Hgt := Lib.hid hgt; clear hgt
      by_cases hq : q < 0
      ·have hqd : decide (q < 0) = true := decide_eq_true hq
       go_wp2_with fail
       go_quiet (fail)
       go_wp2_with fail
       go_roundw
       case rel => exact ⟨i + 1, _, by omega, by go_num, by unfold minAbove; rw [if_pos ⟨Hgt.out, .inl (by rw [← Hq.out]; exact hq)⟩]; try rw [← Hq.out], by first | rfl | simp only [World.drewN_drewN]⟩
       case measure => simp [intOf]; omega
      ·have hqd : decide (q < 0) = false := decide_eq_false hq
       by_cases hlt : geti l i < q
       ·have hld : decide (geti l i < q) = true := decide_eq_true hlt
        go_wp2_with fail
        go_quiet (fail)
        go_wp2_with fail
        go_roundw
        case rel => exact ⟨i + 1, _, by omega, by go_num, by unfold minAbove; rw [if_pos ⟨Hgt.out, .inr (by rw [← Hq.out]; exact hlt)⟩]; try rw [← Hq.out], by first | rfl | simp only [World.drewN_drewN]⟩
        case measure => simp [intOf]; omega
       ·have hld : decide (geti l i < q) = false := decide_eq_false hlt
        go_wp2_with fail
        go_quiet (fail)
        go_wp2_with fail
        go_roundw
        case rel => exact ⟨i + 1, _, by omega, by go_num, by unfold minAbove; rw [if_neg (fun hx => by rw [← Hq.out] at hx; rcases hx.2 with h | h <;> omega)]; try rw [← Hq.out], by first | rfl | simp only [World.drewN_drewN]⟩
        case measure => simp [intOf]; omega
     ·have hgd : decide (lo < geti l i) = false := decide_eq_false hgt
      have Hgt := Lib.hid hgt; clear hgt
      go_wp2_with fail
      go_quiet (fail)
      go_wp2_with fail
      go_roundw
      case rel => exact ⟨i + 1, _, by omega, by go_num, by unfold minAbove; rw [if_neg (fun hx => by have h1 := hx.1; have h2 := Hgt.out; omega)]; try rw [← Hq.out], by first | rfl | simp only [World.drewN_drewN]⟩
      case measure => simp [intOf]; omega
    ·have hlo := Hlo.out
     have hown := Hown.out
     clear hc2
     obtain rfl : i = l.length := by omega
     have hown2 := own_chg hown (Chg.of_below (F := fun _ => False) (below_drewN (Below.refl _ _) nq)) (fun _ _ h => h)
     have hB2 := below_drewN hB nq
     generalize wo.drewN nq = wz at *
     have hzz := hB2.size
     have hnx := Hnext.out k hk
     rw [← hlo] at hnx
     rw [hnx] at hqe
     by_cases hkD : k < D.length
     ·rw [if_pos hkD] at hqe
      have hD0 := HD0.out k hkD
      have hst : D.take (k + 1) = D.take k ++ [geti D k] := by rw [List.take_add_one, List.getElem?_eq_getElem hkD, geti_eq hkD]; rfl
      have Hst := Lib.hid hst; clear hst
      subst hqe
      have hq0 : ¬ geti D k < 0 := by omega
      clear hnx hlo
      go_wp2_with (at_builtin; refine wp_app1 _ rfl _ _ 44 rfl B 2 (.int .i64 0) 8 Tryz.underlying44 inf_int rfl _ _ _ rfl hown2 (.int .i64 (geti D k)) _ rfl rfl (by omega) (by omega) (by omega) ?_; intro v1 w1 hown1 hgrow1 hblk1 hB1)
      go_roundw
      case rel => exact ⟨k + 1, by omega, by rw [Hst.out, List.map_append]; exact hown1, hB2.trans hB1⟩
      case measure =>
       obtain ⟨a1, c1, e1, _⟩ := own_form hown1
       rw [e1]; simp [lenOf]; omega
     ·obtain rfl : k = D.length := by omega
      rw [if_neg hkD] at hqe
      subst hqe
      rw [List.take_length] at hown2
      clear hnx hlo
      go_wp2_with fail
      go_ret
      exact ⟨_, rfl, own_F1 hown2, hB2⟩
theorem RowsOfR_any {S : Nat → Prop} (v : Value) (l : List Int) (W : World) (h : V1 S W v l) :
  Calls Tryz.prog 27 #[v] W fun e' w' => ∃ v', e' = .returned (.tuple #[v', .int .i64 (rowsAns l).2]) ∧ F1 W.heap.size w' v' (rowsAns l).1 ∧ Below W.heap.size W w' := by
 have hV := h
 obtain ⟨a, c, rfl, hm⟩ := h.form
 have hnum := l01Numbers_any _ l W hV
 by_cases hn : numB l = true
 ·have ha : rowsAns l = (diffI l, 0) := by unfold rowsAns; rw [if_pos hn]
  rw [ha]
  have hdf := l18Different_any _ l W hV hn
  rw [hn] at hnum
  clear hn ha
  go_enter Tryz.func27, Tryz.ntmps27
  go_wp2_with fail
  refine hnum.mono ?_
  rintro e' w1 ⟨rfl, rfl⟩
  go_wp2_with fail
  refine hdf.mono ?_
  rintro e' w2 ⟨v2, rfl, hF, hB⟩
  have HF := Lib.hid hF; clear hF hdf hnum
  go_wp2_with fail
  go_ret2
  exact ⟨_, rfl, HF.out, hB⟩
 ·have ha : rowsAns l = ([], 2) := by unfold rowsAns; rw [if_neg hn]
  rw [ha]
  rw [show numB l = false by simpa using hn] at hnum
  clear hn ha
  go_enter Tryz.func27, Tryz.ntmps27
  go_wp2_with fail
  refine hnum.mono ?_
  rintro e' w1 ⟨rfl, rfl⟩
  go_wp2_with fail
  go_ret2
  exact ⟨_, rfl, F1.nil, Below.refl _ _⟩
/-- The first false opening, or 4. -/
def firstPair (L : List (List Int)) : Int × Int × Int := if L.length = 0 then (0, 0, 4) else (geti (getl L 0) 0, geti (getl L 0) 1, 0)
def pfAns (m : Mk) (t cuts : List (List Int)) : Int × Int × Int := if partC m t cuts ≠ 0 then (0, 0, partC m t cuts) else firstPair (falseL m.c.toNat t cuts)
theorem falseL_get {n : Nat} {t cuts : List (List Int)} {k : Nat} (hk : k < (falseL n t cuts).length) : ∃ i d : Nat, i < cuts.length ∧ d < (getl t 0).length ∧ getl (falseL n t cuts) k = [(i : Int), (d : Int)] ∧ geti (getl t i) d = 0 ∧ opensB (lockR n t cuts d) (getl cuts i) = true := by
 obtain ⟨i, d, h1, h2, h3, h4, h5⟩ := mem_falseRows.1 (getl_mem hk)
 rw [locksTo_get h2] at h5
 exact ⟨i, d, h1, h2, h3, h4, h5⟩
/-- A false opening has a reason. -/
theorem false_reason {n : Nat} {t cuts : List (List Int)} {i d : Nat} (hlen : (getl cuts i).length = n) (ho : opensB (lockR n t cuts d) (getl cuts i) = true) : allR (reasRows t cuts i d n) ≠ [] := by
 have hne : ∀ c, c < n → 0 < (reasRow t cuts i d c cuts.length).length := fun c hc => by
  have h1 := opensB_iff.1 ho c (by omega)
  rw [lockR, hullR_get hc] at h1
  have h2 := ((diffI_sort _).2 _).1 h1
  unfold colOf at h2
  obtain ⟨k, hk, e⟩ := List.mem_map.1 h2
  obtain ⟨j, hj, rfl, hj1⟩ := mem_doorCuts hk
  exact List.length_pos_of_mem (mem_reasRow.2 ⟨j, hj, rfl, hj1, e⟩)
 intro hnil
 have : ((List.range n).map fun c => geti (reasRow t cuts i d c cuts.length) 0) ∈ allR (reasRows t cuts i d n) := by
  refine mem_allR.2 ⟨by simp [reasRows_len], fun k hk => ?_⟩
  rw [reasRows_len] at hk
  rw [reasRows_get hk, geti_eq (by simpa using hk)]
  simp only [List.getElem_map, List.getElem_range]
  exact geti_mem (hne k hk)
 rw [hnil] at this
 cases this
theorem false_best {n : Nat} {t cuts : List (List Int)} {i d N : Nat} (hlen : (getl cuts i).length = n) (ho : opensB (lockR n t cuts d) (getl cuts i) = true) : ∃ b, bestW N (allR (reasRows t cuts i d n)) = some b := by
 cases h : bestW N (allR (reasRows t cuts i d n)) with
 | none => exact absurd (bestW_none.1 h) (false_reason hlen ho)
 | some b => exact ⟨b, rfl⟩
/-- The blamed rows. -/
def blameAns (m : Mk) (t cuts : List (List Int)) : List Int × Int :=
 if (pfAns m t cuts).2.2 ≠ 0 then ([], (pfAns m t cuts).2.2) else
  (diffI ((bestW (reasRows t cuts (pfAns m t cuts).1.toNat (pfAns m t cuts).2.1.toNat m.c.toNat).length (allR (reasRows t cuts (pfAns m t cuts).1.toNat (pfAns m t cuts).2.1.toNat m.c.toNat))).getD [] ++ [(pfAns m t cuts).1]), 0)
/-- What is known where there is a false opening. -/
theorem pf_ok {m : Mk} {t cuts : List (List Int)} (h : (pfAns m t cuts).2.2 = 0) : partC m t cuts = 0 ∧ ∃ i d : Nat, i < cuts.length ∧ d < (getl t 0).length ∧ pfAns m t cuts = ((i : Int), (d : Int), 0) ∧ opensB (lockR m.c.toNat t cuts d) (getl cuts i) = true := by
 unfold pfAns at h ⊢
 by_cases hp : partC m t cuts = 0
 ·rw [if_neg (by rw [hp]; decide)] at h ⊢
  refine ⟨hp, ?_⟩
  unfold firstPair at h ⊢
  by_cases hl : (falseL m.c.toNat t cuts).length = 0
  ·rw [if_pos hl] at h; exact absurd h (by decide)
  ·rw [if_neg hl]
   obtain ⟨i, d, h1, h2, h3, h4, h5⟩ := falseL_get (k := 0) (Nat.pos_of_ne_zero hl)
   exact ⟨i, d, h1, h2, by rw [h3]; rfl, h5⟩
 ·rw [if_pos hp] at h; exact absurd h hp
/-- A system in a box, cuts beside it, while more is drawn. -/
structure KdAt (B0 SB : Nat) (W w3 : World) (m : Mk) (tv : Value) (T : List (List Int)) (cv : Value) (cuts : List (List Int)) (w : World) : Prop where
 src : Src B0 SB w
 only : Only SB W w
 hm : w.heap[w3.heap.size]? = some (.cells #[.int .i64 m.c, .int .i64 m.d, .int .i64 m.s, .int .i64 m.e, .int .i64 m.l, tv] 33 (0, 0))
 hr : w.heap[W.heap.size]? = some (.cells #[.int .i64 0, .int .i64 0, .int .i64 0, .int .i64 0, .int .i64 0, .slice none 0 0] 33 (0, 0))
 tab : V2 (fun b => W.heap.size < b ∧ b ≠ w3.heap.size) w tv T
 cut : V2 (fun b => W.heap.size < b ∧ b ≠ w3.heap.size) w cv cuts
theorem KdAt.step {B0 SB : Nat} {W w3 w w' : World} {m : Mk} {tv cv : Value} {T cuts : List (List Int)} (h : KdAt B0 SB W w3 m tv T cv cuts w) (hs : Src B0 SB w') (ho : Only SB w w') (h1 : SB < W.heap.size) (h3 : W.heap.size < w3.heap.size) : KdAt B0 SB W w3 m tv T cv cuts w' :=
 ⟨hs, h.only.trans ho, ho.heap h.hm (fun e => by omega), ho.heap h.hr (fun e => by omega), h.tab.mono (fun _ h _ => h) (fun b hb hlt => ho.block b hlt (fun e => by have := hb.1; omega)), h.cut.mono (fun _ h _ => h) (fun b hb hlt => ho.block b hlt (fun e => by have := hb.1; omega))⟩
def DrawKd (W : World) (e : Ending) (w' : World) : Prop :=
 ∃ (m : Mk) (u cv : Value) (T cuts : List (List Int)) (key door : Int), e = .returned (.tuple #[.agg #[.int .i64 m.c, .int .i64 m.d, .int .i64 m.s, .int .i64 m.e, .int .i64 m.l, u], cv, .int .i64 key, .int .i64 door]) ∧ V2 (fun b => W.heap.size ≤ b) w' u T ∧ V2 (fun b => W.heap.size ≤ b) w' cv cuts ∧ Below W.heap.size W w'
theorem DrawKd.open {W w' : World} {e : Ending} (h : DrawKd W e w') : ∃ (m : Mk) (u cv : Value) (T cuts : List (List Int)) (key door : Int), e = .returned (.tuple #[.agg #[.int .i64 m.c, .int .i64 m.d, .int .i64 m.s, .int .i64 m.e, .int .i64 m.l, u], cv, .int .i64 key, .int .i64 door]) ∧ V2 (fun b => W.heap.size ≤ b) w' u T ∧ V2 (fun b => W.heap.size ≤ b) w' cv cuts ∧ Below W.heap.size W w' := h
def DrawKdr (W : World) (e : Ending) (w' : World) : Prop :=
 ∃ (m : Mk) (u cv : Value) (T cuts : List (List Int)) (key door : Int) (kv : Value) (rs : List Int), e = .returned (.tuple #[.agg #[.int .i64 m.c, .int .i64 m.d, .int .i64 m.s, .int .i64 m.e, .int .i64 m.l, u], cv, .int .i64 key, .int .i64 door, kv]) ∧ V1 (fun b => W.heap.size ≤ b) w' kv rs ∧ V2 (fun b => W.heap.size ≤ b) w' u T ∧ V2 (fun b => W.heap.size ≤ b) w' cv cuts ∧ Below W.heap.size W w'
theorem DrawKdr.open {W w' : World} {e : Ending} (h : DrawKdr W e w') : ∃ (m : Mk) (u cv : Value) (T cuts : List (List Int)) (key door : Int) (kv : Value) (rs : List Int), e = .returned (.tuple #[.agg #[.int .i64 m.c, .int .i64 m.d, .int .i64 m.s, .int .i64 m.e, .int .i64 m.l, u], cv, .int .i64 key, .int .i64 door, kv]) ∧ V1 (fun b => W.heap.size ≤ b) w' kv rs ∧ V2 (fun b => W.heap.size ≤ b) w' u T ∧ V2 (fun b => W.heap.size ≤ b) w' cv cuts ∧ Below W.heap.size W w' := h
/-- A system in a box, cuts beside it, the result's cell, while more is drawn. -/
structure IrAt (W W1 w2 w3 : World) (m : Mk) (tv : Value) (T : List (List Int)) (cv : Value) (cuts : List (List Int)) (w : World) : Prop where
 src : Src W1.heap.size W1.heap.size w
 below : Below W.heap.size W w
 hm : w.heap[w3.heap.size]? = some (.cells #[.int .i64 m.c, .int .i64 m.d, .int .i64 m.s, .int .i64 m.e, .int .i64 m.l, tv] 33 (0, 0))
 hr : w.heap[W.heap.size]? = some (.cells #[.int .i64 0, .int .i64 0, .int .i64 0, .int .i64 0, .int .i64 0, .slice none 0 0] 33 (0, 0))
 tab : V2 (fun b => W1.heap.size < b ∧ b < w3.heap.size) w tv T
 cut : V2 (fun b => W1.heap.size < b ∧ b < w3.heap.size) w cv cuts
theorem IrAt.step {W W1 w2 w3 w w' : World} {m : Mk} {tv cv : Value} {T cuts : List (List Int)} (h : IrAt W W1 w2 w3 m tv T cv cuts w) (hs : Src W1.heap.size W1.heap.size w') (ho : Chg (fun b => b = W1.heap.size ∨ w3.heap.size < b) w w') (h1 : W.heap.size < W1.heap.size) (h3 : W1.heap.size < w3.heap.size) : IrAt W W1 w2 w3 m tv T cv cuts w' :=
 ⟨hs, h.below.trans ((Chg.to_below (B := W1.heap.size) ho (fun b hb => by omega) (by have := h.src.lt; omega)).mono (by omega)), ho.heap h.hm (fun e => by omega), ho.heap h.hr (fun e => by omega), h.tab.mono (fun _ h _ => h) (fun b hb hlt => ho.block b hlt (fun e => by have := hb.1; have := hb.2; omega)), h.cut.mono (fun _ h _ => h) (fun b hb hlt => ho.block b hlt (fun e => by have := hb.1; have := hb.2; omega))⟩
theorem Only.toF {SB : Nat} {F : Nat → Prop} {a b : World} (h : Only SB a b) (hF : F SB) : Chg F a b := Chg.mono h (fun b hb => by rw [hb]; exact hF)
def DrawCi (W : World) : Ending → World → Prop := DrawC W fun _ _ _ _ vs => ∃ n : Int, vs = [.int .i64 n]
def DrawCk (W : World) : Ending → World → Prop := DrawC W fun _ _ _ w' vs => ∃ kv key, vs = [kv] ∧ V1 (fun b => W.heap.size ≤ b) w' kv key
def DrawCkw (W : World) : Ending → World → Prop := DrawC W fun _ _ _ w' vs => ∃ kv key x y, vs = [kv, .int .i64 x, .int .i64 y] ∧ V1 (fun b => W.heap.size ≤ b) w' kv key
theorem DrawCi.open {W w' : World} {e : Ending} (h : DrawCi W e w') : ∃ (m : Mk) (u cv : Value) (T cuts : List (List Int)) (n : Int), e = .returned (.tuple #[.agg #[.int .i64 m.c, .int .i64 m.d, .int .i64 m.s, .int .i64 m.e, .int .i64 m.l, u], cv, .int .i64 n]) ∧ V2 (fun b => W.heap.size ≤ b) w' u T ∧ V2 (fun b => W.heap.size ≤ b) w' cv cuts ∧ Below W.heap.size W w' := by
 obtain ⟨m, u, cv, T, cuts, vs, rfl, ⟨n, rfl⟩, h1, h2, h3⟩ := h
 exact ⟨m, u, cv, T, cuts, n, rfl, h1, h2, h3⟩
theorem DrawCk.open {W w' : World} {e : Ending} (h : DrawCk W e w') : ∃ (m : Mk) (u cv : Value) (T cuts : List (List Int)) (kv : Value) (key : List Int), e = .returned (.tuple #[.agg #[.int .i64 m.c, .int .i64 m.d, .int .i64 m.s, .int .i64 m.e, .int .i64 m.l, u], cv, kv]) ∧ V1 (fun b => W.heap.size ≤ b) w' kv key ∧ V2 (fun b => W.heap.size ≤ b) w' u T ∧ V2 (fun b => W.heap.size ≤ b) w' cv cuts ∧ Below W.heap.size W w' := by
 obtain ⟨m, u, cv, T, cuts, vs, rfl, ⟨kv, key, rfl, h0⟩, h1, h2, h3⟩ := h
 exact ⟨m, u, cv, T, cuts, kv, key, rfl, h0, h1, h2, h3⟩
theorem DrawCkw.open {W w' : World} {e : Ending} (h : DrawCkw W e w') : ∃ (m : Mk) (u cv : Value) (T cuts : List (List Int)) (kv : Value) (key : List Int) (x y : Int), e = .returned (.tuple #[.agg #[.int .i64 m.c, .int .i64 m.d, .int .i64 m.s, .int .i64 m.e, .int .i64 m.l, u], cv, kv, .int .i64 x, .int .i64 y]) ∧ V1 (fun b => W.heap.size ≤ b) w' kv key ∧ V2 (fun b => W.heap.size ≤ b) w' u T ∧ V2 (fun b => W.heap.size ≤ b) w' cv cuts ∧ Below W.heap.size W w' := by
 obtain ⟨m, u, cv, T, cuts, vs, rfl, ⟨kv, key, x, y, rfl, h0⟩, h1, h2, h3⟩ := h
 exact ⟨m, u, cv, T, cuts, kv, key, x, y, rfl, h0, h1, h2, h3⟩
def slLen : Value → Nat
 | .slice _ n _ => n
 | _ => 0
/-- What a draw of a list from a code answers. -/
def DrawLi (W : World) (e : Ending) (w' : World) : Prop :=
 ∃ (v : Value) (l : List Int), e = .returned v ∧ V1 (fun b => W.heap.size ≤ b) w' v l ∧ Below W.heap.size W w'
set_option maxRecDepth 100000 in
set_option maxHeartbeats 1000000 in
theorem l01DrawNumber_any (B0 SB : Nat) (W : World) (h : Src B0 SB W) :
  Calls Tryz.prog 143 #[.pointer (some ⟨SB, 0, none⟩)] W fun e w' => ∃ x : Int, e = .returned (.int .i64 x) ∧ Src B0 SB w' ∧ Only SB W w' := by
 have hSl := h.lt
 have HL := Lib.hid h; clear h
 go_enter Tryz.func143, Tryz.ntmps143
 go_wp2_with fail
 refine (l01Next_any B0 SB 10 _ HL.out).mono ?_
 rintro e' w2 ⟨x, rfl, ⟨hx0, hx1⟩, hs2, ho2⟩
 have hz2 := ho2.size
 have H2 := Lib.hid (And.intro hs2 ho2); clear hs2 ho2
 by_cases hx : x = 0
 ·subst hx
  clear hx0 hx1
  obtain ⟨wa, hwa⟩ : ∃ wa, wa = w2.alloc (.cells #[.int .i64 0, .int .i64 1, .int .i64 1000000000000, .int .i64 1000000000001, .int .i64 (-1), .int .i64 1000000] 2) := ⟨_, rfl⟩
  have hbi : Below w2.heap.size w2 wa := by rw [hwa]; exact (Below.refl w2.heap.size w2).alloc (Nat.le_refl _) _
  have hL : V1 (fun b => b = w2.heap.size) wa (.slice (some ⟨w2.heap.size, 0, none⟩) 6 6) [0, 1, 1000000000000, 1000000000001, -1, 1000000] := by rw [hwa]; exact lit_V1 w2 2 [0, 1, 1000000000000, 1000000000001, -1, 1000000] (by simp)
  have HA := Lib.hid (And.intro (H2.out.1.below hbi) (And.intro (H2.out.2.then_below hbi) (And.intro hL hwa))); clear hbi hwa hL
  go_wp2_with fail
  rw [← HA.out.2.2.2]
  refine (l01Pick_any B0 SB _ [0, 1, 1000000000000, 1000000000001, -1, 1000000] wa HA.out.1 HA.out.2.2.1 (fun b hb => by omega) (by simp)).mono ?_
  rintro e' wb ⟨y, rfl, _, hsb, hob⟩
  have HB := Lib.hid (And.intro hsb (HA.out.2.1.trans hob)); clear hsb hob
  go_wp2_with fail
  go_ret
  exact ⟨_, rfl, HB.out.1, HB.out.2⟩
 ·have hxd : (x == 0) = false := by simp [hx]
  clear hx hx0 hx1
  go_wp2_with fail
  refine (l01Next_any B0 SB 10 _ H2.out.1).mono ?_
  rintro e' w3 ⟨z1, rfl, _, hs3, ho3⟩
  have hz3 := ho3.size
  have H3 := Lib.hid (And.intro hs3 (H2.out.2.trans ho3)); clear hs3 ho3
  go_wp2_with fail
  refine (l01Next_any B0 SB 100 _ H3.out.1).mono ?_
  rintro e' w4 ⟨z2, rfl, _, hs4, ho4⟩
  have hz4 := ho4.size
  have H4 := Lib.hid (And.intro hs4 (H3.out.2.trans ho4)); clear hs4 ho4
  go_wp2_with fail
  refine (l01Next_any B0 SB 5000 _ H4.out.1).mono ?_
  rintro e' w5 ⟨z3, rfl, _, hs5, ho5⟩
  have hz5 := ho5.size
  have H5 := Lib.hid (And.intro hs5 (H4.out.2.trans ho5)); clear hs5 ho5
  obtain ⟨wa, hwa⟩ : ∃ wa, wa = w5.alloc (.cells #[.int .i64 z1, .int .i64 z2, .int .i64 z3] 2) := ⟨_, rfl⟩
  have hbi : Below w5.heap.size w5 wa := by rw [hwa]; exact (Below.refl w5.heap.size w5).alloc (Nat.le_refl _) _
  have hL : V1 (fun b => b = w5.heap.size) wa (.slice (some ⟨w5.heap.size, 0, none⟩) 3 3) [z1, z2, z3] := by rw [hwa]; exact lit_V1 w5 2 [z1, z2, z3] (by simp)
  have HA := Lib.hid (And.intro (H5.out.1.below hbi) (And.intro (H5.out.2.then_below hbi) (And.intro hL hwa))); clear hbi hwa hL
  go_wp2_with fail
  rw [← HA.out.2.2.2]
  refine (l01Pick_any B0 SB _ [z1, z2, z3] wa HA.out.1 HA.out.2.2.1 (fun b hb => by omega) (by simp)).mono ?_
  rintro e' wb ⟨y, rfl, _, hsb, hob⟩
  have HB := Lib.hid (And.intro hsb (HA.out.2.1.trans hob)); clear hsb hob
  go_wp2_with fail
  go_ret
  exact ⟨_, rfl, HB.out.1, HB.out.2⟩
set_option maxRecDepth 100000 in
set_option maxHeartbeats 2000000 in
theorem l01DrawList_any (B0 SB : Nat) (W : World) (h : Src B0 SB W) :
  Calls Tryz.prog 85 #[.pointer (some ⟨SB, 0, none⟩)] W fun e w' => ∃ (v : Value) (l : List Int), e = .returned v ∧ F1 W.heap.size w' v l ∧ Src B0 SB w' ∧ Only SB W w' := by
 have hSl := h.lt
 have hB0 : B0 ≤ SB := h.1
 obtain ⟨w7, hw7⟩ : ∃ w7, w7 = W.alloc (.cells #[] 2) := ⟨_, rfl⟩
 have hb67 : Below W.heap.size W w7 := by rw [hw7]; exact (Below.refl _ _).alloc (Nat.le_refl _) _
 have hown7 := own_lit0 W W.heap.size 2 1 (Nat.le_refl _)
 rw [← hw7] at hown7
 have hz7 := hb67.size
 have H7 := Lib.hid (And.intro (h.below hb67) (And.intro (Only.of_below (SB := SB) hb67) (And.intro hown7 hw7))); clear hown7 hw7 hb67 h
 go_enter Tryz.func85, Tryz.ntmps85
 go_wp2_with fail
 rw [← H7.out.2.2.2]
 refine (l01Next_any B0 SB 6 _ H7.out.1).mono ?_
 rintro e' w8 ⟨n8, rfl, ⟨hn0, hn1⟩, hs8, ho8⟩
 obtain ⟨nn, rfl⟩ : ∃ q : Nat, n8 = (q : Int) := ⟨n8.toNat, by omega⟩
 have hnn : nn ≤ 6 := by omega
 have hz8 := ho8.size
 have H8 := Lib.hid (And.intro hs8 (And.intro (H7.out.2.1.trans ho8) (own_only H7.out.2.2.1 ho8 (by omega)))); clear hs8 ho8 hn0 hn1
 go_wp2_with fail
 go_loopw [3, 4] (fun ov nv wr => ∃ (n : Nat) (rl : List Int), n + rl.length ≤ 6 ∧ nv = .int .i64 (n : Int) ∧ wr.ownsRow W.heap.size 2 1 ov rl.length (rl.map (Value.int .i64)) ∧ Src B0 SB wr ∧ Only SB W wr) (fun _ nv _ => (intOf nv).toNat)
 case atStart => exact ⟨nn, [], by simpa using hnn, rfl, H8.out.2.2, H8.out.1, H8.out.2.1⟩
 case round =>
  obtain ⟨n, rl, hnl, rfl, hown, hsr, hor⟩ := hrel
  obtain ⟨wo, rfl⟩ : ∃ x, x = wr := ⟨_, rfl⟩
  have hzo := hor.size
  obtain ⟨oa, oc, rfl, _, _⟩ := own_form hown
  by_cases hn : n = 0
  ·subst hn
   have HO := Lib.hid (And.intro hown (And.intro hsr hor)); clear hown hsr hor
   have hrl : rl.length ≤ 6 := by omega
   go_wp2_with fail
   refine (l01Next_any B0 SB 40 _ HO.out.2.1).mono ?_
   rintro e' wp ⟨xp, rfl, _, hsp, hop⟩
   have hzp := hop.size
   have HP := Lib.hid (And.intro hsp (And.intro (HO.out.2.2.trans hop) (own_only HO.out.1 hop (by omega)))); clear hsp hop
   by_cases hxp : xp = 0
   ·subst hxp
    go_wp2_with fail
    go_loopw [3] (fun ov wr => ∃ (rl : List Int), rl.length ≤ 101 ∧ wr.ownsRow W.heap.size 2 1 ov rl.length (rl.map (Value.int .i64)) ∧ Src B0 SB wr ∧ Only SB W wr) (fun ov _ => 102 - slLen ov)
    case atStart => exact ⟨rl, by omega, HP.out.2.2, HP.out.1, HP.out.2.1⟩
    case round =>
     obtain ⟨rl2, hrl2, hown2, hsr2, hor2⟩ := hrel
     obtain ⟨wo2, rfl⟩ : ∃ x, x = wr := ⟨_, rfl⟩
     have hzo2 := hor2.size
     obtain ⟨oa2, oc2, rfl, _, _⟩ := own_form hown2
     have HO2 := Lib.hid (And.intro hown2 (And.intro hsr2 hor2)); clear hown2 hsr2 hor2
     go_wp2_with fail
     refine (l01Next_any B0 SB 2 _ HO2.out.2.1).mono ?_
     rintro e' wa ⟨ya, rfl, ⟨hy0, hy1⟩, hsa, hoa⟩
     have hza := hoa.size
     have HA := Lib.hid (And.intro hsa (And.intro (HO2.out.2.2.trans hoa) (own_only HO2.out.1 hoa (by omega)))); clear hsa hoa
     have hya : ya ≤ 1 := by omega
     by_cases hlt : (rl2.length : Int) < 100 + ya
     ·have hltd : decide ((rl2.length : Int) < 100 + ya) = true := decide_eq_true hlt
      have hrl3 : rl2.length ≤ 100 := by omega
      go_wp2_with fail
      refine (l01Next_any B0 SB 3 _ HA.out.1).mono ?_
      rintro e' wb ⟨y, rfl, _, hsb, hob⟩
      have hzb := hob.size
      have HNb := Lib.hid (And.intro hsb (HA.out.2.1.trans hob))
      have hownb := own_only HA.out.2.2 hob (by omega)
      clear hsb hob
      go_wp2_with (at_builtin; refine wp_app1 _ rfl _ _ 44 rfl W.heap.size 2 (.int .i64 0) 8 Tryz.underlying44 inf_int rfl _ _ _ rfl hownb (.int .i64 y) _ rfl rfl (by omega) (by omega) (by omega) ?_; intro v1 w1 hown1 hgrow1 hblk1 hB1)
      have hg1 : Chg (fun i => W.heap.size ≤ i) wb w1 := (Chg.refl _ _).grown hgrow1 (fun g hg => .inl (hownb.lt g hg).1)
      have hs1 := HNb.out.1.keep hg1 (fun b hb => ⟨by omega, by omega⟩)
      have ho1 := Chg.trans HNb.out.2 hg1 (fun i hi => .inr (by have hi : W.heap.size ≤ i := hi; omega))
      have hz1w := hg1.size
      have hE := own_ints (v := v1) hown1
      obtain ⟨na, nc, rfl, _, _⟩ := own_form hown1
      have HE := Lib.hid (And.intro hE (And.intro hs1 ho1)); clear hg1 hgrow1 hblk1 hB1 hown1 hownb hE hs1 ho1
      go_roundw
      case rel => exact ⟨rl2 ++ [y], by simp; omega, HE.out.1, HE.out.2.1, HE.out.2.2⟩
      case measure => simp [slLen]; omega
     ·have hltd : decide ((rl2.length : Int) < 100 + ya) = false := decide_eq_false hlt
      have HF := Lib.hid (own_F1 HA.out.2.2)
      go_wp2_with fail
      go_ret
      exact ⟨_, rl2, rfl, HF.out, HA.out.1, HA.out.2.1⟩
   ·have hxd : (xp == 0) = false := by simp [hxp]
    clear hxp
    have HF := Lib.hid (own_F1 HP.out.2.2)
    go_wp2_with fail
    go_ret
    exact ⟨_, rl, rfl, HF.out, HP.out.1, HP.out.2.1⟩
  ·obtain ⟨n, rfl⟩ : ∃ k, n = k + 1 := ⟨n - 1, by omega⟩
   have hnd : decide ((0 : Int) < ((n + 1 : Nat) : Int)) = true := decide_eq_true (by omega)
   have hnd2 : decide ((0 : Int) < (n : Int) + 1) = true := decide_eq_true (by omega)
   have hnd3 : decide (0 < n + 1) = true := decide_eq_true (by omega)
   have HR := Lib.hid (And.intro hown (And.intro hsr (And.intro hor hnl))); clear hown hn hsr hor
   have hnT : n + 1 ≤ 6 := by omega
   go_wp2_with fail
   refine (l01DrawNumber_any B0 SB _ HR.out.2.1).mono ?_
   rintro e' wb ⟨y, rfl, hsb, hob⟩
   have hzb := hob.size
   have HNb := Lib.hid (And.intro hsb (HR.out.2.2.1.trans hob))
   have hownb := own_only HR.out.1 hob (by omega)
   have hrl : rl.length ≤ 6 := by omega
   clear hsb hob
   go_wp2_with (at_builtin; refine wp_app1 _ rfl _ _ 44 rfl W.heap.size 2 (.int .i64 0) 8 Tryz.underlying44 inf_int rfl _ _ _ rfl hownb (.int .i64 y) _ rfl rfl (by omega) (by omega) (by omega) ?_; intro v1 w1 hown1 hgrow1 hblk1 hB1)
   have hg1 : Chg (fun i => W.heap.size ≤ i) wb w1 := (Chg.refl _ _).grown hgrow1 (fun g hg => .inl (hownb.lt g hg).1)
   have hs1 := HNb.out.1.keep hg1 (fun b hb => ⟨by omega, by omega⟩)
   have ho1 := Chg.trans HNb.out.2 hg1 (fun i hi => .inr (by have hi : W.heap.size ≤ i := hi; omega))
   have hz1w := hg1.size
   have hE := own_ints (v := v1) hown1
   obtain ⟨na, nc, rfl, _, _⟩ := own_form hown1
   have HE := Lib.hid (And.intro hE (And.intro hs1 ho1)); clear hg1 hgrow1 hblk1 hB1 hown1 hownb hE hs1 ho1
   go_roundw
   case rel => exact ⟨n, rl ++ [y], by have := HR.out.2.2.2; simp; omega, by go_num, HE.out.1, HE.out.2.1, HE.out.2.2⟩
   case measure => simp [intOf]
set_option maxRecDepth 100000 in
set_option maxHeartbeats 2000000 in
theorem DrawRowsOf_any {S : Nat → Prop} (v : Value) (l : List Int) (W : World) (h : VB S W v l) :
  Calls Tryz.prog 25 #[v] W (DrawLi W) := by
 have HL := Lib.hid h
 obtain ⟨a, c, rfl, hm⟩ := h.form
 clear h
 go_enter Tryz.func25, Tryz.ntmps25
 go_wp2_with fail
 refine (l01From_any _ l W HL.out).mono ?_
 rintro e' w2 ⟨rfl, hs2, hb2⟩
 have hz2 := hb2.size
 have hz23 : W.heap.size < w2.heap.size := hs2.lt
 have H2 := Lib.hid (And.intro hs2 hb2); clear hs2 hb2
 go_wp2_with fail
 refine (l01Next_any W.heap.size W.heap.size 4 _ H2.out.1).mono ?_
 rintro e' w3 ⟨x3, rfl, _, hs3, ho3⟩
 have hz3 := ho3.size
 have H3 := Lib.hid (And.intro hs3 (H2.out.2.trans (ho3.to_below (Nat.le_refl _) (by omega)))); clear hs3 ho3
 by_cases hx : x3 = 0
 ·subst hx
  go_wp2_with fail
  refine (l01DrawList_any W.heap.size W.heap.size w3 H3.out.1).mono ?_
  rintro e' w4 ⟨v4, l4, rfl, hF4, hs4, ho4⟩
  obtain ⟨a4, c4, rfl, _⟩ := hF4.v1.form
  have H4 := Lib.hid (And.intro (hF4.v1.mono (S' := fun b => W.heap.size ≤ b) (fun b hb _ => by have hb : w3.heap.size ≤ b := hb; show W.heap.size ≤ b; omega) (fun _ _ _ => rfl)) (H3.out.2.trans (ho4.to_below (Nat.le_refl _) (by omega)))); clear hF4 hs4 ho4
  go_wp2_with fail
  go_ret
  exact ⟨_, l4, rfl, H4.out.1, H4.out.2⟩
 ·have hxd : (x3 == 0) = false := by simp [hx]
  clear hx
  obtain ⟨w7, hw7⟩ : ∃ w7, w7 = w3.alloc (.cells #[] 2) := ⟨_, rfl⟩
  have hb67 : Below w3.heap.size w3 w7 := by rw [hw7]; exact (Below.refl _ _).alloc (Nat.le_refl _) _
  have hown7 := own_lit0 w3 w3.heap.size 2 1 (Nat.le_refl _)
  rw [← hw7] at hown7
  have hz7 := hb67.size
  have H7 := Lib.hid (And.intro (H3.out.1.below hb67) (And.intro (Only.of_below (SB := W.heap.size) hb67) (And.intro hown7 hw7))); clear hown7 hw7 hb67
  go_wp2_with fail
  rw [← H7.out.2.2.2]
  refine (l01Next_any W.heap.size W.heap.size 8 _ H7.out.1).mono ?_
  rintro e' w8 ⟨n8, rfl, ⟨hn0, hn1⟩, hs8, ho8⟩
  obtain ⟨nn, rfl⟩ : ∃ q : Nat, n8 = (q : Int) := ⟨n8.toNat, by omega⟩
  have hnn : nn ≤ 8 := by omega
  have hz8 := ho8.size
  have H8 := Lib.hid (And.intro hs8 (And.intro (H7.out.2.1.trans ho8) (own_only H7.out.2.2.1 ho8 (by omega)))); clear hs8 ho8 hn0 hn1
  go_wp2_with fail
  go_loopw [4, 5] (fun ov nv wr => ∃ (n : Nat) (rl : List Int), n + rl.length ≤ 8 ∧ nv = .int .i64 (n : Int) ∧ wr.ownsRow w3.heap.size 2 1 ov rl.length (rl.map (Value.int .i64)) ∧ Src W.heap.size W.heap.size wr ∧ Only W.heap.size w3 wr) (fun _ nv _ => (intOf nv).toNat)
  case atStart => exact ⟨nn, [], by simpa using hnn, rfl, H8.out.2.2, H8.out.1, H8.out.2.1⟩
  case round =>
   obtain ⟨n, rl, hnl, rfl, hown, hsr, hor⟩ := hrel
   obtain ⟨wo, rfl⟩ : ∃ x, x = wr := ⟨_, rfl⟩
   have hzo := hor.size
   obtain ⟨oa, oc, rfl, _, _⟩ := own_form hown
   by_cases hn : n = 0
   ·subst hn
    have HF := Lib.hid (And.intro ((own_F1 hown).v1.mono (S' := fun b => W.heap.size ≤ b) (fun b hb _ => by have hb : w3.heap.size ≤ b := hb; show W.heap.size ≤ b; omega) (fun _ _ _ => rfl)) (H3.out.2.trans (hor.to_below (Nat.le_refl _) (by omega)))); clear hown hsr hor
    go_wp2_with fail
    go_ret
    exact ⟨_, rl, rfl, HF.out.1, HF.out.2⟩
   ·obtain ⟨n, rfl⟩ : ∃ k, n = k + 1 := ⟨n - 1, by omega⟩
    have hnd : decide ((0 : Int) < ((n + 1 : Nat) : Int)) = true := decide_eq_true (by omega)
    have hnd2 : decide ((0 : Int) < (n : Int) + 1) = true := decide_eq_true (by omega)
    have hnd3 : decide (0 < n + 1) = true := decide_eq_true (by omega)
    have HR := Lib.hid (And.intro hown (And.intro hsr (And.intro hor hnl))); clear hown hn hsr hor
    have hnT : n + 1 ≤ 8 := by omega
    go_wp2_with fail
    refine (l01Next_any W.heap.size W.heap.size 5 _ HR.out.2.1).mono ?_
    rintro e' wb ⟨y, rfl, _, hsb, hob⟩
    have hzb := hob.size
    have HNb := Lib.hid (And.intro hsb (HR.out.2.2.1.trans hob))
    have hownb := own_only HR.out.1 hob (by omega)
    have hrl : rl.length ≤ 8 := by omega
    clear hsb hob
    go_wp2_with (at_builtin; refine wp_app1 _ rfl _ _ 44 rfl w3.heap.size 2 (.int .i64 0) 8 Tryz.underlying44 inf_int rfl _ _ _ rfl hownb (.int .i64 y) _ rfl rfl (by omega) (by omega) (by omega) ?_; intro v1 w1 hown1 hgrow1 hblk1 hB1)
    have hg1 : Chg (fun i => w3.heap.size ≤ i) wb w1 := (Chg.refl _ _).grown hgrow1 (fun g hg => .inl (hownb.lt g hg).1)
    have hs1 := HNb.out.1.keep hg1 (fun b hb => ⟨by omega, by omega⟩)
    have ho1 := Chg.trans HNb.out.2 hg1 (fun i hi => .inr (by have hi : w3.heap.size ≤ i := hi; omega))
    have hz1w := hg1.size
    have hE := own_ints (v := v1) hown1
    obtain ⟨na, nc, rfl, _, _⟩ := own_form hown1
    have HE := Lib.hid (And.intro hE (And.intro hs1 ho1)); clear hg1 hgrow1 hblk1 hB1 hown1 hownb hE hs1 ho1
    go_roundw
    case rel => exact ⟨n, rl ++ [y], by have := HR.out.2.2.2; simp; omega, by go_num, HE.out.1, HE.out.2.1, HE.out.2.2⟩
    case measure => simp [intOf]
set_option maxRecDepth 100000 in
set_option maxHeartbeats 4000000 in
theorem DrawKeepRows_any {S : Nat → Prop} (v : Value) (l : List Int) (W : World) (h : VB S W v l) :
  Calls Tryz.prog 22 #[v] W (DrawCk W) := by
 obtain ⟨a, c, rfl, hm⟩ := h.form
 obtain ⟨W1, hW1, hB01, hz01, HZ01, _, hh01⟩ := box_facts W #[.int .i64 0, .int .i64 0, .int .i64 0, .int .i64 0, .int .i64 0, .slice none 0 0] 33
 have hz1e := HZ01.out
 have hz1l : W1.heap.size ≤ W.heap.size + 1 := by omega
 have HL := Lib.hid (And.intro (h.below hB01) (And.intro hB01 (And.intro hh01 hW1))); clear h hh01 hB01 hz1e
 go_enter Tryz.func22, Tryz.ntmps22
 go_wp2_with fail
 rw [← HL.out.2.2.2]
 clear hW1
 refine (l01From_any _ l W1 HL.out.1).mono ?_
 rintro e' w2 ⟨rfl, hs2, hb2⟩
 have hz2 := hb2.size
 have hz23 : W1.heap.size < w2.heap.size := hs2.lt
 have H2 := Lib.hid (And.intro hs2 (And.intro hb2 ((hb2.block _ hz01).trans HL.out.2.2.1))); clear hs2 hb2
 go_wp2_with fail
 refine (l15Draw_any W1.heap.size W1.heap.size w2 H2.out.1).mono ?_
 rintro e' w3 ⟨m, u, cv, T, cuts, rfl, hsm, hu, hT12, hcv, hcl, hs3, ho3⟩
 have hz3 := ho3.size
 obtain ⟨ta, tc, rfl, _⟩ := hu.form
 obtain ⟨ca, cc, rfl, _⟩ := hcv.form
 obtain ⟨w4, hw4⟩ : ∃ w4, w4 = w3.alloc (.cells #[.int .i64 m.c, .int .i64 m.d, .int .i64 m.s, .int .i64 m.e, .int .i64 m.l, .slice ta T.length tc] 33) := ⟨_, rfl⟩
 have hb34 : Below w3.heap.size w3 w4 := by rw [hw4]; exact (Below.refl _ _).alloc (Nat.le_refl _) _
 have hM4 : w4.heap[w3.heap.size]? = some (.cells #[.int .i64 m.c, .int .i64 m.d, .int .i64 m.s, .int .i64 m.e, .int .i64 m.l, .slice ta T.length tc] 33 (0, 0)) := by rw [hw4]; exact heap_alloc_self _ _
 have hz4 : w3.heap.size < w4.heap.size := lt_of_heap hM4
 have HS4 := Lib.hid (show w3.heap.size + 1 = w4.heap.size by rw [hw4]; simp)
 have hcl5 : cuts.length ≤ 5 := hcl.2
 have HD4 := Lib.hid (IrAt.mk (W := W) (W1 := W1) (w2 := w2) (w3 := w3) (hs3.below hb34) (HL.out.2.1.trans (((H2.out.2.1.trans (ho3.to_below (B := W1.heap.size) (Nat.le_refl _) (by omega))).trans (hb34.mono (by omega))).mono (by omega))) hM4 ((hb34.block _ (by omega)).trans (ho3.heap H2.out.2.2 (fun e => by omega)))
  ((hu.mono (S' := fun b => W1.heap.size < b ∧ b < w3.heap.size) (fun b hb hlt => by have hb : w2.heap.size ≤ b := hb; exact ⟨by omega, hlt⟩) (fun _ _ _ => rfl)).below hb34)
  ((hcv.mono (S' := fun b => W1.heap.size < b ∧ b < w3.heap.size) (fun b hb hlt => by have hb : w2.heap.size ≤ b := hb; exact ⟨by omega, hlt⟩) (fun _ _ _ => rfl)).below hb34))
 have HW4 := Lib.hid hw4
 clear hs3 ho3 hb34 hM4 hu hcv hw4 hsm hT12 hcl
 obtain ⟨w7, hw7⟩ : ∃ w7, w7 = w4.alloc (.cells #[] 2) := ⟨_, rfl⟩
 have hb67 : Below w4.heap.size w4 w7 := by rw [hw7]; exact (Below.refl _ _).alloc (Nat.le_refl _) _
 have hown7 := own_lit0 w4 w4.heap.size 2 1 (Nat.le_refl _)
 rw [← hw7] at hown7
 have hz7 := hb67.size
 have HD7 := Lib.hid (HD4.out.step (HD4.out.src.below hb67) (Chg.of_below hb67) (by omega) (by omega))
 have HO7 := Lib.hid (And.intro hown7 hw7); clear hown7 hw7 hb67
 go_wp2_with fail
 rw [← HW4.out]
 (try rw [HS4.out])
 rw [← HO7.out.2]
 go_loopw [8, 9] (fun ov iv wr => ∃ (i : Nat) (rl : List Int), i ≤ cuts.length ∧ rl.length ≤ i ∧ iv = .int .i64 (i : Int) ∧ wr.ownsRow w4.heap.size 2 1 ov rl.length (rl.map (Value.int .i64)) ∧ IrAt W W1 w2 w3 m (.slice ta T.length tc) T (.slice ca cuts.length cc) cuts wr ∧ w4.heap.size ≤ wr.heap.size) (fun _ iv _ => cuts.length - (intOf iv).toNat)
 case atStart => exact ⟨0, [], Nat.zero_le _, Nat.le_refl _, rfl, HO7.out.1, HD7.out, by omega⟩
 case round =>
  obtain ⟨i, rl, hi, hrl, rfl, hown, hD, hzo⟩ := hrel
  obtain ⟨wo, rfl⟩ : ∃ x, x = wr := ⟨_, rfl⟩
  obtain ⟨oa, oc, rfl, _, _⟩ := own_form hown
  have HR := Lib.hid (And.intro hown hD); clear hown hD
  by_cases hii : i < cuts.length
  ·go_wp2_with fail
   refine (l01Next_any W1.heap.size W1.heap.size 3 _ HR.out.2.src).mono ?_
   rintro e' wb ⟨y, rfl, _, hsb, hob⟩
   have hzb := hob.size
   have HDb := Lib.hid (HR.out.2.step hsb (hob.toF (.inl rfl)) (by omega) (by omega))
   have hownb := own_only HR.out.1 hob (by omega)
   clear hsb hob
   by_cases hy : 0 < y
   ·have hyd : decide (0 < y) = true := decide_eq_true hy
    clear hy
    go_wp2_with (at_builtin; refine wp_app1 _ rfl _ _ 44 rfl w4.heap.size 2 (.int .i64 0) 8 Tryz.underlying44 inf_int rfl _ _ _ rfl hownb (.int .i64 (i : Int)) _ rfl rfl (by omega) (by omega) (by omega) ?_; intro v1 w1 hown1 hgrow1 hblk1 hB1)
    have hg1 : Chg (fun i => w4.heap.size ≤ i) wb w1 := (Chg.refl _ _).grown hgrow1 (fun g hg => .inl (hownb.lt g hg).1)
    have HD1 := Lib.hid (HDb.out.step (HDb.out.src.keep hg1 (fun b hb => ⟨by omega, by omega⟩)) (hg1.mono (fun b hb => .inr (by omega))) (by omega) (by omega))
    have hz1w := hg1.size
    have hE := own_ints (v := v1) hown1
    obtain ⟨na, nc, rfl, _, _⟩ := own_form hown1
    have HE := Lib.hid hE; clear hg1 hgrow1 hblk1 hB1 hown1 hownb hE
    go_roundw
    case rel => exact ⟨i + 1, rl ++ [(i : Int)], by omega, by simp; omega, by go_num, HE.out, HD1.out, by omega⟩
    case measure => simp [intOf]; omega
   ·have hyd : decide (0 < y) = false := decide_eq_false hy
    clear hy
    have HE := Lib.hid hownb; clear hownb
    go_wp2_with fail
    go_roundw
    case rel => exact ⟨i + 1, rl, by omega, by omega, by go_num, HE.out, HDb.out, by omega⟩
    case measure => simp [intOf]; omega
  ·obtain rfl : i = cuts.length := by omega
   go_wp2_with fail
   refine (l01Next_any W1.heap.size W1.heap.size 16 _ HR.out.2.src).mono ?_
   rintro e' wb ⟨y, rfl, _, hsb, hob⟩
   have hzb := hob.size
   have HDb := Lib.hid (HR.out.2.step hsb (hob.toF (.inl rfl)) (by omega) (by omega))
   have hownb := own_only HR.out.1 hob (by omega)
   clear hsb hob
   by_cases hy : y = 0
   ·subst hy
    go_wp2_with ((at_builtin; refine wp_app1 _ rfl _ _ 44 rfl w4.heap.size 2 (.int .i64 0) 8 Tryz.underlying44 inf_int rfl _ _ _ rfl hownb (.int .i64 0) _ rfl rfl (by omega) (by omega) (by omega) ?_; intro v1 w1 hown1 hgrow1 hblk1 hB1); refine Hid.out ?_)
    refine Lib.hid ?_
    have hg1 : Chg (fun i => w4.heap.size ≤ i) wb w1 := (Chg.refl _ _).grown hgrow1 (fun g hg => .inl (hownb.lt g hg).1)
    have HD1 := Lib.hid (HDb.out.step (HDb.out.src.keep hg1 (fun b hb => ⟨by omega, by omega⟩)) (hg1.mono (fun b hb => .inr (by omega))) (by omega) (by omega))
    have hE := own_ints (v := v1) hown1
    obtain ⟨na, nc, rfl, _, _⟩ := own_form hE
    have HKo := Lib.hid ((own_F1 hE).v1.mono (S' := fun b => w3.heap.size ≤ b) (fun b hb _ => by have hb : w4.heap.size ≤ b := hb; omega) (fun _ _ _ => rfl)); clear hg1 hgrow1 hblk1 hB1 hown1 hownb hE
    have hcMx : ∀ o, w1.cell? ⟨w3.heap.size, o, none⟩ = (#[.int .i64 m.c, .int .i64 m.d, .int .i64 m.s, .int .i64 m.e, .int .i64 m.l, .slice ta T.length tc] : Array Value)[o]? := fun o => by rw [cell_of_block HD1.out.hm]
    have hcRz : ∀ o, w1.cell? ⟨W.heap.size, o, none⟩ = (#[.int .i64 0, .int .i64 0, .int .i64 0, .int .i64 0, .int .i64 0, .slice none 0 0] : Array Value)[o]? := fun o => by rw [cell_of_block HD1.out.hr]
    have hfRz := fun o => frozen_of_block HD1.out.hr o
    have hdone := putS_new HD1.out.below HD1.out.hr (.int .i64 m.c) (.int .i64 m.d) (.int .i64 m.s) (.int .i64 m.e) (.int .i64 m.l) (.slice ta T.length tc)
    obtain ⟨wz, hwz⟩ : ∃ wz, wz = putS w1 W.heap.size (.int .i64 m.c) (.int .i64 m.d) (.int .i64 m.s) (.int .i64 m.e) (.int .i64 m.l) (.slice ta T.length tc) := ⟨_, rfl⟩
    rw [← hwz] at hdone
    obtain ⟨hd2, hd3, hd4⟩ := hdone
    have hFz : V2 (fun b => W.heap.size ≤ b) wz (.slice ta T.length tc) T := V2.mono (S := fun b => W1.heap.size < b ∧ b < w3.heap.size) HD1.out.tab (fun b hb _ => by have hb := hb.1; omega) (fun b hb _ => hd4 b (by have hb := hb.1; omega))
    have hcz : V2 (fun b => W.heap.size ≤ b) wz (.slice ca cuts.length cc) cuts := V2.mono (S := fun b => W1.heap.size < b ∧ b < w3.heap.size) HD1.out.cut (fun b hb _ => by have hb := hb.1; omega) (fun b hb _ => hd4 b (by have hb := hb.1; omega))
    have hkz : V1 (fun b => W.heap.size ≤ b) wz (.slice na (rl ++ [0]).length nc) (rl ++ [0]) := V1.mono (S := fun b => w3.heap.size ≤ b) HKo.out (fun b hb _ => by have hb : w3.heap.size ≤ b := hb; omega) (fun b hb _ => hd4 b (by have hb : w3.heap.size ≤ b := hb; omega))
    have hz0 : wz.cell? ⟨W.heap.size, 0, none⟩ = some (.int .i64 m.c) := by rw [cell_of_block hd3]; rfl
    have hz1 : wz.cell? ⟨W.heap.size, 1, none⟩ = some (.int .i64 m.d) := by rw [cell_of_block hd3]; rfl
    have hz2 : wz.cell? ⟨W.heap.size, 2, none⟩ = some (.int .i64 m.s) := by rw [cell_of_block hd3]; rfl
    have hz3 : wz.cell? ⟨W.heap.size, 3, none⟩ = some (.int .i64 m.e) := by rw [cell_of_block hd3]; rfl
    have hz4 : wz.cell? ⟨W.heap.size, 4, none⟩ = some (.int .i64 m.l) := by rw [cell_of_block hd3]; rfl
    have hz5 : wz.cell? ⟨W.heap.size, 5, none⟩ = some (.slice ta T.length tc) := by rw [cell_of_block hd3]; rfl
    have HZ := Lib.hid (And.intro hd2 (And.intro hFz (And.intro hcz (And.intro hkz (And.intro hwz (And.intro hz0 (And.intro hz1 (And.intro hz2 (And.intro hz3 (And.intro hz4 hz5)))))))))); clear hd2 hd3 hd4 hFz hcz hkz hwz hz0 hz1 hz2 hz3 hz4 hz5
    go_wp2_with fail
    have hwz := HZ.out.2.2.2.2.1
    unfold putS putR at hwz
    rw [← hwz]
    clear hwz
    obtain ⟨hd2, hFz, hcz, hkz, hwzz, hz0, hz1, hz2, hz3, hz4, hz5⟩ := HZ.out
    clear hwzz
    exact bodyPost_ret (v := .tuple #[.agg #[.int .i64 m.c, .int .i64 m.d, .int .i64 m.s, .int .i64 m.e, .int .i64 m.l, .slice ta T.length tc], .slice ca cuts.length cc, (.slice na (rl ++ [0]).length nc)]) (by simp [results, Tryz.results22, go_sem, hz0, hz1, hz2, hz3, hz4, hz5]) rfl ⟨m, _, _, T, cuts, [(.slice na (rl ++ [0]).length nc)], rfl, ⟨_, (rl ++ [0]), rfl, hkz⟩, hFz, hcz, hd2⟩
   ·have hyd : (y == 0) = false := by simp [hy]
    clear hy
    have HKo := Lib.hid ((own_F1 hownb).v1.mono (S' := fun b => w3.heap.size ≤ b) (fun b hb _ => by have hb : w4.heap.size ≤ b := hb; omega) (fun _ _ _ => rfl)); clear hownb
    have hcMx : ∀ o, wb.cell? ⟨w3.heap.size, o, none⟩ = (#[.int .i64 m.c, .int .i64 m.d, .int .i64 m.s, .int .i64 m.e, .int .i64 m.l, .slice ta T.length tc] : Array Value)[o]? := fun o => by rw [cell_of_block HDb.out.hm]
    have hcRz : ∀ o, wb.cell? ⟨W.heap.size, o, none⟩ = (#[.int .i64 0, .int .i64 0, .int .i64 0, .int .i64 0, .int .i64 0, .slice none 0 0] : Array Value)[o]? := fun o => by rw [cell_of_block HDb.out.hr]
    have hfRz := fun o => frozen_of_block HDb.out.hr o
    have hdone := putS_new HDb.out.below HDb.out.hr (.int .i64 m.c) (.int .i64 m.d) (.int .i64 m.s) (.int .i64 m.e) (.int .i64 m.l) (.slice ta T.length tc)
    obtain ⟨wz, hwz⟩ : ∃ wz, wz = putS wb W.heap.size (.int .i64 m.c) (.int .i64 m.d) (.int .i64 m.s) (.int .i64 m.e) (.int .i64 m.l) (.slice ta T.length tc) := ⟨_, rfl⟩
    rw [← hwz] at hdone
    obtain ⟨hd2, hd3, hd4⟩ := hdone
    have hFz : V2 (fun b => W.heap.size ≤ b) wz (.slice ta T.length tc) T := V2.mono (S := fun b => W1.heap.size < b ∧ b < w3.heap.size) HDb.out.tab (fun b hb _ => by have hb := hb.1; omega) (fun b hb _ => hd4 b (by have hb := hb.1; omega))
    have hcz : V2 (fun b => W.heap.size ≤ b) wz (.slice ca cuts.length cc) cuts := V2.mono (S := fun b => W1.heap.size < b ∧ b < w3.heap.size) HDb.out.cut (fun b hb _ => by have hb := hb.1; omega) (fun b hb _ => hd4 b (by have hb := hb.1; omega))
    have hkz : V1 (fun b => W.heap.size ≤ b) wz (.slice oa rl.length oc) rl := V1.mono (S := fun b => w3.heap.size ≤ b) HKo.out (fun b hb _ => by have hb : w3.heap.size ≤ b := hb; omega) (fun b hb _ => hd4 b (by have hb : w3.heap.size ≤ b := hb; omega))
    have hz0 : wz.cell? ⟨W.heap.size, 0, none⟩ = some (.int .i64 m.c) := by rw [cell_of_block hd3]; rfl
    have hz1 : wz.cell? ⟨W.heap.size, 1, none⟩ = some (.int .i64 m.d) := by rw [cell_of_block hd3]; rfl
    have hz2 : wz.cell? ⟨W.heap.size, 2, none⟩ = some (.int .i64 m.s) := by rw [cell_of_block hd3]; rfl
    have hz3 : wz.cell? ⟨W.heap.size, 3, none⟩ = some (.int .i64 m.e) := by rw [cell_of_block hd3]; rfl
    have hz4 : wz.cell? ⟨W.heap.size, 4, none⟩ = some (.int .i64 m.l) := by rw [cell_of_block hd3]; rfl
    have hz5 : wz.cell? ⟨W.heap.size, 5, none⟩ = some (.slice ta T.length tc) := by rw [cell_of_block hd3]; rfl
    have HZ := Lib.hid (And.intro hd2 (And.intro hFz (And.intro hcz (And.intro hkz (And.intro hwz (And.intro hz0 (And.intro hz1 (And.intro hz2 (And.intro hz3 (And.intro hz4 hz5)))))))))); clear hd2 hd3 hd4 hFz hcz hkz hwz hz0 hz1 hz2 hz3 hz4 hz5
    go_wp2_with fail
    have hwz := HZ.out.2.2.2.2.1
    unfold putS putR at hwz
    rw [← hwz]
    clear hwz
    obtain ⟨hd2, hFz, hcz, hkz, hwzz, hz0, hz1, hz2, hz3, hz4, hz5⟩ := HZ.out
    clear hwzz
    exact bodyPost_ret (v := .tuple #[.agg #[.int .i64 m.c, .int .i64 m.d, .int .i64 m.s, .int .i64 m.e, .int .i64 m.l, .slice ta T.length tc], .slice ca cuts.length cc, (.slice oa rl.length oc)]) (by simp [results, Tryz.results22, go_sem, hz0, hz1, hz2, hz3, hz4, hz5]) rfl ⟨m, _, _, T, cuts, [(.slice oa rl.length oc)], rfl, ⟨_, rl, rfl, hkz⟩, hFz, hcz, hd2⟩
set_option maxRecDepth 100000 in
set_option maxHeartbeats 1000000 in
theorem DrawBlamedRows_any {S : Nat → Prop} (v : Value) (l : List Int) (W : World) (h : VB S W v l) :
  Calls Tryz.prog 19 #[v] W (DrawC2 W) := by
 obtain ⟨a, c, rfl, hm⟩ := h.form
 obtain ⟨W1, hW1, hB01, hz01, HZ01, _, hh01⟩ := box_facts W #[.int .i64 0, .int .i64 0, .int .i64 0, .int .i64 0, .int .i64 0, .slice none 0 0] 33
 have hz1e := HZ01.out
 have hz1l : W1.heap.size ≤ W.heap.size + 1 := by omega
 have HL := Lib.hid (And.intro (h.below hB01) (And.intro hB01 (And.intro hh01 hW1))); clear h hh01 hB01 hz1e
 go_enter Tryz.func19, Tryz.ntmps19
 go_wp2_with fail
 rw [← HL.out.2.2.2]
 clear hW1
 refine (l01From_any _ l W1 HL.out.1).mono ?_
 rintro e' w2 ⟨rfl, hs2, hb2⟩
 have hz2 := hb2.size
 have H2 := Lib.hid (And.intro hs2 (And.intro hb2 ((hb2.block _ hz01).trans HL.out.2.2.1))); clear hs2 hb2
 go_wp2_with fail
 refine (l15Draw_any W1.heap.size W1.heap.size w2 H2.out.1).mono ?_
 rintro e' w3 ⟨m, u, cv, T, cuts, rfl, hsm, hu, hT12, hcv, hcl, hs3, ho3⟩
 have hz3 := ho3.size
 have hz23 : W1.heap.size < w2.heap.size := H2.out.1.lt
 obtain ⟨ta, tc, rfl, _⟩ := hu.form
 obtain ⟨ca, cc, rfl, _⟩ := hcv.form
 have H3 := Lib.hid (And.intro (HL.out.2.1.trans ((H2.out.2.1.trans (ho3.to_below (Nat.le_refl _) (by omega))).mono (by omega))) (And.intro (ho3.heap H2.out.2.2 (fun e => by omega)) (And.intro (hu.mono (S' := fun b => W1.heap.size ≤ b) (fun b hb _ => by have hb : w2.heap.size ≤ b := hb; omega) (fun _ _ _ => rfl)) (hcv.mono (S' := fun b => W1.heap.size ≤ b) (fun b hb _ => by have hb : w2.heap.size ≤ b := hb; omega) (fun _ _ _ => rfl))))); clear hs3 ho3 hu hcv hsm hT12 hcl
 have hcRz : ∀ o, w3.cell? ⟨W.heap.size, o, none⟩ = (#[.int .i64 0, .int .i64 0, .int .i64 0, .int .i64 0, .int .i64 0, .slice none 0 0] : Array Value)[o]? := fun o => by rw [cell_of_block H3.out.2.1]
 have hfRz := fun o => frozen_of_block H3.out.2.1 o
 have hdone := putS_new H3.out.1 H3.out.2.1 (.int .i64 m.c) (.int .i64 m.d) (.int .i64 m.s) (.int .i64 m.e) (.int .i64 m.l) (.slice ta T.length tc)
 obtain ⟨wz, hwz⟩ : ∃ wz, wz = putS w3 W.heap.size (.int .i64 m.c) (.int .i64 m.d) (.int .i64 m.s) (.int .i64 m.e) (.int .i64 m.l) (.slice ta T.length tc) := ⟨_, rfl⟩
 rw [← hwz] at hdone
 obtain ⟨hd2, hd3, hd4⟩ := hdone
 have hFz : V2 (fun b => W.heap.size ≤ b) wz (.slice ta T.length tc) T := V2.mono (S := fun b => W1.heap.size ≤ b) H3.out.2.2.1 (fun b hb _ => by have hb : W1.heap.size ≤ b := hb; omega) (fun b hb _ => hd4 b (by have hb : W1.heap.size ≤ b := hb; omega))
 have hcz : V2 (fun b => W.heap.size ≤ b) wz (.slice ca cuts.length cc) cuts := V2.mono (S := fun b => W1.heap.size ≤ b) H3.out.2.2.2 (fun b hb _ => by have hb : W1.heap.size ≤ b := hb; omega) (fun b hb _ => hd4 b (by have hb : W1.heap.size ≤ b := hb; omega))
 have hz0 : wz.cell? ⟨W.heap.size, 0, none⟩ = some (.int .i64 m.c) := by rw [cell_of_block hd3]; rfl
 have hz1 : wz.cell? ⟨W.heap.size, 1, none⟩ = some (.int .i64 m.d) := by rw [cell_of_block hd3]; rfl
 have hz2 : wz.cell? ⟨W.heap.size, 2, none⟩ = some (.int .i64 m.s) := by rw [cell_of_block hd3]; rfl
 have hz3 : wz.cell? ⟨W.heap.size, 3, none⟩ = some (.int .i64 m.e) := by rw [cell_of_block hd3]; rfl
 have hz4 : wz.cell? ⟨W.heap.size, 4, none⟩ = some (.int .i64 m.l) := by rw [cell_of_block hd3]; rfl
 have hz5 : wz.cell? ⟨W.heap.size, 5, none⟩ = some (.slice ta T.length tc) := by rw [cell_of_block hd3]; rfl
 have HZ := Lib.hid (And.intro hd2 (And.intro hFz (And.intro hcz (And.intro hwz (And.intro hz0 (And.intro hz1 (And.intro hz2 (And.intro hz3 (And.intro hz4 (And.intro hz5 hd4)))))))))); clear hd2 hd3 hd4 hFz hcz hwz hz0 hz1 hz2 hz3 hz4 hz5
 go_wp2_with fail
 have hwz := HZ.out.2.2.2.1
 unfold putS putR at hwz
 rw [← hwz]
 clear hwz
 obtain ⟨hd2, hFz, hcz, hwzz, hz0, hz1, hz2, hz3, hz4, hz5, hd4⟩ := HZ.out
 clear hwzz
 exact bodyPost_ret (v := .tuple #[.agg #[.int .i64 m.c, .int .i64 m.d, .int .i64 m.s, .int .i64 m.e, .int .i64 m.l, (.slice ta T.length tc)], (.slice ca cuts.length cc)]) (by simp [results, Tryz.results19, go_sem, hz0, hz1, hz2, hz3, hz4, hz5]) rfl ⟨m, _, _, T, cuts, [], rfl, rfl, hFz, hcz, hd2⟩
end Go.Proofs.YtmjplkbmhdkggaaGreat
