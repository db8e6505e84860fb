/- Rows that are kept: the reference's walk. No conditions. -/
import Derived.Test.YtmjplkbmhdkggaaGreatKeepW
import Derived.Test.YtmjplkbmhdkggaaGreatMBegins
import Derived.Test.YtmjplkbmhdkggaaGreatMRefFirst
import Derived.Test.YtmjplkbmhdkggaaGreatMFalse
import Derived.Test.YtmjplkbmhdkggaaGreatMDraw17
namespace Go.Proofs.YtmjplkbmhdkggaaGreat
open Go.RowKit
set_option linter.unusedVariables false
set_option linter.unusedSimpArgs false
set_option maxRecDepth 100000 in
set_option maxHeartbeats 16000000 in
theorem KeepRowsR_own {S S' S'' : Nat → Prop} (m : Mk) (u v x : Value) (t cuts : List (List Int)) (rows : List Int) (W : World) (h : V2 S W u t) (hc : V2 S' W v cuts) (hr : V1 S'' W x rows) :
  Calls Tryz.prog 24 #[.agg #[.int .i64 m.c, .int .i64 m.d, .int .i64 m.s, .int .i64 m.e, .int .i64 m.l, u], v, x] W fun e' w' => ∃ u' v', e' = .returned (.tuple #[.agg #[.int .i64 (keepM m (keepAns m t cuts rows).1).c, .int .i64 (keepM m (keepAns m t cuts rows).1).d, .int .i64 (keepM m (keepAns m t cuts rows).1).s, .int .i64 (keepM m (keepAns m t cuts rows).1).e, .int .i64 (keepM m (keepAns m t cuts rows).1).l, u'], v', .int .i64 (keepAns m t cuts rows).1]) ∧ KOut W.heap.size w' u' v' (keepAns m t cuts rows).2.1 (keepAns m t cuts rows).2.2 ∧ Below W.heap.size W w' := by
 obtain ⟨a, c, rfl, hmx⟩ := h.form
 obtain ⟨a', c', rfl, hmx'⟩ := hc.form
 obtain ⟨ra, rc, rfl, hmr⟩ := hr.form
 obtain ⟨WA, hWA⟩ : ∃ WA, WA = (W.alloc (.cells #[.int .i64 m.c, .int .i64 m.d, .int .i64 m.s, .int .i64 m.e, .int .i64 m.l, .slice a t.length c] 33)).alloc (.cells #[.int .i64 0, .int .i64 0, .int .i64 0, .int .i64 0, .int .i64 0, .slice none 0 0] 33) := ⟨_, rfl⟩
 have hbA : Below W.heap.size W WA := by rw [hWA]; exact by (repeat (first | (with_reducible refine Below.setCell ?_ ?_ _) | (with_reducible refine Below.alloc ?_ ?_ _) | (with_reducible refine Below.drew ?_) | (with_reducible refine below_drewN ?_ _) | (with_reducible exact Below.refl _ _) | (with_reducible assumption) | (with_reducible refine Below.trans ?_ (Below.mono (by with_reducible assumption) ?_)) | go_size))
 have hzA : WA.heap.size = W.heap.size + 2 := by rw [hWA]; simp
 have hzA1 : W.heap.size + 1 < WA.heap.size := by omega
 have hA0 : WA.heap[W.heap.size]? = some (.cells #[.int .i64 m.c, .int .i64 m.d, .int .i64 m.s, .int .i64 m.e, .int .i64 m.l, .slice a t.length c] 33 (0, 0)) := by rw [hWA]; simp only [heap_alloc_at, World.size_alloc]; simp
 have hA1 : WA.heap[W.heap.size + 1]? = some (.cells #[.int .i64 0, .int .i64 0, .int .i64 0, .int .i64 0, .int .i64 0, .slice none 0 0] 33 (0, 0)) := by rw [hWA]; simp only [heap_alloc_at, World.size_alloc]; simp
 have hV1 := (h.below hbA).old
 have hC1 := (hc.below hbA).old
 have hR1 := (hr.below hbA).old
 have HA := Lib.hid (And.intro hA0 (And.intro hA1 (And.intro hbA hzA))); clear hA0 hA1 hbA hzA
 have hcode := l16Code_any m _ _ t cuts WA hV1 hC1
 by_cases hp : partC m t cuts = 0
 rotate_left
 ·have hfin : keepAns m t cuts rows = (partC m t cuts, [], []) := by unfold keepAns; rw [if_pos hp]
  have e1 : (partC m t cuts != 0) = true := by simp [hp]
  have e2 : (partC m t cuts == 0) = false := by simp [hp]
  have hkm : keepM m (partC m t cuts) = Mk.mk 0 0 0 0 0 := by unfold keepM; rw [if_neg hp]
  rw [hfin]
  dsimp only
  rw [hkm]
  have Hp := Lib.hid (And.intro hp hfin); clear hp hfin hkm
  generalize partC m t cuts = pc at *
  go_enter Tryz.func24, Tryz.ntmps24
  go_wp2_with fail
  rw [← hWA]
  refine hcode.mono ?_
  rintro e' w2 ⟨rfl, hb2⟩
  have hz2 := hb2.size
  have hx2 : ∀ o, w2.cell? ⟨W.heap.size, o, none⟩ = (#[.int .i64 m.c, .int .i64 m.d, .int .i64 m.s, .int .i64 m.e, .int .i64 m.l, .slice a t.length c] : Array Value)[o]? := fun o => cell_of_block (heap_below HA.out.1 hb2 (by omega)) o
  have H2 := Lib.hid (And.intro (HA.out.2.2.1.trans (hb2.mono (by omega))) (And.intro (heap_below HA.out.2.1 hb2 (by omega)) hb2)); clear hb2
  have hcRz : ∀ o, w2.cell? ⟨W.heap.size + 1, o, none⟩ = (#[.int .i64 0, .int .i64 0, .int .i64 0, .int .i64 0, .int .i64 0, .slice none 0 0] : Array Value)[o]? := fun o => by rw [cell_of_block H2.out.2.1]
  have hfRz := fun o => frozen_of_block H2.out.2.1 o
  obtain ⟨wz, hwz⟩ : ∃ wz, wz = put6 w2 (W.heap.size + 1) (.int .i64 0) (.int .i64 0) (.int .i64 0) (.int .i64 0) (.int .i64 0) (.slice none 0 0) := ⟨_, rfl⟩
  have hd3 : wz.heap[W.heap.size + 1]? = some (.cells #[.int .i64 0, .int .i64 0, .int .i64 0, .int .i64 0, .int .i64 0, .slice none 0 0] 33 (0, 0)) := by
   rw [hwz]; unfold put6
   rw [heap_setCell_self (heap_setCell_self (heap_setCell_self (heap_setCell_self (heap_setCell_self (heap_setCell_self H2.out.2.1 _) _) _) _) _) _]
   simp
  have hd2 : Below W.heap.size W wz := by
   rw [hwz]; unfold put6
   exact ((((((H2.out.1.setCell (by show W.heap.size ≤ W.heap.size + 1; omega) _).setCell (by show W.heap.size ≤ W.heap.size + 1; omega) _).setCell (by show W.heap.size ≤ W.heap.size + 1; omega) _).setCell (by show W.heap.size ≤ W.heap.size + 1; omega) _).setCell (by show W.heap.size ≤ W.heap.size + 1; omega) _).setCell (by show W.heap.size ≤ W.heap.size + 1; omega) _)
  have hz0 : wz.cell? ⟨W.heap.size + 1, 0, none⟩ = some (.int .i64 0) := by rw [cell_of_block hd3]; rfl
  have hz1 : wz.cell? ⟨W.heap.size + 1, 1, none⟩ = some (.int .i64 0) := by rw [cell_of_block hd3]; rfl
  have hz2 : wz.cell? ⟨W.heap.size + 1, 2, none⟩ = some (.int .i64 0) := by rw [cell_of_block hd3]; rfl
  have hz3 : wz.cell? ⟨W.heap.size + 1, 3, none⟩ = some (.int .i64 0) := by rw [cell_of_block hd3]; rfl
  have hz4 : wz.cell? ⟨W.heap.size + 1, 4, none⟩ = some (.int .i64 0) := by rw [cell_of_block hd3]; rfl
  have hz5 : wz.cell? ⟨W.heap.size + 1, 5, none⟩ = some (.slice none 0 0) := by rw [cell_of_block hd3]; rfl
  have hlz := lt_of_heap hd3
  have HZ := Lib.hid (And.intro hd2 (And.intro hlz (And.intro hwz (And.intro hz0 (And.intro hz1 (And.intro hz2 (And.intro hz3 (And.intro hz4 hz5)))))))); clear hd2 hlz hd3 hwz hz0 hz1 hz2 hz3 hz4 hz5
  go_wp2_with fail
  have hwz := HZ.out.2.2.1
  unfold put6 at hwz
  rw [← hwz]
  clear hwz
  obtain ⟨hd2, hlz, hwzz, hz0, hz1, hz2, hz3, hz4, hz5⟩ := HZ.out
  clear hwzz
  exact bodyPost_ret (v := .tuple #[.agg #[.int .i64 0, .int .i64 0, .int .i64 0, .int .i64 0, .int .i64 0, .slice none 0 0], .slice none 0 0, .int .i64 pc]) (by simp [results, Tryz.results24, go_sem, hz0, hz1, hz2, hz3, hz4, hz5]) rfl ⟨_, _, rfl, KOut.nil (by omega), hd2⟩
 rw [hp] at hcode
 have hf := fits_of hp
 have hHf := Lib.hid hf
 cases hri : riseB rows (cuts.length : Int)
 ·have hfin : keepAns m t cuts rows = (2, [], []) := by unfold keepAns; rw [if_neg (by rw [hp]; decide), if_pos hri]
  have hkm : keepM m 2 = Mk.mk 0 0 0 0 0 := rfl
  rw [hfin]
  dsimp only
  rw [hkm]
  have Hp := Lib.hid (And.intro hp hfin); clear hp hfin hkm hf
  have Hri := Lib.hid hri; clear hri
  go_enter Tryz.func24, Tryz.ntmps24
  go_wp2_with fail
  rw [← hWA]
  refine hcode.mono ?_
  rintro e' w2 ⟨rfl, hb2⟩
  have hz2 := hb2.size
  have hx2 : ∀ o, w2.cell? ⟨W.heap.size, o, none⟩ = (#[.int .i64 m.c, .int .i64 m.d, .int .i64 m.s, .int .i64 m.e, .int .i64 m.l, .slice a t.length c] : Array Value)[o]? := fun o => cell_of_block (heap_below HA.out.1 hb2 (by omega)) o
  have H2 := Lib.hid (And.intro (HA.out.2.2.1.trans (hb2.mono (by omega))) (And.intro (heap_below HA.out.2.1 hb2 (by omega)) hb2)); clear hb2
  go_wp2_with fail
  refine (l01Rises_q _ rows (cuts.length : Int) w2 (hR1.below H2.out.2.2)).mono ?_
  rintro e' w3 ⟨rfl, nq, hw3⟩
  have hb3 : Below w2.heap.size w2 w3 := by rw [hw3]; exact below_drewN (Below.refl _ _) _
  have hz3 := hb3.size
  have hx3 : ∀ o, w3.cell? ⟨W.heap.size, o, none⟩ = (#[.int .i64 m.c, .int .i64 m.d, .int .i64 m.s, .int .i64 m.e, .int .i64 m.l, .slice a t.length c] : Array Value)[o]? := fun o => by rw [(bcell hb3).1 _ _ (by omega), hx2]
  have H3 := Lib.hid (And.intro (H2.out.1.trans (hb3.mono (by omega))) (And.intro ((hb3.block _ (by omega)).trans H2.out.2.1) (H2.out.2.2.trans (hb3.mono hz2)))); clear hb3 hw3 hx2
  rw [Hri.out]
  clear hx3
  have hcRz : ∀ o, w3.cell? ⟨W.heap.size + 1, o, none⟩ = (#[.int .i64 0, .int .i64 0, .int .i64 0, .int .i64 0, .int .i64 0, .slice none 0 0] : Array Value)[o]? := fun o => by rw [cell_of_block H3.out.2.1]
  have hfRz := fun o => frozen_of_block H3.out.2.1 o
  obtain ⟨wz, hwz⟩ : ∃ wz, wz = put6 w3 (W.heap.size + 1) (.int .i64 0) (.int .i64 0) (.int .i64 0) (.int .i64 0) (.int .i64 0) (.slice none 0 0) := ⟨_, rfl⟩
  have hd3 : wz.heap[W.heap.size + 1]? = some (.cells #[.int .i64 0, .int .i64 0, .int .i64 0, .int .i64 0, .int .i64 0, .slice none 0 0] 33 (0, 0)) := by
   rw [hwz]; unfold put6
   rw [heap_setCell_self (heap_setCell_self (heap_setCell_self (heap_setCell_self (heap_setCell_self (heap_setCell_self H3.out.2.1 _) _) _) _) _) _]
   simp
  have hd2 : Below W.heap.size W wz := by
   rw [hwz]; unfold put6
   exact ((((((H3.out.1.setCell (by show W.heap.size ≤ W.heap.size + 1; omega) _).setCell (by show W.heap.size ≤ W.heap.size + 1; omega) _).setCell (by show W.heap.size ≤ W.heap.size + 1; omega) _).setCell (by show W.heap.size ≤ W.heap.size + 1; omega) _).setCell (by show W.heap.size ≤ W.heap.size + 1; omega) _).setCell (by show W.heap.size ≤ W.heap.size + 1; omega) _)
  have hz0 : wz.cell? ⟨W.heap.size + 1, 0, none⟩ = some (.int .i64 0) := by rw [cell_of_block hd3]; rfl
  have hz1 : wz.cell? ⟨W.heap.size + 1, 1, none⟩ = some (.int .i64 0) := by rw [cell_of_block hd3]; rfl
  have hz2 : wz.cell? ⟨W.heap.size + 1, 2, none⟩ = some (.int .i64 0) := by rw [cell_of_block hd3]; rfl
  have hz3 : wz.cell? ⟨W.heap.size + 1, 3, none⟩ = some (.int .i64 0) := by rw [cell_of_block hd3]; rfl
  have hz4 : wz.cell? ⟨W.heap.size + 1, 4, none⟩ = some (.int .i64 0) := by rw [cell_of_block hd3]; rfl
  have hz5 : wz.cell? ⟨W.heap.size + 1, 5, none⟩ = some (.slice none 0 0) := by rw [cell_of_block hd3]; rfl
  have hlz := lt_of_heap hd3
  have HZ := Lib.hid (And.intro hd2 (And.intro hlz (And.intro hwz (And.intro hz0 (And.intro hz1 (And.intro hz2 (And.intro hz3 (And.intro hz4 hz5)))))))); clear hd2 hlz hd3 hwz hz0 hz1 hz2 hz3 hz4 hz5
  go_wp2_with fail
  have hwz := HZ.out.2.2.1
  unfold put6 at hwz
  rw [← hwz]
  clear hwz
  obtain ⟨hd2, hlz, hwzz, hz0, hz1, hz2, hz3, hz4, hz5⟩ := HZ.out
  clear hwzz
  exact bodyPost_ret (v := .tuple #[.agg #[.int .i64 0, .int .i64 0, .int .i64 0, .int .i64 0, .int .i64 0, .slice none 0 0], .slice none 0 0, .int .i64 2]) (by simp [results, Tryz.results24, go_sem, hz0, hz1, hz2, hz3, hz4, hz5]) rfl ⟨_, _, rfl, KOut.nil (by omega), hd2⟩
 have hrl := rise_len hri
 have hrlt := fun j (hj : j < rows.length) => rise_get hri hj
 have hrows := hf.rows
 have hfew := hf.few
 have hdoors := hf.doors
 obtain ⟨i0, gi, gz0, gz1, gz2⟩ := info_parts inf_int
 have Hri := Lib.hid (And.intro hri (And.intro hrlt hp)); clear hri hrlt hp hf
 obtain ⟨A5, hA5⟩ : ∃ A, keepAns m t cuts rows = A := ⟨_, rfl⟩
 rw [hA5]
 have HA5 := Lib.hid hA5; clear hA5
 go_enter Tryz.func24, Tryz.ntmps24
 go_wp2_with fail
 rw [← hWA]
 refine hcode.mono ?_
 rintro e' w2 ⟨rfl, hb2⟩
 have hz2 := hb2.size
 have hx2 : ∀ o, w2.cell? ⟨W.heap.size, o, none⟩ = (#[.int .i64 m.c, .int .i64 m.d, .int .i64 m.s, .int .i64 m.e, .int .i64 m.l, .slice a t.length c] : Array Value)[o]? := fun o => cell_of_block (heap_below HA.out.1 hb2 (by omega)) o
 have H2 := Lib.hid (And.intro (HA.out.2.2.1.trans (hb2.mono (by omega))) (And.intro (heap_below HA.out.2.1 hb2 (by omega)) hb2)); clear hb2
 go_wp2_with fail
 refine (l01Rises_q _ rows (cuts.length : Int) w2 (hR1.below H2.out.2.2)).mono ?_
 rintro e' w3 ⟨rfl, nq, hw3⟩
 have hb3 : Below w2.heap.size w2 w3 := by rw [hw3]; exact below_drewN (Below.refl _ _) _
 have hz3 := hb3.size
 have hx3 : ∀ o, w3.cell? ⟨W.heap.size, o, none⟩ = (#[.int .i64 m.c, .int .i64 m.d, .int .i64 m.s, .int .i64 m.e, .int .i64 m.l, .slice a t.length c] : Array Value)[o]? := fun o => by rw [(bcell hb3).1 _ _ (by omega), hx2]
 have H3 := Lib.hid (And.intro (H2.out.1.trans (hb3.mono (by omega))) (And.intro ((hb3.block _ (by omega)).trans H2.out.2.1) (H2.out.2.2.trans (hb3.mono hz2)))); clear hb3 hw3 hx2
 rw [Hri.out.1]
 obtain ⟨K0, hK0⟩ : ∃ K0, K0 + 1 = w3.heap.size := ⟨w3.heap.size - 1, by omega⟩
 obtain ⟨w4, hw4⟩ : ∃ w4, w4 = (w3.alloc (.cells #[] 44)).alloc (.cells #[] 44) := ⟨_, rfl⟩
 have hbL : Below w3.heap.size w3 (w3.alloc (.cells #[] 44)) := (Below.refl _ _).alloc (Nat.le_refl _) _
 have hb4 : Below w3.heap.size w3 w4 := by rw [hw4]; exact hbL.alloc (by simp) _
 have hz4 : w3.heap.size + 1 < w4.heap.size := by rw [hw4]; simp
 have hown4 : w4.ownsRow K0 44 1 (.slice (some ⟨w3.heap.size, 0, none⟩) 0 0) 0 [] := by rw [hw4]; exact (own_lit0 w3 K0 44 1 (by omega)).alloc _
 have hown5 : w4.ownsRow K0 44 1 (.slice (some ⟨w3.heap.size + 1, 0, none⟩) 0 0) 0 [] := by
  have h0 := own_lit0 (w3.alloc (.cells #[] 44)) K0 44 1 (by simp; omega)
  rw [hw4]; simpa using h0
 have hT4 : Two K0 K0 w4 (.slice (some ⟨w3.heap.size + 1, 0, none⟩) 0 0) (.slice (some ⟨w3.heap.size, 0, none⟩) 0 0) [] [] [] [] (fun _ => 0) (fun _ => 0) :=
  ⟨hown5, hown4, fun k hk => by simp at hk, fun k hk => by simp at hk, fun k hk => by simp at hk, fun k hk => by simp at hk, fun j k hj => by simp at hj, fun j k hj => by simp at hj, fun j k hj => by simp at hj, fun g hg e => (by simp [Value.ownBlock] at hg e; omega), ⟨fun e => (by simp [Value.ownBlock] at e; omega), fun e => (by simp [Value.ownBlock] at e; omega)⟩, ⟨Nat.le_refl _, by omega⟩⟩
 have hx4 : ∀ o, ((w3.alloc (.cells #[] 44)).alloc (.cells #[] 44)).cell? ⟨W.heap.size, o, none⟩ = (#[.int .i64 m.c, .int .i64 m.d, .int .i64 m.s, .int .i64 m.e, .int .i64 m.l, .slice a t.length c] : Array Value)[o]? := fun o => by rw [← hw4, (bcell hb4).1 _ _ (by omega), hx3]
 have HK0 := Lib.hid hK0; clear hK0
 have H4 := Lib.hid (And.intro hw4 (And.intro hb4 hT4)); clear hw4 hb4 hT4 hown4 hown5 hbL
 go_wp2_with fail
 rw [← H4.out.1]
 clear hx4
 go_loopw [10, 11, 12, 13, 14, 15, 16] (fun kv av iv _ _ _ _ wr => ∃ (j : Nat) (vs1 vs2 : List Value) (b1 b2 : Nat → Nat), j ≤ rows.length ∧ iv = .int .i64 (j : Int) ∧ Two K0 K0 wr av kv (keepTo t rows j) (kcutTo cuts rows j) vs1 vs2 b1 b2 ∧ Below w3.heap.size w3 wr) (fun _ _ iv _ _ _ _ _ => rows.length - (intOf iv).toNat)
 case atStart => exact ⟨0, _, _, _, _, Nat.zero_le _, rfl, H4.out.2.2, H4.out.2.1⟩
 case round =>
  obtain ⟨j, vs1, vs2, b1, b2, hj, rfl, hT, hbr⟩ := hrel
  obtain ⟨wo, rfl⟩ : ∃ y, y = wr := ⟨_, rfl⟩
  obtain ⟨v1a, v1c, rfl, _, _⟩ := own_form hT.own1
  obtain ⟨v2a, v2c, rfl, _, _⟩ := own_form hT.own2
  have hzr := hbr.size
  have hxr : ∀ o, wo.cell? ⟨W.heap.size, o, none⟩ = (#[.int .i64 m.c, .int .i64 m.d, .int .i64 m.s, .int .i64 m.e, .int .i64 m.l, .slice a t.length c] : Array Value)[o]? := fun o => by rw [(bcell hbr).1 _ _ (by omega), hx3]
  have HT := Lib.hid (And.intro hT hbr); clear hT hbr
  by_cases hjj : j < rows.length
  ·obtain ⟨hr0, hr1⟩ := Hri.out.2.1 j hjj
   obtain ⟨r, hre⟩ : ∃ r : Nat, geti rows j = (r : Int) := ⟨(geti rows j).toNat, by omega⟩
   have hrc : r < cuts.length := by omega
   have hrt : r < t.length := by omega
   have hcol := hHf.out.cols r hrt
   have hlenr := hHf.out.lens r hrc
   have hmk := Mk.ok_iff.1 hHf.out.ok
   obtain ⟨D, hD⟩ : ∃ D, (getl t 0).length = D := ⟨_, rfl⟩
   rw [hD] at hcol hdoors
   have hbo := H3.out.2.2.trans (HT.out.2.mono (by omega))
   have hRo := hR1.below hbo
   obtain ⟨br, offr, rfl, _, hcr⟩ := hRo.cell hjj
   rw [hre] at hcr
   obtain ⟨bcq, offc, ca, cc, rfl, _, hcc, hrowc⟩ := (hC1.below hbo).cell hrc
   have hrn : ¬ rows.length ≤ j := by omega
   have hrcn : ¬ cuts.length ≤ r := by omega
   have hkl : (keepTo t rows j).length ≤ 10 := by rw [keepTo_len]; omega
   have hkc : (kcutTo cuts rows j).length ≤ 10 := by rw [kcutTo_len]; omega
   have hcne : getl cuts r ≠ [] := fun e => by rw [e] at hlenr; simp only [List.length_nil] at hlenr; omega
   have hclen : (getl cuts r).length ≤ 1000000 := by omega
   have Hre := Lib.hid (And.intro hre (And.intro hD (And.intro hrowc (And.intro hcne hlenr)))); clear hre hD hrowc hcne hlenr hr0 hr1 hmk
   go_wp2_with fail
   refine (l01Own_any _ (getl cuts r) wo Hre.out.2.2.1 (fun e => absurd e Hre.out.2.2.2.1) hclen).mono ?_
   rintro e' w5 ⟨v5, rfl, hown5, hb5⟩
   obtain ⟨bq, hxq, hbq⟩ := own_F1 hown5
   obtain ⟨a5, c5, rfl, _, _⟩ := own_form hown5
   have hz5 := hb5.size
   have hT5 := HT.out.1.below hb5
   have hownk := hT5.own2
   have hzb5 := hT5.base.2
   clear hcr hcc hxr hown5
   go_wp2_with (at_builtin; refine wp_app1 _ rfl _ _ 24 rfl K0 44 (.slice none 0 0) 24 Tryz.underlying24 inf_ints rfl _ _ _ rfl hownk (.slice a5 (getl cuts r).length c5) _ rfl rfl (by omega) (by omega) (by omega) ?_; intro v1 w1 hown1 hgrow1 hblk1 hB1)
   have hT6 := hT5.push2 hxq (fun hn => HT.out.1.fresh (hbq hn)) hown1 hgrow1 hblk1
   obtain ⟨n2a, n2c, rfl, _, _⟩ := own_form hown1
   have hb6 : Below w3.heap.size w3 w1 := (HT.out.2.trans (hb5.mono hzr)).grown hgrow1 (by omega) (fun g hg => by
    have hg : (Value.slice v2a (kcutTo cuts rows j).length v2c).ownBlock = some g := hg
    have h1 := (hownk.lt g hg).1; have h2 := hT5.exK.2; have h3 := HK0.out; have h4 : g ≠ K0 := fun e => h2 (by rw [hg, e]); omega)
   have hz1w := hb6.size
   have hb1o := H3.out.2.2.trans (hb6.mono (by omega))
   have hT6' : Two K0 K0 w1 (.slice v1a (keepTo t rows j).length v1c) (.slice n2a ((kcutTo cuts rows j).length + 1) n2c) (keepTo t rows j) (kcutTo cuts rows (j + 1)) vs1 (vs2 ++ [.slice a5 (getl cuts r).length c5]) b1 (fun k => if k < (kcutTo cuts rows j).length then b2 k else bq) := by
    have e : kcutTo cuts rows (j + 1) = kcutTo cuts rows j ++ [getl cuts r] := by show kcutTo cuts rows j ++ [getl cuts (geti rows j).toNat] = _; rw [Hre.out.1]; rfl
    rw [e]; exact hT6
   have HT6 := Lib.hid (And.intro hT6' hb6); clear hT6 hT6' hT5 hown1 hgrow1 hblk1 hB1 hownk hb6 hb5 hxq hbq
   have hV1o := hV1.below hb1o
   have hR1o := hR1.below hb1o
   obtain ⟨bt, offt, a0, c0, rfl, _, hct0, _⟩ := hV1o.cell (k := 0) (by omega)
   obtain ⟨bt', offt', tA, ct, ebt, _, hct, hrowt⟩ := hV1o.cell hrt
   simp only [Option.some.injEq, Addr.mk.injEq, and_true] at ebt
   obtain ⟨rfl, rfl⟩ := ebt
   rw [hcol] at hct
   rw [Hre.out.2.1, Nat.add_zero] at hct0
   obtain ⟨br', offr', ebr, _, hcr⟩ := hR1o.cell hjj
   simp only [Option.some.injEq, Addr.mk.injEq, and_true] at ebr
   obtain ⟨rfl, rfl⟩ := ebr
   rw [Hre.out.1] at hcr
   have hx1 : ∀ o, w1.cell? ⟨W.heap.size, o, none⟩ = (#[.int .i64 m.c, .int .i64 m.d, .int .i64 m.s, .int .i64 m.e, .int .i64 m.l, .slice (some ⟨bt, offt, none⟩) t.length c] : Array Value)[o]? := fun o => by rw [(bcell HT6.out.2).1 _ _ (by omega), hx3]
   have hrtn : ¬ t.length ≤ r := by omega
   have ht0 : ¬ t.length ≤ 0 := by omega
   have ht1 : (0 : Int) < (t.length : Int) := by omega
   have hown0 := own_lit0 w1 w1.heap.size 2 1 (Nat.le_refl _)
   obtain ⟨wB, hwB⟩ : ∃ y, y = w1.alloc (.cells #[] 2) := ⟨_, rfl⟩
   have hbB : Below w1.heap.size w1 wB := by rw [hwB]; exact (Below.refl _ _).alloc (Nat.le_refl _) _
   rw [← hwB] at hown0
   have hbt1 := lt_of_cell hct
   have hbt0 := lt_of_cell hct0
   have hbr1 := lt_of_cell hcr
   simp only at hbt1 hbt0 hbr1
   have HC := Lib.hid (And.intro hct0 (And.intro hct (And.intro hcr (And.intro hrowt hx1)))); clear hct0 hct hcr hrowt hx1
   have HB := Lib.hid (And.intro hown0 (And.intro hbB hwB)); clear hown0 hbB hwB
   go_wp2_with fail
   rw [← HB.out.2.2]
   go_loopw [13, 14, 15, 16] (fun ev kv _ _ wn => ∃ k : Nat, k ≤ D ∧ kv = .int .i64 (k : Int) ∧ wn.ownsRow w1.heap.size 2 1 ev (entTo t rows r k).length ((entTo t rows r k).map (Value.int .i64)) ∧ Below w1.heap.size w1 wn) (fun _ kv _ _ _ => D - (intOf kv).toNat)
   case atStart => exact ⟨0, Nat.zero_le _, rfl, HB.out.1, HB.out.2.1⟩
   case round =>
    obtain ⟨k, hk, rfl, hown, hbn⟩ := hrel
    obtain ⟨wn, rfl⟩ : ∃ y, y = wr := ⟨_, rfl⟩
    have hzn := hbn.size
    have hel := entTo_len t rows r k
    obtain ⟨ea, ec, rfl, _, _⟩ := own_form hown
    have hxn : ∀ o, wn.cell? ⟨W.heap.size, o, none⟩ = (#[.int .i64 m.c, .int .i64 m.d, .int .i64 m.s, .int .i64 m.e, .int .i64 m.l, .slice (some ⟨bt, offt, none⟩) t.length c] : Array Value)[o]? := fun o => by rw [(bcell hbn).1 _ _ (by omega), HC.out.2.2.2.2]
    have hcn0 := cell_keep HC.out.1 (hbn.block _ hbt0)
    by_cases hkk : k < D
    ·have hkt : k < (getl t r).length := by omega
     obtain ⟨b3, off3, rfl, _, hc3⟩ := HC.out.2.2.2.1.cell hkt
     have hb3 := lt_of_cell hc3
     simp only at hb3
     have hkn : ¬ D ≤ k := by omega
     obtain ⟨y, hy⟩ : ∃ y, geti (getl t r) k = y := ⟨_, rfl⟩
     rw [hy] at hc3
     have Hc3 := Lib.hid (And.intro hc3 (And.intro hy hown)); clear hc3 hy hown
     go_wp2_with fail
     clear hcn0
     go_loopw [15, 16] (fun uv jv wr => ∃ jj nq : Nat, jj ≤ rows.length ∧ uv = .bool (usedRs t rows k jj) ∧ jv = .int .i64 (jj : Int) ∧ wr = wn.drewN nq) (fun _ jv _ => rows.length - (intOf jv).toNat)
     case atStart => exact ⟨0, 0, Nat.zero_le _, rfl, rfl, rfl⟩
     case round =>
      obtain ⟨jj, nq, hjl, rfl, rfl, rfl⟩ := hrel
      by_cases hjq : jj < rows.length
      ·obtain ⟨g0, g1⟩ := Hri.out.2.1 jj hjq
       obtain ⟨rx, hrx⟩ : ∃ rx : Nat, geti rows jj = (rx : Int) := ⟨(geti rows jj).toNat, by omega⟩
       have hrxt : rx < t.length := by omega
       have hrxn : ¬ t.length ≤ rx := by omega
       have hjqn : ¬ rows.length ≤ jj := by omega
       obtain ⟨b5, off5, e5, _, hc5⟩ := (hR1o.below hbn).cell hjq
       simp only [Option.some.injEq, Addr.mk.injEq, and_true] at e5
       obtain ⟨rfl, rfl⟩ := e5
       rw [hrx] at hc5
       obtain ⟨b6, off6, a6, c6, e6, _, hc6, hr6⟩ := (hV1o.below hbn).cell hrxt
       simp only [Option.some.injEq, Addr.mk.injEq, and_true] at e6
       obtain ⟨rfl, rfl⟩ := e6
       have hcolx : (getl t rx).length = D := by rw [hHf.out.cols rx hrxt, Hre.out.2.1]
       obtain ⟨b7, off7, rfl, _, hc7⟩ := hr6.cell (show k < (getl t rx).length by omega)
       rw [hcolx] at hc6
       obtain ⟨z, hz⟩ : ∃ z, geti (getl t rx) k = z := ⟨_, rfl⟩
       rw [hz] at hc7
       obtain ⟨q, hq⟩ : ∃ q, decide (z = 1) = q := ⟨_, rfl⟩
       have hq2 : (z == 1) = q := by rw [← hq]; simp [Bool.beq_eq_decide_eq]
       have hstep : usedRs t rows k (jj + 1) = (usedRs t rows k jj || q) := by show (usedRs t rows k jj || decide (geti (getl t (geti rows jj).toNat) k = 1)) = _; rw [hrx, Int.toNat_natCast, hz, hq]
       clear hcolx hr6 g0 g1
       have Hz := Lib.hid (And.intro hrx (And.intro hz hq)); clear hrx hz hq
       cases hu : usedRs t rows k jj
       ·have Hst := Lib.hid (hstep.trans (by rw [hu, Bool.false_or])); clear hstep
        have Hu := Lib.hid hu; clear hu
        go_wp2_with fail
        go_quiet (fail)
        go_wp2_with fail
        go_roundw
        case rel => exact ⟨jj + 1, _, by omega, by rw [Hst.out], by go_num, by first | rfl | rw [World.drewN_drewN]⟩
        case measure => simp [intOf]; omega
       ·have Hst := Lib.hid (hstep.trans (by rw [hu, Bool.true_or])); clear hstep
        have Hu := Lib.hid hu; clear hu
        go_wp2_with fail
        go_quiet (fail)
        go_wp2_with fail
        go_roundw
        case rel => exact ⟨jj + 1, _, by omega, by rw [Hst.out], by go_num, by first | rfl | rw [World.drewN_drewN]⟩
        case measure => simp [intOf]; omega
      ·obtain rfl : jj = rows.length := by omega
       obtain ⟨wm, hwm⟩ : ∃ q, q = wn.drewN nq := ⟨_, rfl⟩
       have hbm : Below wn.heap.size wn wm := by rw [hwm]; exact below_drewN (Below.refl _ _) _
       have hbm1 : Below w1.heap.size w1 wm := hbn.trans (hbm.mono hzn)
       have hownm := own_keep Hc3.out.2.2 hbm
       have hus : usedRs t rows k rows.length = usedD t rows k := rfl
       rw [hus]
       cases hu : usedD t rows k
       ·have hst : entTo t rows r (k + 1) = entTo t rows r k := by show (if usedD t rows k = true then _ else _) = _; rw [if_neg (by rw [hu]; decide)]
        have Hst := Lib.hid (And.intro hst (And.intro hownm hbm1)); clear hst hu hownm
        have Hwm := Lib.hid hwm; clear hwm hbm
        go_wp2_with fail
        rw [← Hwm.out]
        go_roundw
        case rel => exact ⟨k + 1, by omega, by go_num, by rw [Hst.out.1]; exact Hst.out.2.1, Hst.out.2.2⟩
        case measure => simp [intOf]; omega
       ·have hst : entTo t rows r (k + 1) = entTo t rows r k ++ [y] := by rw [← Hc3.out.2.1]; show (if usedD t rows k = true then _ else _) = _; rw [if_pos hu]
        have Hst := Lib.hid (And.intro hst (And.intro hownm hbm1)); clear hst hu hownm
        have hzm := hbm1.size
        have Hwm := Lib.hid hwm; clear hwm hbm
        have hS2 : ∀ w' : World, Below w1.heap.size w1 w' → w'.cell? ⟨W.heap.size, 5, none⟩ = some (.slice (some ⟨bt, offt, none⟩) t.length c) ∧ w'.cell? ⟨br, offr + j, none⟩ = some (.int .i64 (r : Int)) ∧ w'.cell? ⟨bt, offt + r, none⟩ = some (.slice (some ⟨b3, off3, none⟩) D ct) ∧ w'.cell? ⟨b3, off3 + k, none⟩ = some (.int .i64 y) := fun w' hb =>
         ⟨cell_keep (by rw [HC.out.2.2.2.2]; rfl) (hb.block _ (by omega)), cell_keep HC.out.2.2.1 (hb.block _ hbr1), cell_keep HC.out.2.1 (hb.block _ hbt1), cell_keep Hc3.out.1 (hb.block _ hb3)⟩
        go_wp2_with fail
        rw [← Hwm.out]
        have hbD := Hst.out.2.2.drew
        refine wp_region_noPanic ?_
        refine wp_region_held_drew (S := fun w' => w'.cell? ⟨W.heap.size, 5, none⟩ = some (.slice (some ⟨bt, offt, none⟩) t.length c) ∧ w'.cell? ⟨br, offr + j, none⟩ = some (.int .i64 (r : Int)) ∧ w'.cell? ⟨bt, offt + r, none⟩ = some (.slice (some ⟨b3, off3, none⟩) D ct) ∧ w'.cell? ⟨b3, off3 + k, none⟩ = some (.int .i64 y)) (by kernel_rfl) (hS2 wm.drew hbD) (fun hHeld => ?_)
        (refine wpAnyH_take (i := 0) (v := .slice ea (entTo t rows r k).length ec) rfl (by kernel_rfl) (by kernel_rfl) (by kernel_rfl) (fun _ _ _ h => h) (Or.inl ⟨by kernel_rfl, fun w hSw => by (try dsimp only at hSw); go_split_ands; go_simp⟩) (by assumption) ?_; simp only [Act.put, List.setIfInBounds_toArray, List.set_cons_zero, List.set_cons_succ])
        (refine wpAnyH_take (i := 1) (v := .pointer (some ⟨W.heap.size, 5, none⟩)) rfl (by kernel_rfl) (by kernel_rfl) (by kernel_rfl) (fun _ _ _ h => h) (Or.inl ⟨by kernel_rfl, fun w hSw => by (try dsimp only at hSw); go_split_ands; go_simp⟩) (by assumption) ?_; simp only [Act.put, List.setIfInBounds_toArray, List.set_cons_zero, List.set_cons_succ])
        (refine wpAnyH_take (i := 2) (v := .slice (some ⟨bt, offt, none⟩) t.length c) rfl (by kernel_rfl) (by kernel_rfl) (by kernel_rfl) (fun _ _ _ h => h) (Or.inl ⟨by kernel_rfl, fun w hSw => by (try dsimp only at hSw); go_split_ands; go_simp⟩) (by assumption) ?_; simp only [Act.put, List.setIfInBounds_toArray, List.set_cons_zero, List.set_cons_succ])
        (refine wpAnyH_take (i := 3) (v := .slice (some ⟨br, offr, none⟩) rows.length rc) rfl (by kernel_rfl) (by kernel_rfl) (by kernel_rfl) (fun _ _ _ h => h) (Or.inl ⟨by kernel_rfl, fun w hSw => by (try dsimp only at hSw); go_split_ands; go_simp⟩) (by assumption) ?_; simp only [Act.put, List.setIfInBounds_toArray, List.set_cons_zero, List.set_cons_succ])
        (refine wpAnyH_take (i := 4) (v := .int .i64 (j : Int)) rfl (by kernel_rfl) (by kernel_rfl) (by kernel_rfl) (fun _ _ _ h => h) (Or.inl ⟨by kernel_rfl, fun w hSw => by (try dsimp only at hSw); go_split_ands; go_simp⟩) (by assumption) ?_; simp only [Act.put, List.setIfInBounds_toArray, List.set_cons_zero, List.set_cons_succ])
        (refine wpAnyH_take (i := 5) (v := .pointer (some ⟨br, offr + j, none⟩)) rfl (by kernel_rfl) (by kernel_rfl) (by kernel_rfl) (fun _ _ _ h => h) (Or.inl ⟨by kernel_rfl, fun w hSw => by (try dsimp only at hSw); go_split_ands; go_simp⟩) (by assumption) ?_; simp only [Act.put, List.setIfInBounds_toArray, List.set_cons_zero, List.set_cons_succ])
        (refine wpAnyH_take (i := 6) (v := .int .i64 (r : Int)) rfl (by kernel_rfl) (by kernel_rfl) (by kernel_rfl) (fun _ _ _ h => h) (Or.inl ⟨by kernel_rfl, fun w hSw => by (try dsimp only at hSw); go_split_ands; go_simp⟩) (by assumption) ?_; simp only [Act.put, List.setIfInBounds_toArray, List.set_cons_zero, List.set_cons_succ])
        (refine wpAnyH_take (i := 7) (v := .pointer (some ⟨bt, offt + r, none⟩)) rfl (by kernel_rfl) (by kernel_rfl) (by kernel_rfl) (fun _ _ _ h => h) (Or.inl ⟨by kernel_rfl, fun w hSw => by (try dsimp only at hSw); go_split_ands; go_simp⟩) (by assumption) ?_; simp only [Act.put, List.setIfInBounds_toArray, List.set_cons_zero, List.set_cons_succ])
        (refine wpAnyH_take (i := 8) (v := .slice (some ⟨b3, off3, none⟩) D ct) rfl (by kernel_rfl) (by kernel_rfl) (by kernel_rfl) (fun _ _ _ h => h) (Or.inl ⟨by kernel_rfl, fun w hSw => by (try dsimp only at hSw); go_split_ands; go_simp⟩) (by assumption) ?_; simp only [Act.put, List.setIfInBounds_toArray, List.set_cons_zero, List.set_cons_succ])
        (refine wpAnyH_take (i := 9) (v := .int .i64 (k : Int)) rfl (by kernel_rfl) (by kernel_rfl) (by kernel_rfl) (fun _ _ _ h => h) (Or.inl ⟨by kernel_rfl, fun w hSw => by (try dsimp only at hSw); go_split_ands; go_simp⟩) (by assumption) ?_; simp only [Act.put, List.setIfInBounds_toArray, List.set_cons_zero, List.set_cons_succ])
        (refine wpAnyH_take (i := 10) (v := .pointer (some ⟨b3, off3 + k, none⟩)) rfl (by kernel_rfl) (by kernel_rfl) (by kernel_rfl) (fun _ _ _ h => h) (Or.inl ⟨by kernel_rfl, fun w hSw => by (try dsimp only at hSw); go_split_ands; go_simp⟩) (by assumption) ?_; simp only [Act.put, List.setIfInBounds_toArray, List.set_cons_zero, List.set_cons_succ])
        (refine wpAnyH_take (i := 11) (v := .int .i64 y) rfl (by kernel_rfl) (by kernel_rfl) (by kernel_rfl) (fun _ _ _ h => h) (Or.inl ⟨by kernel_rfl, fun w hSw => by (try dsimp only at hSw); go_split_ands; go_simp⟩) (by assumption) ?_; simp only [Act.put, List.setIfInBounds_toArray, List.set_cons_zero, List.set_cons_succ])
        obtain ⟨wd, hwd⟩ : ∃ q, q = wm.drew := ⟨_, rfl⟩
        have hownd := own_keep Hst.out.2.1 (show Below wm.heap.size wm wm.drew from (Below.refl _ _).drew)
        rw [← hwd] at hbD hownd ⊢
        clear hwd
        refine wpAnyH_ready (rs := [12]) (by kernel_rfl) (by simp) (AllReadyH.cons rfl (fun K hK => ?_) AllReadyH.nil)
        go_simp
        obtain ⟨we, hwe⟩ : ∃ q, q = wd.alloc (.cells #[.int .i64 y] 2) := ⟨_, rfl⟩
        have hbe : Below wd.heap.size wd we := by rw [hwe]; exact (Below.refl _ _).alloc (Nat.le_refl _) _
        have hLA : we.heap[wd.heap.size]? = some (.cells #[.int .i64 y] 2 (0, 0)) := by rw [hwe]; exact heap_alloc_self _ _
        have hzd := hbD.size
        have hbe1 : Below w1.heap.size w1 we := hbD.trans (hbe.mono hzd)
        have howne := own_keep hownd hbe
        have hze := hbe1.size
        rw [← hwe]
        have hSe := hS2 we hbe1
        clear hwe
        (refine hK.out _ _ hSe (fun hHeld => ?_); clear hK K; (try simp only [Act.put, List.setIfInBounds_toArray, List.set_cons_zero, List.set_cons_succ]))
        refine wpAnyH_ready (rs := [13]) (by kernel_rfl) (by simp) (AllReadyH.cons rfl (fun K hK => ?_) AllReadyH.nil)
        refine step_append_lies _ (by rfl) _ _ _ (by rfl) w1.heap.size 2 i0 _ 1 8 Tryz.underlying44 gi gz0 gz1 gz2 rfl (by omega) _ (entTo t rows r k).length _ (by rfl) howne ⟨_, 0, none⟩ 1 1 [.int .i64 y] (by rfl) (by rfl) (World.news_of_block hLA) (by simp [Value.oneCell']) (by omega) (by unfold maxLen; omega) (by omega) (by omega) _ rfl ?_
        intro gg cap wf hownf hgrowf hatf hltf
        have hbf : Below w1.heap.size w1 wf := hbe1.grown hgrowf (by omega) (fun g hg => (howne.lt g hg).1)
        have hSf := hS2 wf hbf
        have HF := Lib.hid (And.intro hownf hbf); clear hownf hgrowf hatf hltf hLA hownd howne hbe hbe1 hbD hbf
        (refine hK.out _ _ hSf (fun hHeld => ?_); clear hK K; (try simp only [Act.put, List.setIfInBounds_toArray, List.set_cons_zero, List.set_cons_succ]))
        (refine wpAnyH_ready (rs := [14]) (by kernel_rfl) (by simp) (AllReadyH.cons rfl (fun K hK => ?_) AllReadyH.nil); go_simp)
        (refine hK.out _ _ hSf (fun hHeld => ?_); clear hK K; (try simp only [Act.put, List.setIfInBounds_toArray, List.set_cons_zero, List.set_cons_succ]))
        refine wpAnyH_done (by kernel_rfl) (NoPanic.normal ?_) _
        clear hHeld hSf hSe hS2
        go_wp2_with fail
        go_roundw
        case rel => exact ⟨k + 1, by omega, by go_num, by rw [Hst.out.1, List.map_append, List.length_append]; exact HF.out.1, HF.out.2⟩
        case measure => simp [intOf]; omega
    ·obtain rfl : D = k := by omega
     obtain ⟨be, hxe, hbe⟩ := own_F1 hown
     have hTn := HT6.out.1.below hbn
     have hfr := fun hn => HT6.out.1.fresh (hbe hn)
     have hownn := hTn.own1
     have hbn2 := hTn.base.2
     have HX := Lib.hid (And.intro hxe (And.intro hfr hTn)); clear hxe hbe hfr hTn hown
     go_wp2_with (at_builtin; refine wp_app1 _ rfl _ _ 24 rfl K0 44 (.slice none 0 0) 24 Tryz.underlying24 inf_ints rfl _ _ _ rfl hownn (.slice ea (entTo t rows r D).length ec) _ rfl rfl (by omega) (by omega) (by omega) ?_; intro v1 w1 hown1 hgrow1 hblk1 hB1)
     have hT9 := HX.out.2.2.push1 HX.out.1 HX.out.2.1 hown1 hgrow1 hblk1
     have hb9 := (HT6.out.2.trans (hbn.mono hz1w)).grown hgrow1 (by omega) (fun g hg => by
      have hg : (Value.slice v1a (keepTo t rows j).length v1c).ownBlock = some g := hg
      have h1 := (hownn.lt g hg).1; have h2 := HX.out.2.2.exK.1; have h3 := HK0.out; have h4 : g ≠ K0 := fun e => h2 (by rw [hg, e]); omega)
     have hst1 : keepTo t rows (j + 1) = keepTo t rows j ++ [entTo t rows r D] := by show keepTo t rows j ++ [entTo t rows (geti rows j).toNat (getl t 0).length] = _; rw [Hre.out.1, Hre.out.2.1]; rfl
     have HR9 := Lib.hid (And.intro hT9 (And.intro hb9 hst1)); clear hT9 hb9 hst1 hown1 hgrow1 hblk1 hB1 hownn
     go_roundw
     case rel => exact ⟨j + 1, _, _, _, _, by omega, by go_num, by rw [HR9.out.2.2]; exact HR9.out.1, HR9.out.2.1⟩
     case measure => simp [intOf]; omega
  ·obtain rfl : j = rows.length := by omega
   have hRo := (HT.out.2.block _ (by omega)).trans H3.out.2.1
   have hBo := H3.out.1.trans (HT.out.2.mono (by omega))
   have HRo := Lib.hid (And.intro hRo hBo); clear hRo hBo
   by_cases hn0 : rows.length = 0
   ·have hfin : keepAns m t cuts rows = (5, [], []) := by unfold keepAns; rw [if_neg (by rw [Hri.out.2.2]; decide), if_neg (by rw [Hri.out.1]; decide), if_pos (.inl hn0)]
    have hA5 := HA5.out.symm.trans hfin
    clear hfin hjj hx3
    obtain ⟨RL, hRL⟩ : ∃ q, rows.length = q := ⟨_, rfl⟩
    have HRL := Lib.hid hRL
    rw [hRL] at hn0 hmr hrl hj ⊢
    subst hn0
    clear hRL
    have hcRz : ∀ o, wo.cell? ⟨W.heap.size + 1, o, none⟩ = (#[.int .i64 0, .int .i64 0, .int .i64 0, .int .i64 0, .int .i64 0, .slice none 0 0] : Array Value)[o]? := fun o => by rw [cell_of_block HRo.out.1]
    have hfRz := fun o => frozen_of_block HRo.out.1 o
    obtain ⟨wz, hwz⟩ : ∃ wz, wz = put6 wo (W.heap.size + 1) (.int .i64 0) (.int .i64 0) (.int .i64 0) (.int .i64 0) (.int .i64 0) (.slice none 0 0) := ⟨_, rfl⟩
    have hd3 : wz.heap[W.heap.size + 1]? = some (.cells #[.int .i64 0, .int .i64 0, .int .i64 0, .int .i64 0, .int .i64 0, .slice none 0 0] 33 (0, 0)) := by
     rw [hwz]; unfold put6
     rw [heap_setCell_self (heap_setCell_self (heap_setCell_self (heap_setCell_self (heap_setCell_self (heap_setCell_self HRo.out.1 _) _) _) _) _) _]
     simp
    have hd2 : Below W.heap.size W wz := by
     rw [hwz]; unfold put6
     exact ((((((HRo.out.2.setCell (by show W.heap.size ≤ W.heap.size + 1; omega) _).setCell (by show W.heap.size ≤ W.heap.size + 1; omega) _).setCell (by show W.heap.size ≤ W.heap.size + 1; omega) _).setCell (by show W.heap.size ≤ W.heap.size + 1; omega) _).setCell (by show W.heap.size ≤ W.heap.size + 1; omega) _).setCell (by show W.heap.size ≤ W.heap.size + 1; omega) _)
    have hz0 : wz.cell? ⟨W.heap.size + 1, 0, none⟩ = some (.int .i64 0) := by rw [cell_of_block hd3]; rfl
    have hz1 : wz.cell? ⟨W.heap.size + 1, 1, none⟩ = some (.int .i64 0) := by rw [cell_of_block hd3]; rfl
    have hz2 : wz.cell? ⟨W.heap.size + 1, 2, none⟩ = some (.int .i64 0) := by rw [cell_of_block hd3]; rfl
    have hz3 : wz.cell? ⟨W.heap.size + 1, 3, none⟩ = some (.int .i64 0) := by rw [cell_of_block hd3]; rfl
    have hz4 : wz.cell? ⟨W.heap.size + 1, 4, none⟩ = some (.int .i64 0) := by rw [cell_of_block hd3]; rfl
    have hz5 : wz.cell? ⟨W.heap.size + 1, 5, none⟩ = some (.slice none 0 0) := by rw [cell_of_block hd3]; rfl
    have hlz := lt_of_heap hd3
    have HZ := Lib.hid (And.intro hd2 (And.intro hlz (And.intro hwz (And.intro hz0 (And.intro hz1 (And.intro hz2 (And.intro hz3 (And.intro hz4 hz5)))))))); clear hd2 hlz hd3 hwz hz0 hz1 hz2 hz3 hz4 hz5
    go_wp2_with fail
    have hwz := HZ.out.2.2.1
    unfold put6 at hwz
    rw [← hwz]
    clear hwz
    obtain ⟨hd2, hlz, hwzz, hz0, hz1, hz2, hz3, hz4, hz5⟩ := HZ.out
    clear hwzz
    exact bodyPost_ret (v := .tuple #[.agg #[.int .i64 0, .int .i64 0, .int .i64 0, .int .i64 0, .int .i64 0, .slice none 0 0], .slice none 0 0, .int .i64 5]) (by simp [results, Tryz.results24, go_sem, hz0, hz1, hz2, hz3, hz4, hz5]) rfl ⟨_, _, (by rw [hA5]; rfl), (by rw [hA5]; exact KOut.nil (by omega)), hd2⟩
   ·have hpos : 0 < rows.length := by omega
    have hk0 := keep_rowlen (t := t) (rows := rows) (k := 0) hpos
    have hkl := keepTo_len t rows rows.length
    obtain ⟨g, gc, eg, _, _⟩ := own_some HT.out.1.own1 (by omega)
    simp only [Value.slice.injEq] at eg
    obtain ⟨rfl, _, rfl⟩ := eg
    obtain ⟨rv0, hv0, hx0⟩ := HT.out.1.each1 0 (by omega)
    have hc0 : wo.cell? ⟨g, 0, none⟩ = some rv0 := by
     have h3 := HT.out.1.own1.cells (g := g) rfl 0 rv0 hv0
     simpa [Addr.add] using h3
    obtain ⟨a0, c0, rfl, _⟩ := id hx0
    rw [hk0] at hc0
    obtain ⟨U, hU⟩ : ∃ U, (usedTo t rows (getl t 0).length).length = U := ⟨_, rfl⟩
    rw [hU] at hc0 hk0
    have hul := usedTo_len t rows (getl t 0).length
    rw [hU] at hul
    have hkpos : 0 < (keepTo t rows rows.length).length := by omega
    have hkn : ¬ (keepTo t rows rows.length).length ≤ 0 := by omega
    have hkp2 : (0 : Int) < ((keepTo t rows rows.length).length : Int) := by omega
    have Hkl := Lib.hid (And.intro hkl hU); clear hkl hU hx0 hv0 hk0
    have hnd : ((rows.length : Int) == 0) = false := beq_eq_false_iff_ne.2 (by omega)
    have hnd2 : ¬ (rows.length : Int) = 0 := by omega
    by_cases hu0 : U = 0
    ·have hfin : keepAns m t cuts rows = (5, [], []) := by unfold keepAns; rw [if_neg (by rw [Hri.out.2.2]; decide), if_neg (by rw [Hri.out.1]; decide), if_pos (.inr (by rw [Hkl.out.2]; exact hu0))]
     have hA5 := HA5.out.symm.trans hfin
     clear hfin hjj hx3
     subst hu0
     have hcRz : ∀ o, wo.cell? ⟨W.heap.size + 1, o, none⟩ = (#[.int .i64 0, .int .i64 0, .int .i64 0, .int .i64 0, .int .i64 0, .slice none 0 0] : Array Value)[o]? := fun o => by rw [cell_of_block HRo.out.1]
     have hfRz := fun o => frozen_of_block HRo.out.1 o
     obtain ⟨wz, hwz⟩ : ∃ wz, wz = put6 wo (W.heap.size + 1) (.int .i64 0) (.int .i64 0) (.int .i64 0) (.int .i64 0) (.int .i64 0) (.slice none 0 0) := ⟨_, rfl⟩
     have hd3 : wz.heap[W.heap.size + 1]? = some (.cells #[.int .i64 0, .int .i64 0, .int .i64 0, .int .i64 0, .int .i64 0, .slice none 0 0] 33 (0, 0)) := by
      rw [hwz]; unfold put6
      rw [heap_setCell_self (heap_setCell_self (heap_setCell_self (heap_setCell_self (heap_setCell_self (heap_setCell_self HRo.out.1 _) _) _) _) _) _]
      simp
     have hd2 : Below W.heap.size W wz := by
      rw [hwz]; unfold put6
      exact ((((((HRo.out.2.setCell (by show W.heap.size ≤ W.heap.size + 1; omega) _).setCell (by show W.heap.size ≤ W.heap.size + 1; omega) _).setCell (by show W.heap.size ≤ W.heap.size + 1; omega) _).setCell (by show W.heap.size ≤ W.heap.size + 1; omega) _).setCell (by show W.heap.size ≤ W.heap.size + 1; omega) _).setCell (by show W.heap.size ≤ W.heap.size + 1; omega) _)
     have hz0 : wz.cell? ⟨W.heap.size + 1, 0, none⟩ = some (.int .i64 0) := by rw [cell_of_block hd3]; rfl
     have hz1 : wz.cell? ⟨W.heap.size + 1, 1, none⟩ = some (.int .i64 0) := by rw [cell_of_block hd3]; rfl
     have hz2 : wz.cell? ⟨W.heap.size + 1, 2, none⟩ = some (.int .i64 0) := by rw [cell_of_block hd3]; rfl
     have hz3 : wz.cell? ⟨W.heap.size + 1, 3, none⟩ = some (.int .i64 0) := by rw [cell_of_block hd3]; rfl
     have hz4 : wz.cell? ⟨W.heap.size + 1, 4, none⟩ = some (.int .i64 0) := by rw [cell_of_block hd3]; rfl
     have hz5 : wz.cell? ⟨W.heap.size + 1, 5, none⟩ = some (.slice none 0 0) := by rw [cell_of_block hd3]; rfl
     have hlz := lt_of_heap hd3
     have HZ := Lib.hid (And.intro hd2 (And.intro hlz (And.intro hwz (And.intro hz0 (And.intro hz1 (And.intro hz2 (And.intro hz3 (And.intro hz4 hz5)))))))); clear hd2 hlz hd3 hwz hz0 hz1 hz2 hz3 hz4 hz5
     go_wp2_with fail
     have hwz := HZ.out.2.2.1
     unfold put6 at hwz
     rw [← hwz]
     clear hwz
     obtain ⟨hd2, hlz, hwzz, hz0, hz1, hz2, hz3, hz4, hz5⟩ := HZ.out
     clear hwzz
     exact bodyPost_ret (v := .tuple #[.agg #[.int .i64 0, .int .i64 0, .int .i64 0, .int .i64 0, .int .i64 0, .slice none 0 0], .slice none 0 0, .int .i64 5]) (by simp [results, Tryz.results24, go_sem, hz0, hz1, hz2, hz3, hz4, hz5]) rfl ⟨_, _, (by rw [hA5]; rfl), (by rw [hA5]; exact KOut.nil (by omega)), hd2⟩
    ·have hfin : keepAns m t cuts rows = (0, keepTo t rows rows.length, kcutTo cuts rows rows.length) := by unfold keepAns; rw [if_neg (by rw [Hri.out.2.2]; decide), if_neg (by rw [Hri.out.1]; decide), if_neg (by rw [not_or]; exact ⟨hn0, by rw [Hkl.out.2]; exact hu0⟩)]
     have hA5 := HA5.out.symm.trans hfin
     have hud : ((U : Int) == 0) = false := beq_eq_false_iff_ne.2 (by omega)
     have hud2 : ¬ (U : Int) = 0 := by omega
     clear hfin hjj hx3
     have hA5 := Lib.hid hA5
     have hcRz : ∀ o, wo.cell? ⟨W.heap.size + 1, o, none⟩ = (#[.int .i64 0, .int .i64 0, .int .i64 0, .int .i64 0, .int .i64 0, .slice none 0 0] : Array Value)[o]? := fun o => by rw [cell_of_block HRo.out.1]
     have hfRz := fun o => frozen_of_block HRo.out.1 o
     obtain ⟨wz, hwz⟩ : ∃ wz, wz = put6 wo (W.heap.size + 1) (.int .i64 m.c) (.int .i64 m.d) (.int .i64 m.s) (.int .i64 m.e) (.int .i64 m.l) (.slice (some ⟨g, 0, none⟩) (keepTo t rows rows.length).length v1c) := ⟨_, rfl⟩
     have hd3 : wz.heap[W.heap.size + 1]? = some (.cells #[.int .i64 m.c, .int .i64 m.d, .int .i64 m.s, .int .i64 m.e, .int .i64 m.l, .slice (some ⟨g, 0, none⟩) (keepTo t rows rows.length).length v1c] 33 (0, 0)) := by
      rw [hwz]; unfold put6
      rw [heap_setCell_self (heap_setCell_self (heap_setCell_self (heap_setCell_self (heap_setCell_self (heap_setCell_self HRo.out.1 _) _) _) _) _) _]
      simp
     have hd2 : Below W.heap.size W wz := by
      rw [hwz]; unfold put6
      exact ((((((HRo.out.2.setCell (by show W.heap.size ≤ W.heap.size + 1; omega) _).setCell (by show W.heap.size ≤ W.heap.size + 1; omega) _).setCell (by show W.heap.size ≤ W.heap.size + 1; omega) _).setCell (by show W.heap.size ≤ W.heap.size + 1; omega) _).setCell (by show W.heap.size ≤ W.heap.size + 1; omega) _).setCell (by show W.heap.size ≤ W.heap.size + 1; omega) _)
     have hchz : Chg (fun b => b = W.heap.size + 1) wo wz := by
      rw [hwz]; unfold put6
      exact ((((((Chg.refl (fun b => b = W.heap.size + 1) _).setCell (p := ⟨W.heap.size + 1, 0, none⟩) (.inl rfl) _).setCell (p := ⟨W.heap.size + 1, 1, none⟩) (.inl rfl) _).setCell (p := ⟨W.heap.size + 1, 2, none⟩) (.inl rfl) _).setCell (p := ⟨W.heap.size + 1, 3, none⟩) (.inl rfl) _).setCell (p := ⟨W.heap.size + 1, 4, none⟩) (.inl rfl) _).setCell (p := ⟨W.heap.size + 1, 5, none⟩) (.inl rfl) _
     have hTz := (HT.out.1.low2 hchz (fun b hb => by have hb : b = W.heap.size + 1 := hb; have := HK0.out; omega)).baseO (show W.heap.size ≤ K0 by have := HK0.out; omega)
     have hz0 : wz.cell? ⟨W.heap.size + 1, 0, none⟩ = some (.int .i64 m.c) := by rw [cell_of_block hd3]; rfl
     have hz1 : wz.cell? ⟨W.heap.size + 1, 1, none⟩ = some (.int .i64 m.d) := by rw [cell_of_block hd3]; rfl
     have hz2' : wz.cell? ⟨W.heap.size + 1, 2, none⟩ = some (.int .i64 m.s) := by rw [cell_of_block hd3]; rfl
     have hz3' : wz.cell? ⟨W.heap.size + 1, 3, none⟩ = some (.int .i64 m.e) := by rw [cell_of_block hd3]; rfl
     have hz4' : wz.cell? ⟨W.heap.size + 1, 4, none⟩ = some (.int .i64 m.l) := by rw [cell_of_block hd3]; rfl
     have hz5 : wz.cell? ⟨W.heap.size + 1, 5, none⟩ = some (.slice (some ⟨g, 0, none⟩) (keepTo t rows rows.length).length v1c) := by rw [cell_of_block hd3]; rfl
     have HZ := Lib.hid (And.intro hd2 (And.intro hTz (And.intro hwz (And.intro hz0 (And.intro hz1 (And.intro hz2' (And.intro hz3' (And.intro hz4' hz5)))))))); clear hd2 hTz hchz hd3 hwz hz0 hz1 hz2' hz3' hz4' hz5
     go_wp2_with fail
     have hwz := HZ.out.2.2.1
     unfold put6 at hwz
     rw [← hwz]
     clear hwz
     obtain ⟨hd2, hTz, hwzz, hz0, hz1, hz2', hz3', hz4', hz5⟩ := HZ.out
     clear hwzz
     exact bodyPost_ret (v := .tuple #[.agg #[.int .i64 m.c, .int .i64 m.d, .int .i64 m.s, .int .i64 m.e, .int .i64 m.l, .slice (some ⟨g, 0, none⟩) (keepTo t rows rows.length).length v1c], .slice v2a (kcutTo cuts rows rows.length).length v2c, .int .i64 0]) (by simp [results, Tryz.results24, go_sem, hz0, hz1, hz2', hz3', hz4', hz5]) rfl ⟨_, _, by rw [hA5.out]; rfl, by rw [hA5.out]; exact ⟨_, _, _, _, _, hTz⟩, hd2⟩
theorem KOut.v2 {B : Nat} {w : World} {u v : Value} {T C : List (List Int)} (h : KOut B w u v T C) : V2 (fun _ => True) w u T ∧ V2 (fun _ => True) w v C := by
 obtain ⟨vs1, vs2, b1, b2, K, h⟩ := h
 exact ⟨h.out.1.f2.v2.any, h.out.2.f2.v2.any⟩
set_option maxRecDepth 100000 in
theorem likeSystems_w {S S' : Nat → Prop} (m : Mk) (u v : Value) (t : List (List Int)) (W : World) (ha : V2 S W u t) (hb : V2 S' W v t) :
  Calls Tryz.prog 29 #[.agg #[.int .i64 m.c, .int .i64 m.d, .int .i64 m.s, .int .i64 m.e, .int .i64 m.l, u], .agg #[.int .i64 m.c, .int .i64 m.d, .int .i64 m.s, .int .i64 m.e, .int .i64 m.l, v]] W fun e' w' => e' = .returned (.bool true) ∧ Below W.heap.size W w' := by
 obtain ⟨a, c, rfl, hm1⟩ := ha.form
 obtain ⟨a', c', rfl, hm2⟩ := hb.form
 obtain ⟨WA, hWA⟩ : ∃ WA, WA = (W.alloc (.cells #[.int .i64 m.c, .int .i64 m.d, .int .i64 m.s, .int .i64 m.e, .int .i64 m.l, .slice a t.length c] 33)).alloc (.cells #[.int .i64 m.c, .int .i64 m.d, .int .i64 m.s, .int .i64 m.e, .int .i64 m.l, .slice a' t.length c'] 33) := ⟨_, rfl⟩
 have hbA : Below W.heap.size W WA := by rw [hWA]; exact by (repeat (first | (with_reducible refine Below.setCell ?_ ?_ _) | (with_reducible refine Below.alloc ?_ ?_ _) | (with_reducible refine Below.drew ?_) | (with_reducible refine below_drewN ?_ _) | (with_reducible exact Below.refl _ _) | (with_reducible assumption) | (with_reducible refine Below.trans ?_ (Below.mono (by with_reducible assumption) ?_)) | go_size))
 have hzA : WA.heap.size = W.heap.size + 2 := by rw [hWA]; simp
 have hA0 : WA.heap[W.heap.size]? = some (.cells #[.int .i64 m.c, .int .i64 m.d, .int .i64 m.s, .int .i64 m.e, .int .i64 m.l, .slice a t.length c] 33 (0, 0)) := by rw [hWA]; simp only [heap_alloc_at, World.size_alloc]; simp
 have hA1 : WA.heap[W.heap.size + 1]? = some (.cells #[.int .i64 m.c, .int .i64 m.d, .int .i64 m.s, .int .i64 m.e, .int .i64 m.l, .slice a' t.length c'] 33 (0, 0)) := by rw [hWA]; simp only [heap_alloc_at, World.size_alloc]; simp
 have hx0 : ∀ o, WA.cell? ⟨W.heap.size, o, none⟩ = (#[.int .i64 m.c, .int .i64 m.d, .int .i64 m.s, .int .i64 m.e, .int .i64 m.l, .slice a t.length c] : Array Value)[o]? := fun o => cell_of_block hA0 o
 have hx1 : ∀ o, WA.cell? ⟨W.heap.size + 1, o, none⟩ = (#[.int .i64 m.c, .int .i64 m.d, .int .i64 m.s, .int .i64 m.e, .int .i64 m.l, .slice a' t.length c'] : Array Value)[o]? := fun o => cell_of_block hA1 o
 have hV1 := (ha.below hbA).any
 have hV2 := (hb.below hbA).any
 have HA := Lib.hid (And.intro hV1 (And.intro hV2 (And.intro hbA hzA))); clear hA0 hA1 hbA hzA hV1 hV2 ha hb
 obtain ⟨m1, m2, m3, m4, m5⟩ := m
 dsimp only at hx0 hx1 hWA ⊢
 go_enter Tryz.func29, Tryz.ntmps29
 go_wp2_with fail
 rw [← hWA]
 go_wp2_with fail
 refine (likeLists_w _ _ t t _ true (decide_eq_true rfl) HA.out.1 HA.out.2.1).mono ?_
 rintro e' w2 ⟨rfl, hb2⟩
 have HZ := Lib.hid (HA.out.2.2.1.trans (hb2.mono (by have := HA.out.2.2.2; omega))); clear hb2
 clear hx0 hx1
 go_wp2_with fail
 go_ret
 exact ⟨rfl, HZ.out⟩
def cntFAns (m : Mk) (t cuts : List (List Int)) : Int × Int := if partC m t cuts = 0 then (((falseL m.c.toNat t cuts).length : Int), 0) else (0, partC m t cuts)
set_option maxRecDepth 100000 in
theorem CountFalse_any {S S' : Nat → Prop} (m : Mk) (u v : Value) (t cuts : List (List Int)) (W : World) (h : V2 S W u t) (hc : V2 S' W v cuts) :
  Calls Tryz.prog 33 #[.agg #[.int .i64 m.c, .int .i64 m.d, .int .i64 m.s, .int .i64 m.e, .int .i64 m.l, u], v] W fun e' w' => e' = .returned (.tuple #[.int .i64 (cntFAns m t cuts).1, .int .i64 (cntFAns m t cuts).2]) ∧ Below W.heap.size W w' := by
 obtain ⟨a, c, rfl, hmx⟩ := h.form
 obtain ⟨a', c', rfl, hmx'⟩ := hc.form
 obtain ⟨W1, hW1, hB01, hz01, HZ01, hc01, hh01⟩ := box_facts W #[.int .i64 m.c, .int .i64 m.d, .int .i64 m.s, .int .i64 m.e, .int .i64 m.l, .slice a t.length c] 33
 have hV1 := (h.below hB01).any
 have hC1 := (hc.below hB01).any
 have hcode := partCode_any m _ _ t cuts W1 hV1 hC1
 have hz1 : W.heap.size < W1.heap.size := hz01
 by_cases hp : partC m t cuts = 0
 ·have hfin : cntFAns m t cuts = (((falseL m.c.toNat t cuts).length : Int), 0) := by unfold cntFAns; rw [if_pos hp]
  rw [hp] at hcode
  rw [hfin]
  have hf := fits_of hp
  have hmc : ((m.c.toNat : Nat) : Int) = m.c := by have := Mk.ok_iff.1 hf.ok; omega
  have Hf := Lib.hid (And.intro hf hmc); clear hf hmc
  obtain ⟨L, hL⟩ : ∃ L, falseL m.c.toNat t cuts = L := ⟨_, rfl⟩
  rw [hL]
  have HL := Lib.hid hL; clear hL hfin hp
  dsimp only
  go_enter Tryz.func33, Tryz.ntmps33
  go_wp2_with fail
  rw [← hW1]
  refine hcode.mono ?_
  rintro e' w2 ⟨rfl, hb2⟩
  have hx2 : ∀ o, w2.cell? ⟨W.heap.size, o, none⟩ = (#[.int .i64 m.c, .int .i64 m.d, .int .i64 m.s, .int .i64 m.e, .int .i64 m.l, .slice a t.length c] : Array Value)[o]? := fun o => by rw [(bcell hb2).1 _ _ hz01, hc01]
  have hz2 : W.heap.size < w2.heap.size := by have := hb2.size; omega
  have H2 := Lib.hid (And.intro hB01 hb2); clear hb2 hB01 hcode hc01
  go_wp2_with fail
  refine (partFaults_any m _ _ t cuts m.c.toNat w2 Hf.out.1 Hf.out.2 (hV1.below H2.out.2) (hC1.below H2.out.2)).mono ?_
  rintro e' w3 ⟨v3, rfl, hF, hb3⟩
  rw [HL.out] at hF
  obtain ⟨fa, fc, rfl, hfm⟩ := hF.v2.form
  have H3 := Lib.hid (H2.out.1.trans ((H2.out.2.trans (hb3.mono H2.out.2.size)).mono (by omega))); clear hb3 hF
  clear hx2
  go_wp2_with fail
  go_ret2
  exact ⟨rfl, H3.out⟩
 ·have hfin : cntFAns m t cuts = (0, partC m t cuts) := by unfold cntFAns; rw [if_neg hp]
  have e1 : (partC m t cuts != 0) = true := by simp [hp]
  rw [hfin]
  obtain ⟨pc, hpc⟩ : ∃ pc, partC m t cuts = pc := ⟨_, rfl⟩
  rw [hpc] at e1 hcode ⊢
  have Hpc := Lib.hid hpc; clear hpc hp hfin
  dsimp only
  go_enter Tryz.func33, Tryz.ntmps33
  go_wp2_with fail
  rw [← hW1]
  refine hcode.mono ?_
  rintro e' w2 ⟨rfl, hb2⟩
  have H2 := Lib.hid (hB01.trans (hb2.mono (by omega))); clear hb2 hB01 hcode hc01
  go_wp2_with fail
  go_ret2
  exact ⟨rfl, H2.out⟩
theorem rows_law {l : List Int} (h : (rowsAns l).2 = 0) : ∀ x, x ∈ l → hasI (rowsAns l).1 x = true := by
 intro x hx
 unfold rowsAns at h ⊢
 split at h
 ·rw [if_pos (by assumption)]
  exact hasI_iff.2 (((diffI_sort l).2 x).2 hx)
 ·simp at h
theorem keep_law {m : Mk} {t cuts T C : List (List Int)} {rows : List Int} {c : Int} (h : keepAns m t cuts rows = (c, T, C)) (hc : c = 0) : isSys (keepM m c) T = true ∧ C.length = rows.length := by
 subst hc
 obtain ⟨h1, h2, _⟩ := keep_part h
 exact ⟨(partC_ok.1 h1).1, h2⟩
theorem blame_cnt {m : Mk} {t cuts T C : List (List Int)} {r : List Int} {a c : Int} (h : blameAns m t cuts = (r, a)) (ha : a = 0) (hk : keepAns m t cuts r = (c, T, C)) : c = 0 ∧ ∃ n : Nat, 0 < n ∧ cntFAns (keepM m c) T C = ((n : Int), 0) := by
 subst ha
 obtain ⟨T', C', h1, h2⟩ := blame_law h
 rw [h1] at hk
 injection hk with e1 e2
 injection e2 with e2 e3
 subst e1 e2 e3
 refine ⟨rfl, _, h2, ?_⟩
 have hp := (keep_part h1).1
 show cntFAns m T' C' = _
 unfold cntFAns
 rw [if_pos hp]
end Go.Proofs.YtmjplkbmhdkggaaGreat
