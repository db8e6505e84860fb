/- Rows that are kept: the program's walk. No conditions. -/
import Derived.Test.YtmjplkbmhdkggaaGreatMKeepP
namespace Go.Proofs.YtmjplkbmhdkggaaGreat
open Go.RowKit
set_option linter.unusedVariables false
set_option linter.unusedSimpArgs false
theorem used_any (t : List (List Int)) (rows : List Int) (d : Nat) : usedD t rows d = rows.any fun x => decide (geti (getl t x.toNat) d = 1) := by
 rw [Bool.eq_iff_iff, List.any_eq_true]
 unfold usedD
 rw [usedRs_iff]
 constructor
 ·rintro ⟨j, hj, h⟩; exact ⟨geti rows j, geti_mem hj, decide_eq_true h⟩
 ·rintro ⟨x, hx, h⟩
  obtain ⟨j, hj, rfl⟩ := index_of hx
  exact ⟨j, hj, of_decide_eq_true h⟩
theorem enters_keep : Enters 82 := fun args w => by kernel_rfl
set_option maxRecDepth 100000 in
theorem kept1_any {S : Nat → Prop} (m : Mk) (u : Value) (t : List (List Int)) (r d SB DB : Nat) (w : World) (h : V2 S w u t) (hr : r < t.length) (hd : d < (getl t r).length)
  (hs : ∀ o, w.cell? ⟨SB, o, none⟩ = (#[.int .i64 m.c, .int .i64 m.d, .int .i64 m.s, .int .i64 m.e, .int .i64 m.l, u] : Array Value)[o]?) (hc : w.cell? ⟨DB, 0, none⟩ = some (.int .i64 (d : Int))) :
  Calls Tryz.prog 82 #[.int .i64 (r : Int), .pointer (some ⟨SB, 0, none⟩), .pointer (some ⟨DB, 0, none⟩)] w fun e w' => e = .returned (.bool (decide (geti (getl t r) d = 1))) ∧ Below w.heap.size w w' := by
 obtain ⟨a, c, rfl, hm⟩ := h.form
 obtain ⟨b1, off1, a1, c1, rfl, _, hc1, hr1⟩ := h.cell hr
 obtain ⟨b2, off2, rfl, _, hc2⟩ := hr1.cell hd
 have hl1 := hr1.len
 unfold maxLen at hl1
 have hrn : ¬ t.length ≤ r := by omega
 have hdn : ¬ (getl t r).length ≤ d := by omega
 obtain ⟨q, hq⟩ : ∃ q, decide (geti (getl t r) d = 1) = q := ⟨_, rfl⟩
 have hq2 : (geti (getl t r) d == 1) = q := by rw [← hq]; simp [Bool.beq_eq_decide_eq]
 rw [hq]
 clear hq
 go_enter Tryz.func82, Tryz.ntmps82
 go_wp2_with fail
 go_quiet (fail)
 go_wp2_with fail
 go_ret
 exact ⟨rfl, by repeat' first | refine below_drewN ?_ _ | exact Below.refl _ _⟩
/-- Six values in the cells of a block. -/
def put6 (w : World) (b : Nat) (v0 v1 v2 v3 v4 v5 : Value) : World := (((((w.setCell ⟨b, 0, none⟩ v0).setCell ⟨b, 1, none⟩ v1).setCell ⟨b, 2, none⟩ v2).setCell ⟨b, 3, none⟩ v3).setCell ⟨b, 4, none⟩ v4).setCell ⟨b, 5, none⟩ v5
/-- What KeepRows answers: code C, the table and the cuts in memory of their own. -/
def KOut (B : Nat) (w : World) (u v : Value) (T C : List (List Int)) : Prop := ∃ vs1 vs2 b1 b2 K, Two B K w u v T C vs1 vs2 b1 b2
theorem KOut.nil {B : Nat} {w : World} (h : B < w.heap.size) : KOut B w (.slice none 0 0) (.slice none 0 0) [] [] :=
 ⟨[], [], fun _ => 0, fun _ => 0, B, ⟨⟨rfl, .inl ⟨rfl, rfl⟩⟩, ⟨rfl, .inl ⟨rfl, rfl⟩⟩, fun k hk => by simp at hk, fun k hk => by simp at hk, fun k hk => by simp at hk, fun k hk => by simp at hk, fun j k hj => by simp at hj, fun j k hj => by simp at hj, fun j k hj => by simp at hj, fun g hg => (by cases hg), ⟨by simp [Value.ownBlock], by simp [Value.ownBlock]⟩, ⟨Nat.le_refl _, h⟩⟩⟩
set_option maxRecDepth 100000 in
set_option maxHeartbeats 4000000 in
theorem KeepRows_any {S S' S'' : Nat → Prop} (m : Mk) (u v x : Value) (t cuts : List (List Int)) (rows : List Int) (W : World) (h : V2 S W u t) (hc : V2 S' W v cuts) (hr : V1 S'' W x rows) :
  Calls Tryz.prog 23 #[.agg #[.int .i64 m.c, .int .i64 m.d, .int .i64 m.s, .int .i64 m.e, .int .i64 m.l, u], v, x] W fun e' w' => ∃ u' v', e' = .returned (.tuple #[.agg #[.int .i64 (keepM m (keepAns m t cuts rows).1).c, .int .i64 (keepM m (keepAns m t cuts rows).1).d, .int .i64 (keepM m (keepAns m t cuts rows).1).s, .int .i64 (keepM m (keepAns m t cuts rows).1).e, .int .i64 (keepM m (keepAns m t cuts rows).1).l, u'], v', .int .i64 (keepAns m t cuts rows).1]) ∧ KOut W.heap.size w' u' v' (keepAns m t cuts rows).2.1 (keepAns m t cuts rows).2.2 ∧ Below W.heap.size W w' := by
 obtain ⟨a, c, rfl, hmx⟩ := h.form
 obtain ⟨a', c', rfl, hmx'⟩ := hc.form
 obtain ⟨ra, rc, rfl, hmr⟩ := hr.form
 obtain ⟨WA, hWA⟩ : ∃ WA, WA = (W.alloc (.cells #[.int .i64 m.c, .int .i64 m.d, .int .i64 m.s, .int .i64 m.e, .int .i64 m.l, .slice a t.length c] 33)).alloc (.cells #[.int .i64 0, .int .i64 0, .int .i64 0, .int .i64 0, .int .i64 0, .slice none 0 0] 33) := ⟨_, rfl⟩
 have hbA : Below W.heap.size W WA := by rw [hWA]; exact by (repeat (first | (with_reducible refine Below.setCell ?_ ?_ _) | (with_reducible refine Below.alloc ?_ ?_ _) | (with_reducible refine Below.drew ?_) | (with_reducible refine below_drewN ?_ _) | (with_reducible exact Below.refl _ _) | (with_reducible assumption) | (with_reducible refine Below.trans ?_ (Below.mono (by with_reducible assumption) ?_)) | go_size))
 have hzA : WA.heap.size = W.heap.size + 2 := by rw [hWA]; simp
 have hzA1 : W.heap.size + 1 < WA.heap.size := by omega
 have hA0 : WA.heap[W.heap.size]? = some (.cells #[.int .i64 m.c, .int .i64 m.d, .int .i64 m.s, .int .i64 m.e, .int .i64 m.l, .slice a t.length c] 33 (0, 0)) := by rw [hWA]; simp only [heap_alloc_at, World.size_alloc]; simp
 have hA1 : WA.heap[W.heap.size + 1]? = some (.cells #[.int .i64 0, .int .i64 0, .int .i64 0, .int .i64 0, .int .i64 0, .slice none 0 0] 33 (0, 0)) := by rw [hWA]; simp only [heap_alloc_at, World.size_alloc]; simp
 have hV1 := (h.below hbA).old
 have hC1 := (hc.below hbA).old
 have hR1 := (hr.below hbA).old
 have HA := Lib.hid (And.intro hA0 (And.intro hA1 (And.intro hbA hzA))); clear hA0 hA1 hbA hzA
 have hcode := partCode_any m _ _ t cuts WA hV1 hC1
 by_cases hp : partC m t cuts = 0
 rotate_left
 ·have hfin : keepAns m t cuts rows = (partC m t cuts, [], []) := by unfold keepAns; rw [if_pos hp]
  have e1 : (partC m t cuts != 0) = true := by simp [hp]
  have hkm : keepM m (partC m t cuts) = Mk.mk 0 0 0 0 0 := by unfold keepM; rw [if_neg hp]
  rw [hfin]
  dsimp only
  rw [hkm]
  have Hp := Lib.hid (And.intro hp hfin); clear hp hfin hkm
  generalize partC m t cuts = pc at *
  go_enter Tryz.func23, Tryz.ntmps23
  go_wp2_with fail
  rw [← hWA]
  refine hcode.mono ?_
  rintro e' w2 ⟨rfl, hb2⟩
  have hz2 := hb2.size
  have hx2 : ∀ o, w2.cell? ⟨W.heap.size, o, none⟩ = (#[.int .i64 m.c, .int .i64 m.d, .int .i64 m.s, .int .i64 m.e, .int .i64 m.l, .slice a t.length c] : Array Value)[o]? := fun o => cell_of_block (heap_below HA.out.1 hb2 (by omega)) o
  have H2 := Lib.hid (And.intro (HA.out.2.2.1.trans (hb2.mono (by omega))) (And.intro (heap_below HA.out.2.1 hb2 (by omega)) hb2)); clear hb2
  have hcRz : ∀ o, w2.cell? ⟨W.heap.size + 1, o, none⟩ = (#[.int .i64 0, .int .i64 0, .int .i64 0, .int .i64 0, .int .i64 0, .slice none 0 0] : Array Value)[o]? := fun o => by rw [cell_of_block H2.out.2.1]
  have hfRz := fun o => frozen_of_block H2.out.2.1 o
  obtain ⟨wz, hwz⟩ : ∃ wz, wz = put6 w2 (W.heap.size + 1) (.int .i64 0) (.int .i64 0) (.int .i64 0) (.int .i64 0) (.int .i64 0) (.slice none 0 0) := ⟨_, rfl⟩
  have hd3 : wz.heap[W.heap.size + 1]? = some (.cells #[.int .i64 0, .int .i64 0, .int .i64 0, .int .i64 0, .int .i64 0, .slice none 0 0] 33 (0, 0)) := by
   rw [hwz]; unfold put6
   rw [heap_setCell_self (heap_setCell_self (heap_setCell_self (heap_setCell_self (heap_setCell_self (heap_setCell_self H2.out.2.1 _) _) _) _) _) _]
   simp
  have hd2 : Below W.heap.size W wz := by
   rw [hwz]; unfold put6
   exact ((((((H2.out.1.setCell (by show W.heap.size ≤ W.heap.size + 1; omega) _).setCell (by show W.heap.size ≤ W.heap.size + 1; omega) _).setCell (by show W.heap.size ≤ W.heap.size + 1; omega) _).setCell (by show W.heap.size ≤ W.heap.size + 1; omega) _).setCell (by show W.heap.size ≤ W.heap.size + 1; omega) _).setCell (by show W.heap.size ≤ W.heap.size + 1; omega) _)
  have hz0 : wz.cell? ⟨W.heap.size + 1, 0, none⟩ = some (.int .i64 0) := by rw [cell_of_block hd3]; rfl
  have hz1 : wz.cell? ⟨W.heap.size + 1, 1, none⟩ = some (.int .i64 0) := by rw [cell_of_block hd3]; rfl
  have hz2 : wz.cell? ⟨W.heap.size + 1, 2, none⟩ = some (.int .i64 0) := by rw [cell_of_block hd3]; rfl
  have hz3 : wz.cell? ⟨W.heap.size + 1, 3, none⟩ = some (.int .i64 0) := by rw [cell_of_block hd3]; rfl
  have hz4 : wz.cell? ⟨W.heap.size + 1, 4, none⟩ = some (.int .i64 0) := by rw [cell_of_block hd3]; rfl
  have hz5 : wz.cell? ⟨W.heap.size + 1, 5, none⟩ = some (.slice none 0 0) := by rw [cell_of_block hd3]; rfl
  have hlz := lt_of_heap hd3
  have HZ := Lib.hid (And.intro hd2 (And.intro hlz (And.intro hwz (And.intro hz0 (And.intro hz1 (And.intro hz2 (And.intro hz3 (And.intro hz4 hz5)))))))); clear hd2 hlz hd3 hwz hz0 hz1 hz2 hz3 hz4 hz5
  go_wp2_with fail
  have hwz := HZ.out.2.2.1
  unfold put6 at hwz
  rw [← hwz]
  clear hwz
  obtain ⟨hd2, hlz, hwzz, hz0, hz1, hz2, hz3, hz4, hz5⟩ := HZ.out
  clear hwzz
  exact bodyPost_ret (v := .tuple #[.agg #[.int .i64 0, .int .i64 0, .int .i64 0, .int .i64 0, .int .i64 0, .slice none 0 0], .slice none 0 0, .int .i64 pc]) (by simp [results, Tryz.results23, go_sem, hz0, hz1, hz2, hz3, hz4, hz5]) rfl ⟨_, _, rfl, KOut.nil (by omega), hd2⟩
 rw [hp] at hcode
 have hf := fits_of hp
 have hHf := Lib.hid hf
 cases hri : riseB rows (cuts.length : Int)
 ·have hfin : keepAns m t cuts rows = (2, [], []) := by unfold keepAns; rw [if_neg (by rw [hp]; decide), if_pos hri]
  have hkm : keepM m 2 = Mk.mk 0 0 0 0 0 := rfl
  rw [hfin]
  dsimp only
  rw [hkm]
  have Hp := Lib.hid (And.intro hp hfin); clear hp hfin hkm hf
  have Hri := Lib.hid hri; clear hri
  go_enter Tryz.func23, Tryz.ntmps23
  go_wp2_with fail
  rw [← hWA]
  refine hcode.mono ?_
  rintro e' w2 ⟨rfl, hb2⟩
  have hz2 := hb2.size
  have hx2 : ∀ o, w2.cell? ⟨W.heap.size, o, none⟩ = (#[.int .i64 m.c, .int .i64 m.d, .int .i64 m.s, .int .i64 m.e, .int .i64 m.l, .slice a t.length c] : Array Value)[o]? := fun o => cell_of_block (heap_below HA.out.1 hb2 (by omega)) o
  have H2 := Lib.hid (And.intro (HA.out.2.2.1.trans (hb2.mono (by omega))) (And.intro (heap_below HA.out.2.1 hb2 (by omega)) hb2)); clear hb2
  have hris := fun w0 : World => fun h0 : V1 (fun _ => True) w0 (.slice ra rows.length rc) rows => IsRising_any _ rows (cuts.length : Int) w0 h0
  have hcRz : ∀ o, w2.cell? ⟨W.heap.size + 1, o, none⟩ = (#[.int .i64 0, .int .i64 0, .int .i64 0, .int .i64 0, .int .i64 0, .slice none 0 0] : Array Value)[o]? := fun o => by rw [cell_of_block H2.out.2.1]
  have hfRz := fun o => frozen_of_block H2.out.2.1 o
  obtain ⟨wz, hwz⟩ : ∃ wz, wz = put6 w2 (W.heap.size + 1) (.int .i64 0) (.int .i64 0) (.int .i64 0) (.int .i64 0) (.int .i64 0) (.slice none 0 0) := ⟨_, rfl⟩
  have hd3 : wz.heap[W.heap.size + 1]? = some (.cells #[.int .i64 0, .int .i64 0, .int .i64 0, .int .i64 0, .int .i64 0, .slice none 0 0] 33 (0, 0)) := by
   rw [hwz]; unfold put6
   rw [heap_setCell_self (heap_setCell_self (heap_setCell_self (heap_setCell_self (heap_setCell_self (heap_setCell_self H2.out.2.1 _) _) _) _) _) _]
   simp
  have hd2 : Below W.heap.size W wz := by
   rw [hwz]; unfold put6
   exact ((((((H2.out.1.setCell (by show W.heap.size ≤ W.heap.size + 1; omega) _).setCell (by show W.heap.size ≤ W.heap.size + 1; omega) _).setCell (by show W.heap.size ≤ W.heap.size + 1; omega) _).setCell (by show W.heap.size ≤ W.heap.size + 1; omega) _).setCell (by show W.heap.size ≤ W.heap.size + 1; omega) _).setCell (by show W.heap.size ≤ W.heap.size + 1; omega) _)
  have hz0 : wz.cell? ⟨W.heap.size + 1, 0, none⟩ = some (.int .i64 0) := by rw [cell_of_block hd3]; rfl
  have hz1 : wz.cell? ⟨W.heap.size + 1, 1, none⟩ = some (.int .i64 0) := by rw [cell_of_block hd3]; rfl
  have hz2 : wz.cell? ⟨W.heap.size + 1, 2, none⟩ = some (.int .i64 0) := by rw [cell_of_block hd3]; rfl
  have hz3 : wz.cell? ⟨W.heap.size + 1, 3, none⟩ = some (.int .i64 0) := by rw [cell_of_block hd3]; rfl
  have hz4 : wz.cell? ⟨W.heap.size + 1, 4, none⟩ = some (.int .i64 0) := by rw [cell_of_block hd3]; rfl
  have hz5 : wz.cell? ⟨W.heap.size + 1, 5, none⟩ = some (.slice none 0 0) := by rw [cell_of_block hd3]; rfl
  have hlz := lt_of_heap hd3
  have HZ := Lib.hid (And.intro hd2 (And.intro hlz (And.intro hwz (And.intro hz0 (And.intro hz1 (And.intro hz2 (And.intro hz3 (And.intro hz4 hz5)))))))); clear hd2 hlz hd3 hwz hz0 hz1 hz2 hz3 hz4 hz5
  go_wp2_with (go_at_call 80; refine (IsRising_any _ rows (cuts.length : Int) w2 (hR1.below H2.out.2.2)).mono ?_; rintro e' w' ⟨rfl, rfl⟩; rw [Hri.out])
  have hwz := HZ.out.2.2.1
  unfold put6 at hwz
  rw [← hwz]
  clear hwz
  obtain ⟨hd2, hlz, hwzz, hz0, hz1, hz2, hz3, hz4, hz5⟩ := HZ.out
  clear hwzz
  exact bodyPost_ret (v := .tuple #[.agg #[.int .i64 0, .int .i64 0, .int .i64 0, .int .i64 0, .int .i64 0, .slice none 0 0], .slice none 0 0, .int .i64 2]) (by simp [results, Tryz.results23, go_sem, hz0, hz1, hz2, hz3, hz4, hz5]) rfl ⟨_, _, rfl, KOut.nil (by omega), hd2⟩
 have hrl := rise_len hri
 have hrlt := fun j (hj : j < rows.length) => rise_get hri hj
 have hrows := hf.rows
 have hfew := hf.few
 have hdoors := hf.doors
 obtain ⟨iC, hiC, hzC0, hzC1, hzC2⟩ := info_parts inf_ints
 have Hri := Lib.hid (And.intro hri (And.intro hrlt hp)); clear hri hrlt hp hf
 obtain ⟨A5, hA5⟩ : ∃ A, keepAns m t cuts rows = A := ⟨_, rfl⟩
 rw [hA5]
 have HA5 := Lib.hid hA5; clear hA5
 go_enter Tryz.func23, Tryz.ntmps23
 go_wp2_with fail
 rw [← hWA]
 refine hcode.mono ?_
 rintro e' w2 ⟨rfl, hb2⟩
 have hz2 := hb2.size
 have hx2 : ∀ o, w2.cell? ⟨W.heap.size, o, none⟩ = (#[.int .i64 m.c, .int .i64 m.d, .int .i64 m.s, .int .i64 m.e, .int .i64 m.l, .slice a t.length c] : Array Value)[o]? := fun o => cell_of_block (heap_below HA.out.1 hb2 (by omega)) o
 have H2 := Lib.hid (And.intro (HA.out.2.2.1.trans (hb2.mono (by omega))) (And.intro (heap_below HA.out.2.1 hb2 (by omega)) hb2)); clear hb2
 have hbL : Below w2.heap.size w2 (w2.alloc (.cells #[] 44)) := (Below.refl _ _).alloc (Nat.le_refl _) _
 obtain ⟨w4, hw4⟩ : ∃ w4, w4 = (w2.alloc (.cells #[] 44)).alloc (.cells #[.int .i64 m.c, .int .i64 m.d, .int .i64 m.s, .int .i64 m.e, .int .i64 m.l, .slice none 0 0] 33) := ⟨_, rfl⟩
 have hb4 : Below w2.heap.size w2 w4 := by rw [hw4]; exact hbL.alloc (by simp) _
 have hown4 : w4.ownsRow w2.heap.size 44 1 (.slice (some ⟨w2.heap.size, 0, none⟩) 0 0) 0 [] := by rw [hw4]; exact (own_lit0 w2 w2.heap.size 44 1 (Nat.le_refl _)).alloc _
 have hK4 : w4.heap[w2.heap.size + 1]? = some (.cells #[.int .i64 m.c, .int .i64 m.d, .int .i64 m.s, .int .i64 m.e, .int .i64 m.l, .slice none 0 0] 33 (0, 0)) := by
  have h0 := heap_alloc_self (w2.alloc (.cells #[] 44)) (.cells #[.int .i64 m.c, .int .i64 m.d, .int .i64 m.s, .int .i64 m.e, .int .i64 m.l, .slice none 0 0] 33)
  rw [hw4]; simpa using h0
 have hz4 := lt_of_heap hK4
 have hT4 : Two w2.heap.size (w2.heap.size + 1) w4 (.slice none 0 0) (.slice (some ⟨w2.heap.size, 0, none⟩) 0 0) [] [] [] [] (fun _ => 0) (fun _ => 0) :=
  ⟨⟨rfl, .inl ⟨rfl, rfl⟩⟩, hown4, fun k hk => by simp at hk, fun k hk => by simp at hk, fun k hk => by simp at hk, fun k hk => by simp at hk, fun j k hj => by simp at hj, fun j k hj => by simp at hj, fun j k hj => by simp at hj, fun g hg => (by cases hg), ⟨by simp [Value.ownBlock], by simp [Value.ownBlock]⟩, ⟨by omega, hz4⟩⟩
 have H4 := Lib.hid (And.intro hw4 (And.intro hb4 (And.intro hK4 hT4))); clear hw4 hb4 hK4 hT4 hown4 hbL
 go_wp2_with (go_at_call 80; refine (IsRising_any _ rows (cuts.length : Int) w2 (hR1.below H2.out.2.2)).mono ?_; rintro e' w' ⟨rfl, rfl⟩; rw [Hri.out.1])
 rw [← H4.out.1]
 go_loopw [11, 13, 14, 15, 16, 36] (fun kv _ _ _ _ iv wr => ∃ (j : Nat) (v1 : Value) (vs1 vs2 : List Value) (b1 b2 : Nat → Nat), j ≤ rows.length ∧ iv = .int .i64 (j : Int) ∧ wr.heap[w2.heap.size + 1]? = some (.cells #[.int .i64 m.c, .int .i64 m.d, .int .i64 m.s, .int .i64 m.e, .int .i64 m.l, v1] 33 (0, 0)) ∧ Two w2.heap.size (w2.heap.size + 1) wr v1 kv (keepTo t rows j) (kcutTo cuts rows j) vs1 vs2 b1 b2 ∧ Below w2.heap.size w2 wr) (fun _ _ _ _ _ iv _ => rows.length - (intOf iv).toNat)
 case atStart => exact ⟨0, _, _, _, _, _, Nat.zero_le _, rfl, H4.out.2.2.1, H4.out.2.2.2, H4.out.2.1⟩
 case round =>
  obtain ⟨j, v1, vs1, vs2, b1, b2, hj, rfl, hK, hT, hbr⟩ := hrel
  obtain ⟨wo, rfl⟩ : ∃ y, y = wr := ⟨_, rfl⟩
  obtain ⟨v1a, v1c, rfl, _, _⟩ := own_form hT.own1
  obtain ⟨v2a, v2c, rfl, _, _⟩ := own_form hT.own2
  have hzr := hbr.size
  have hxr : ∀ o, wo.cell? ⟨W.heap.size, o, none⟩ = (#[.int .i64 m.c, .int .i64 m.d, .int .i64 m.s, .int .i64 m.e, .int .i64 m.l, .slice a t.length c] : Array Value)[o]? := fun o => by rw [(bcell hbr).1 _ _ (by omega), hx2]
  have HT := Lib.hid (And.intro hK (And.intro hT hbr)); clear hK hT hbr
  by_cases hjj : j < rows.length
  ·obtain ⟨hr0, hr1⟩ := Hri.out.2.1 j hjj
   obtain ⟨r, hre⟩ : ∃ r : Nat, geti rows j = (r : Int) := ⟨(geti rows j).toNat, by omega⟩
   have hrc : r < cuts.length := by omega
   have hrt : r < t.length := by omega
   have hcol := hHf.out.cols r hrt
   obtain ⟨D, hD⟩ : ∃ D, (getl t 0).length = D := ⟨_, rfl⟩
   rw [hD] at hcol hdoors
   have hbo := H2.out.2.2.trans (HT.out.2.2.mono hz2)
   obtain ⟨br, offr, rfl, _, hcr⟩ := (hR1.below hbo).cell hjj
   rw [hre] at hcr
   obtain ⟨bt, offt, at_, ct, rfl, _, hct, hrowt⟩ := (hV1.below hbo).cell hrt
   rw [hcol] at hct
   have hrn : ¬ rows.length ≤ j := by omega
   have hrtn : ¬ t.length ≤ r := by omega
   have hown0 := own_lit0 wo wo.heap.size 2 1 (Nat.le_refl _)
   obtain ⟨wB, hwB⟩ : ∃ y, y = wo.alloc (.cells #[] 2) := ⟨_, rfl⟩
   have hbB : Below wo.heap.size wo wB := by rw [hwB]; exact (Below.refl _ _).alloc (Nat.le_refl _) _
   rw [← hwB] at hown0
   have hxB : ∀ o, (wo.alloc (.cells #[] 2)).cell? ⟨W.heap.size, o, none⟩ = (#[.int .i64 m.c, .int .i64 m.d, .int .i64 m.s, .int .i64 m.e, .int .i64 m.l, .slice (some ⟨bt, offt, none⟩) t.length c] : Array Value)[o]? := fun o => by rw [← hwB, (bcell hbB).1 _ _ (by omega), hxr]
   have hctB : (wo.alloc (.cells #[] 2)).cell? ⟨bt, offt + r, none⟩ = some (.slice at_ D ct) := by rw [← hwB]; exact cell_keep hct (hbB.block _ (lt_of_cell hct))
   have HB := Lib.hid (And.intro hown0 (And.intro hbB hwB)); clear hown0 hbB hwB
   have Hre := Lib.hid (And.intro hre hD); clear hre hD
   have Hrow := Lib.hid hrowt; clear hrowt hr0 hr1
   go_wp2_with fail
   rw [← HB.out.2.2]
   clear hcr hct hxB hctB
   go_loopw [14, 15, 16, 47] (fun ev _ _ kv wn => ∃ k : Nat, k ≤ D ∧ kv = .int .i64 (k : Int) ∧ wn.ownsRow wo.heap.size 2 1 ev (entTo t rows r k).length ((entTo t rows r k).map (Value.int .i64)) ∧ Below wo.heap.size wo wn) (fun _ _ _ kv _ => D - (intOf kv).toNat)
   case atStart => exact ⟨0, Nat.zero_le _, rfl, HB.out.1, HB.out.2.1⟩
   case round =>
    obtain ⟨k, hk, rfl, hown, hbn⟩ := hrel
    obtain ⟨wn, rfl⟩ : ∃ y, y = wr := ⟨_, rfl⟩
    have hzn := hbn.size
    have hel := entTo_len t rows r k
    obtain ⟨ea, ec, rfl, _, _⟩ := own_form hown
    by_cases hkk : k < D
    ·have hkt : k < (getl t r).length := by omega
     obtain ⟨b3, off3, rfl, _, hc3⟩ := (Hrow.out.below hbn).cell hkt
     have hkn : ¬ D ≤ k := by omega
     obtain ⟨y, hy⟩ : ∃ y, geti (getl t r) k = y := ⟨_, rfl⟩
     rw [hy] at hc3
     obtain ⟨wd, hwd⟩ : ∃ q, q = wn.alloc (.cells #[.int .i64 (k : Int)] 3) := ⟨_, rfl⟩
     have hbd : Below wn.heap.size wn wd := by rw [hwd]; exact (Below.refl _ _).alloc (Nat.le_refl _) _
     have hdc : wd.cell? ⟨wn.heap.size, 0, none⟩ = some (.int .i64 (k : Int)) := by rw [hwd, cell_of_block (heap_alloc_self _ _)]; rfl
     have hbod : Below wo.heap.size wo wd := hbn.trans (hbd.mono hzn)
     have hxd : ∀ o, wd.cell? ⟨W.heap.size, o, none⟩ = (#[.int .i64 m.c, .int .i64 m.d, .int .i64 m.s, .int .i64 m.e, .int .i64 m.l, .slice (some ⟨bt, offt, none⟩) t.length c] : Array Value)[o]? := fun o => by rw [(bcell hbod).1 _ _ (by omega), hxr]
     have hVd := (hV1.below hbo).below hbod
     have hpr : PredN 82 #[.pointer (some ⟨W.heap.size, 0, none⟩), .pointer (some ⟨wn.heap.size, 0, none⟩)] wd (fun x => decide (geti (getl t x.toNat) k = 1)) rows := fun wx x hbx hx => by
      obtain ⟨jj, hjj2, e⟩ := index_of hx
      obtain ⟨g0, g1⟩ := Hri.out.2.1 jj hjj2
      rw [e] at g0 g1
      obtain ⟨rx, rfl⟩ : ∃ rx : Nat, x = (rx : Int) := ⟨x.toNat, by omega⟩
      have hrxt : rx < t.length := by omega
      exact kept1_any m _ t rx k W.heap.size wn.heap.size wx (hVd.below hbx) hrxt (by rw [hHf.out.cols rx hrxt, Hre.out.2]; exact hkk) (fun o => by rw [(bcell hbx).1 _ _ (by have := hbod.size; omega), hxd]) (cell_keep hdc (hbx.block _ (lt_of_cell hdc)))
     have hcon := containsFuncN_any _ rows _ _ _ wd (((hR1.below hbo).below hbod)) enters_keep hpr
     rw [← used_any] at hcon
     have Hd := Lib.hid (And.intro hcon (And.intro hbd (And.intro hwd hown))); clear hcon hbd hwd hown hpr hVd hdc hxd
     cases hu : usedD t rows k
     ·have hst : entTo t rows r (k + 1) = entTo t rows r k := by show (if usedD t rows k = true then _ else _) = _; rw [if_neg (by rw [hu]; decide)]
      have Hst := Lib.hid (And.intro hst hu); clear hst hu
      go_wp2_with fail
      rw [← Hd.out.2.2.1]
      refine Hd.out.1.mono ?_
      rintro e' w5 ⟨rfl, hb5⟩
      rw [Hst.out.2]
      have hb05 := Hd.out.2.1.trans (hb5.mono Hd.out.2.1.size)
      have hown5 := own_chg Hd.out.2.2.2 (Chg.of_below (F := fun _ => False) hb05) (fun _ _ h => h)
      clear hc3 hb5 hbod
      go_wp2_with fail
      go_roundw
      case rel => exact ⟨k + 1, by omega, by go_num, by rw [Hst.out.1]; exact hown5, hbn.trans (hb05.mono hzn)⟩
      case measure => simp [intOf]; omega
     ·have hst : entTo t rows r (k + 1) = entTo t rows r k ++ [y] := by rw [← hy]; show (if usedD t rows k = true then _ else _) = _; rw [if_pos hu]
      have Hst := Lib.hid (And.intro hst hu); clear hst hu
      go_wp2_with fail
      rw [← Hd.out.2.2.1]
      refine Hd.out.1.mono ?_
      rintro e' w5 ⟨rfl, hb5⟩
      rw [Hst.out.2]
      have hb05 := Hd.out.2.1.trans (hb5.mono Hd.out.2.1.size)
      have hz5 := hb05.size
      have hown5 := own_chg Hd.out.2.2.2 (Chg.of_below (F := fun _ => False) hb05) (fun _ _ h => h)
      clear hc3 hb5 hbod
      go_wp2_with (at_builtin; refine wp_app1 _ rfl _ _ 44 rfl wo.heap.size 2 (.int .i64 0) 8 Tryz.underlying44 inf_int rfl _ _ _ rfl hown5 (.int .i64 y) _ rfl rfl (by omega) (by omega) (by omega) ?_; intro v1 w1 hown1 hgrow1 hblk1 hB1)
      go_roundw
      case rel => exact ⟨k + 1, by omega, by go_num, by rw [Hst.out.1, List.map_append, List.length_append]; exact hown1, (hbn.trans (hb05.mono hzn)).trans hB1⟩
      case measure => simp [intOf]; omega
    ·obtain rfl : D = k := by omega
     have hxe := own_F1 hown
     obtain ⟨be, hxe, hbe⟩ := hxe
     have hTn := HT.out.2.1.below hbn
     have HE := Lib.hid (And.intro hxe (fun hn => HT.out.2.1.fresh (hbe hn)))
     have HTw := Lib.hid hTn
     have hKn := (hbn.block _ (lt_of_heap HT.out.1)).trans HT.out.1
     have hKlt := lt_of_heap hKn
     have hKnF : ¬ ((Value.slice v1a (keepTo t rows j).length v1c).ownBlock = some (w2.heap.size + 1) ∨ (Value.slice v2a (kcutTo cuts rows j).length v2c).ownBlock = some (w2.heap.size + 1)) := fun h => h.elim hTn.exK.1 hTn.exK.2
     have hcK5 : wn.cell? ⟨w2.heap.size + 1, 5, none⟩ = some (.slice v1a (keepTo t rows j).length v1c) := by rw [cell_of_block hKn]; rfl
     have hbw2 := HT.out.2.2.trans (hbn.mono hzr)
     have HbT := Lib.hid hbw2
     have hbon := H2.out.2.2.trans (hbw2.mono hz2)
     have hCn : V2 (fun b => b < w2.heap.size) wn (.slice a' cuts.length c') cuts := (hC1.below hbon).mono (fun b hb _ => by have hb : b < WA.heap.size := hb; show b < w2.heap.size; omega) (fun _ _ _ => rfl)
     obtain ⟨bc0, offc, ca, cc, rfl, hbc0, hcc, hrowc⟩ := hCn.cell hrc
     have hbc0 : bc0 < w2.heap.size := hbc0
     have hcl := hrowc.len
     have HCr := Lib.hid hrowc
     have hcl1 : (getl cuts r).length ≤ 1048576 := by have := hHf.out.lens r hrc; have := Mk.ok_iff.1 hHf.out.ok; omega
     have hkl : (keepTo t rows j).length ≤ 10 := by rw [keepTo_len]; omega
     have hkc : (kcutTo cuts rows j).length ≤ 10 := by rw [kcutTo_len]; omega
     have hrcn : ¬ cuts.length ≤ r := by omega
     have hst1 : keepTo t rows (j + 1) = keepTo t rows j ++ [entTo t rows r D] := by show keepTo t rows j ++ [entTo t rows (geti rows j).toNat (getl t 0).length] = _; rw [Hre.out.1, Hre.out.2]; rfl
     have hst2 : kcutTo cuts rows (j + 1) = kcutTo cuts rows j ++ [getl cuts r] := by show kcutTo cuts rows j ++ [getl cuts (geti rows j).toNat] = _; rw [Hre.out.1]; rfl
     have Hst := Lib.hid (And.intro hst1 hst2); clear hst1 hst2
     have hSk2 : ∀ w' : World, Below w2.heap.size w2 w' → w'.cell? ⟨bc0, offc + r, none⟩ = some (.slice ca (getl cuts r).length cc) := fun w' hb => by
      have h1 := hb.block bc0 hbc0
      have h2 := hbw2.block bc0 hbc0
      exact cell_keep hcc (h1.trans h2.symm)
     have hSk : ∀ w' : World, Chg (fun b => (Value.slice v1a (keepTo t rows j).length v1c).ownBlock = some b ∨ (Value.slice v2a (kcutTo cuts rows j).length v2c).ownBlock = some b) wn w' → w'.cell? ⟨bc0, offc + r, none⟩ = some (.slice ca (getl cuts r).length cc) := fun w' hch => cell_keep hcc (hch.block bc0 (lt_of_cell hcc) (fun hF => by have := hF.elim (fun e => (hTn.own1.lt bc0 e).1) (fun e => (hTn.own2.lt bc0 e).1); omega))
     have hbD : Below wn.heap.size wn wn.drew := (Below.refl _ _).drew
     have hK0 := (KR.start hTn (getl cuts r)).below hbD
     clear hown hTn hxe hbe hcl hkk hrowc
     go_wp2_with fail
     refine wp_region_noPanic ?_
     refine wp_region_held_drew (S := fun w' => w'.cell? ⟨bc0, offc + r, none⟩ = some (.slice ca (getl cuts r).length cc)) (by kernel_rfl) (hSk wn.drew hK0.chg) (fun hHeld => ?_)
     (refine wpAnyH_take (i := 0) (v := .pointer (some ⟨w2.heap.size + 1, 5, none⟩)) rfl (by kernel_rfl) (by kernel_rfl) (by kernel_rfl) (fun _ _ _ h => h) (Or.inl ⟨by kernel_rfl, fun w hSw => by (try dsimp only at hSw); go_split_ands; go_simp⟩) (by assumption) ?_; simp only [Act.put, List.setIfInBounds_toArray, List.set_cons_zero, List.set_cons_succ])
     (refine wpAnyH_take (i := 2) (v := .slice ea (entTo t rows r D).length ec) rfl (by kernel_rfl) (by kernel_rfl) (by kernel_rfl) (fun _ _ _ h => h) (Or.inl ⟨by kernel_rfl, fun w hSw => by (try dsimp only at hSw); go_split_ands; go_simp⟩) (by assumption) ?_; simp only [Act.put, List.setIfInBounds_toArray, List.set_cons_zero, List.set_cons_succ])
     (refine wpAnyH_take (i := 5) (v := .slice v2a (kcutTo cuts rows j).length v2c) rfl (by kernel_rfl) (by kernel_rfl) (by kernel_rfl) (fun _ _ _ h => h) (Or.inl ⟨by kernel_rfl, fun w hSw => by (try dsimp only at hSw); go_split_ands; go_simp⟩) (by assumption) ?_; simp only [Act.put, List.setIfInBounds_toArray, List.set_cons_zero, List.set_cons_succ])
     (refine wpAnyH_take (i := 6) (v := .slice (some ⟨bc0, offc, none⟩) cuts.length c') rfl (by kernel_rfl) (by kernel_rfl) (by kernel_rfl) (fun _ _ _ h => h) (Or.inl ⟨by kernel_rfl, fun w hSw => by (try dsimp only at hSw); go_split_ands; go_simp⟩) (by assumption) ?_; simp only [Act.put, List.setIfInBounds_toArray, List.set_cons_zero, List.set_cons_succ])
     (refine wpAnyH_take (i := 7) (v := .int .i64 (r : Int)) rfl (by kernel_rfl) (by kernel_rfl) (by kernel_rfl) (fun _ _ _ h => h) (Or.inl ⟨by kernel_rfl, fun w hSw => by (try dsimp only at hSw); go_split_ands; go_simp⟩) (by assumption) ?_; simp only [Act.put, List.setIfInBounds_toArray, List.set_cons_zero, List.set_cons_succ])
     (refine wpAnyH_take (i := 8) (v := .pointer (some ⟨bc0, offc + r, none⟩)) rfl (by kernel_rfl) (by kernel_rfl) (by kernel_rfl) (fun _ _ _ h => h) (Or.inl ⟨by kernel_rfl, fun w hSw => by (try dsimp only at hSw); go_split_ands; go_simp⟩) (by assumption) ?_; simp only [Act.put, List.setIfInBounds_toArray, List.set_cons_zero, List.set_cons_succ])
     (refine wpAnyH_take (i := 9) (v := .slice ca (getl cuts r).length cc) rfl (by kernel_rfl) (by kernel_rfl) (by kernel_rfl) (fun _ _ _ h => h) (Or.inl ⟨by kernel_rfl, fun w hSw => by (try dsimp only at hSw); go_split_ands; go_simp⟩) (by assumption) ?_; simp only [Act.put, List.setIfInBounds_toArray, List.set_cons_zero, List.set_cons_succ])
     obtain ⟨wk0, hw0⟩ : ∃ q, q = wn.drew := ⟨_, rfl⟩
     rw [← hw0] at hK0 ⊢
     have HK := Lib.hid hK0; clear hK0 hw0 hbD
     refine wpAnyH_ready (rs := [1, 3]) (by kernel_rfl) (by simp) (AllReadyH.cons rfl (fun K hK => ?_) (AllReadyH.cons rfl (fun K hK => ?_) AllReadyH.nil))
     ·have hck : wk0.cell? ⟨w2.heap.size + 1, 5, none⟩ = some (.slice v1a (keepTo t rows j).length v1c) := by rw [HK.out.chg.cell hKlt hKnF]; exact hcK5
      go_simp
      have hSx := hSk wk0 HK.out.chg
      clear hck
      (refine hK.out _ _ hSx (fun hHeld => ?_); clear hK K; (try simp only [Act.put, List.setIfInBounds_toArray, List.set_cons_zero, List.set_cons_succ]))
      clear hSx
      refine wpAnyH_ready (rs := [3]) (by kernel_rfl) (by simp) (AllReadyH.cons rfl (fun K hK => ?_) AllReadyH.nil)
      go_simp
      obtain ⟨wk1, hwwk1⟩ : ∃ x, x = wk0.alloc (.cells #[.slice ea (entTo t rows r D).length ec] 44) := ⟨_, rfl⟩
      have hbx : Below wk0.heap.size wk0 wk1 := by rw [hwwk1]; exact (Below.refl _ _).alloc (Nat.le_refl _) _
      have hLA : wk1.heap[wk0.heap.size]? = some (.cells #[.slice ea (entTo t rows r D).length ec] 44 (0, 0)) := by rw [hwwk1]; exact heap_alloc_self _ _
      have hzX := HK.out.chg.size
      have HKn := Lib.hid (HK.out.below hbx); clear HK; have HK := HKn; clear HKn
      rw [← hwwk1]
      have hSx := hSk wk1 HK.out.chg
      clear hwwk1 hbx
      (refine hK.out _ _ hSx (fun hHeld => ?_); clear hK K; (try simp only [Act.put, List.setIfInBounds_toArray, List.set_cons_zero, List.set_cons_succ]))
      clear hSx
      refine wpAnyH_ready (rs := [4]) (by kernel_rfl) (by simp) (AllReadyH.cons rfl (fun K hK => ?_) AllReadyH.nil)
      have hzX := HK.out.chg.size
      refine step_append_lies _ (by rfl) _ _ _ (by rfl) w2.heap.size 44 iC _ 1 24 Tryz.underlying24 hiC hzC0 hzC1 hzC2 rfl (by omega) _ (keepTo t rows j).length _ (by rfl) HK.out.own1 ⟨_, 0, none⟩ 1 1 [.slice ea (entTo t rows r D).length ec] (by rfl) (by rfl) (World.news_of_block hLA) (by simp [Value.oneCell']) (by omega) (by unfold maxLen; omega) (by omega) (by omega) _ rfl ?_
      intro gg4 cap4 wk2 hown4 hgrow4 hat4 hlt4
      have HKn := Lib.hid (HK.out.app1 rfl hown4 hgrow4 (blk_or rfl hat4)); clear HK; have HK := HKn; clear HKn hown4 hgrow4 hat4 hlt4 hLA
      have hSx := hSk wk2 HK.out.chg
      (refine hK.out _ _ hSx (fun hHeld => ?_); clear hK K; (try simp only [Act.put, List.setIfInBounds_toArray, List.set_cons_zero, List.set_cons_succ]))
      clear hSx
      (refine wpAnyH_take (i := 13) (v := .pointer (some ⟨w2.heap.size + 1, 5, none⟩)) rfl (by kernel_rfl) (by kernel_rfl) (by kernel_rfl) (fun _ _ _ h => h) (Or.inl ⟨by kernel_rfl, fun w hSw => by (try dsimp only at hSw); go_split_ands; go_simp⟩) (by assumption) ?_; simp only [Act.put, List.setIfInBounds_toArray, List.set_cons_zero, List.set_cons_succ])
      refine wpAnyH_ready (rs := [10]) (by kernel_rfl) (by simp) (AllReadyH.cons rfl (fun K hK => ?_) AllReadyH.nil)
      go_simp
      go_at_call 62
      refine (slClone_any _ (getl cuts r) wk2 (HCr.out.mono (S' := fun _ => True) (fun _ _ _ => trivial) (HK.out.chg.keep fun b hb hF => by have hb : b < w2.heap.size := hb; have := hF.elim (fun e => (HTw.out.own1.lt b e).1) (fun e => (HTw.out.own2.lt b e).1); omega)) hcl1).mono ?_
      rintro e' wk3 ⟨cv3, rfl, ⟨bc, hx3, hbc3⟩, hbx⟩
      obtain ⟨ca3, cc3, rfl, _⟩ := id hx3
      dsimp only
      have HKn := Lib.hid (HK.out.clone hbx hx3 hbc3); clear HK; have HK := HKn; clear HKn hx3 hbc3
      have hSx := hSk wk3 HK.out.chg
      clear hbx
      (refine hK.out _ _ hSx (fun hHeld => ?_); clear hK K; (try simp only [Act.put, List.setIfInBounds_toArray, List.set_cons_zero, List.set_cons_succ]))
      clear hSx
      refine wpAnyH_ready (rs := [11]) (by kernel_rfl) (by simp) (AllReadyH.cons rfl (fun K hK => ?_) AllReadyH.nil)
      go_simp
      obtain ⟨wk4, hwwk4⟩ : ∃ x, x = wk3.alloc (.cells #[.slice ca3 (getl cuts r).length cc3] 44) := ⟨_, rfl⟩
      have hbx : Below wk3.heap.size wk3 wk4 := by rw [hwwk4]; exact (Below.refl _ _).alloc (Nat.le_refl _) _
      have hLC : wk4.heap[wk3.heap.size]? = some (.cells #[.slice ca3 (getl cuts r).length cc3] 44 (0, 0)) := by rw [hwwk4]; exact heap_alloc_self _ _
      have hzX := HK.out.chg.size
      have HKn := Lib.hid (HK.out.below hbx); clear HK; have HK := HKn; clear HKn
      rw [← hwwk4]
      have hSx := hSk wk4 HK.out.chg
      clear hwwk4 hbx
      (refine hK.out _ _ hSx (fun hHeld => ?_); clear hK K; (try simp only [Act.put, List.setIfInBounds_toArray, List.set_cons_zero, List.set_cons_succ]))
      clear hSx
      refine wpAnyH_ready (rs := [12]) (by kernel_rfl) (by simp) (AllReadyH.cons rfl (fun K hK => ?_) AllReadyH.nil)
      have hzX := HK.out.chg.size
      refine step_append_lies _ (by rfl) _ _ _ (by rfl) w2.heap.size 44 iC _ 1 24 Tryz.underlying24 hiC hzC0 hzC1 hzC2 rfl (by omega) _ (kcutTo cuts rows j).length _ (by rfl) HK.out.own2 ⟨_, 0, none⟩ 1 1 [.slice ca3 (getl cuts r).length cc3] (by rfl) (by rfl) (World.news_of_block hLC) (by simp [Value.oneCell']) (by omega) (by unfold maxLen; omega) (by omega) (by omega) _ rfl ?_
      intro gg12 cap12 wk5 hown4 hgrow4 hat4 hlt4
      have HKn := Lib.hid (HK.out.app2 rfl hown4 hgrow4 (blk_or rfl hat4)); clear HK; have HK := HKn; clear HKn hown4 hgrow4 hat4 hlt4 hLC
      have hSx := hSk wk5 HK.out.chg
      (refine hK.out _ _ hSx (fun hHeld => ?_); clear hK K; (try simp only [Act.put, List.setIfInBounds_toArray, List.set_cons_zero, List.set_cons_succ]))
      clear hSx
      have hKB9 := HK.out.chg.heap hKn hKnF
      have hb9 := HK.out.chg.to_below (B := w2.heap.size) (fun b hb => hb.elim (fun e => (HTw.out.own1.lt b e).1) (fun e => (HTw.out.own2.lt b e).1)) (by omega)
      have hT9 := Lib.hid (KR.done HTw.out HK.out HE.out.1 HE.out.2); clear HK
      have hcK9 : ∀ o, wk5.cell? ⟨w2.heap.size + 1, o, none⟩ = (#[.int .i64 m.c, .int .i64 m.d, .int .i64 m.s, .int .i64 m.e, .int .i64 m.l, .slice v1a (keepTo t rows j).length v1c] : Array Value)[o]? := fun o => by rw [cell_of_block hKB9]
      have hfK9 := fun o => frozen_of_block hKB9 o
      have hK10 := heap_setCell_self (off := 5) hKB9 (.slice (some ⟨gg4, 0, none⟩) ((keepTo t rows j).length + 1) cap4)
      obtain ⟨wz, hwz⟩ : ∃ q, q = wk5.setCell ⟨w2.heap.size + 1, 5, none⟩ (.slice (some ⟨gg4, 0, none⟩) ((keepTo t rows j).length + 1) cap4) := ⟨_, rfl⟩
      rw [← hwz] at hK10
      have hch9 : Chg (fun b => b = w2.heap.size + 1) wk5 wz := by rw [hwz]; exact (Chg.refl (fun b => b = w2.heap.size + 1) _).setCell (p := ⟨w2.heap.size + 1, 5, none⟩) (.inl rfl) _
      have hT10 := Lib.hid (hT9.out.chg hch9); clear hT9
      have hbz9 : Below w2.heap.size w2 wz := (HbT.out.trans (hb9.mono (Nat.le_refl _))).trans (hch9.to_below (fun b hb => by omega) (by have := (HbT.out.trans (hb9.mono (Nat.le_refl _))).size; omega))
      have HZ := Lib.hid (And.intro hK10 (And.intro hbz9 hwz)); clear hK10 hbz9 hwz hch9 hb9
      (refine wpAnyH_ready (rs := [14]) (by kernel_rfl) (by simp) (AllReadyH.cons rfl (fun K hK => ?_) AllReadyH.nil); go_simp)
      rw [← HZ.out.2.2]
      have hSz := hSk2 wz HZ.out.2.1
      (refine hK.out _ _ hSz (fun hHeld => ?_); clear hK K; (try simp only [Act.put, List.setIfInBounds_toArray, List.set_cons_zero, List.set_cons_succ]))
      (refine wpAnyH_ready (rs := [15]) (by kernel_rfl) (by simp) (AllReadyH.cons rfl (fun K hK => ?_) AllReadyH.nil); go_simp)
      (refine hK.out _ _ hSz (fun hHeld => ?_); clear hK K; (try simp only [Act.put, List.setIfInBounds_toArray, List.set_cons_zero, List.set_cons_succ]))
      refine wpAnyH_done (by kernel_rfl) (NoPanic.normal ?_) _
      clear hHeld hSz hcK9 hfK9 hKB9
      go_wp2_with fail
      go_roundw
      case rel => exact ⟨j + 1, _, _, _, _, _, by omega, by go_num, by simpa using HZ.out.1, by have h9 := hT10.out; rw [Hst.out.1, Hst.out.2]; simpa using h9, HZ.out.2.1⟩
      case measure => simp [intOf]; omega
     ·go_simp
      obtain ⟨wk1, hwwk1⟩ : ∃ x, x = wk0.alloc (.cells #[.slice ea (entTo t rows r D).length ec] 44) := ⟨_, rfl⟩
      have hbx : Below wk0.heap.size wk0 wk1 := by rw [hwwk1]; exact (Below.refl _ _).alloc (Nat.le_refl _) _
      have hLA : wk1.heap[wk0.heap.size]? = some (.cells #[.slice ea (entTo t rows r D).length ec] 44 (0, 0)) := by rw [hwwk1]; exact heap_alloc_self _ _
      have hzX := HK.out.chg.size
      have HKn := Lib.hid (HK.out.below hbx); clear HK; have HK := HKn; clear HKn
      rw [← hwwk1]
      have hSx := hSk wk1 HK.out.chg
      clear hwwk1 hbx
      (refine hK.out _ _ hSx (fun hHeld => ?_); clear hK K; (try simp only [Act.put, List.setIfInBounds_toArray, List.set_cons_zero, List.set_cons_succ]))
      clear hSx
      refine wpAnyH_ready (rs := [1]) (by kernel_rfl) (by simp) (AllReadyH.cons rfl (fun K hK => ?_) AllReadyH.nil)
      have hck : wk1.cell? ⟨w2.heap.size + 1, 5, none⟩ = some (.slice v1a (keepTo t rows j).length v1c) := by rw [HK.out.chg.cell hKlt hKnF]; exact hcK5
      go_simp
      have hSx := hSk wk1 HK.out.chg
      clear hck
      (refine hK.out _ _ hSx (fun hHeld => ?_); clear hK K; (try simp only [Act.put, List.setIfInBounds_toArray, List.set_cons_zero, List.set_cons_succ]))
      clear hSx
      refine wpAnyH_ready (rs := [4]) (by kernel_rfl) (by simp) (AllReadyH.cons rfl (fun K hK => ?_) AllReadyH.nil)
      have hzX := HK.out.chg.size
      refine step_append_lies _ (by rfl) _ _ _ (by rfl) w2.heap.size 44 iC _ 1 24 Tryz.underlying24 hiC hzC0 hzC1 hzC2 rfl (by omega) _ (keepTo t rows j).length _ (by rfl) HK.out.own1 ⟨_, 0, none⟩ 1 1 [.slice ea (entTo t rows r D).length ec] (by rfl) (by rfl) (World.news_of_block hLA) (by simp [Value.oneCell']) (by omega) (by unfold maxLen; omega) (by omega) (by omega) _ rfl ?_
      intro gg4 cap4 wk2 hown4 hgrow4 hat4 hlt4
      have HKn := Lib.hid (HK.out.app1 rfl hown4 hgrow4 (blk_or rfl hat4)); clear HK; have HK := HKn; clear HKn hown4 hgrow4 hat4 hlt4 hLA
      have hSx := hSk wk2 HK.out.chg
      (refine hK.out _ _ hSx (fun hHeld => ?_); clear hK K; (try simp only [Act.put, List.setIfInBounds_toArray, List.set_cons_zero, List.set_cons_succ]))
      clear hSx
      (refine wpAnyH_take (i := 13) (v := .pointer (some ⟨w2.heap.size + 1, 5, none⟩)) rfl (by kernel_rfl) (by kernel_rfl) (by kernel_rfl) (fun _ _ _ h => h) (Or.inl ⟨by kernel_rfl, fun w hSw => by (try dsimp only at hSw); go_split_ands; go_simp⟩) (by assumption) ?_; simp only [Act.put, List.setIfInBounds_toArray, List.set_cons_zero, List.set_cons_succ])
      refine wpAnyH_ready (rs := [10]) (by kernel_rfl) (by simp) (AllReadyH.cons rfl (fun K hK => ?_) AllReadyH.nil)
      go_simp
      go_at_call 62
      refine (slClone_any _ (getl cuts r) wk2 (HCr.out.mono (S' := fun _ => True) (fun _ _ _ => trivial) (HK.out.chg.keep fun b hb hF => by have hb : b < w2.heap.size := hb; have := hF.elim (fun e => (HTw.out.own1.lt b e).1) (fun e => (HTw.out.own2.lt b e).1); omega)) hcl1).mono ?_
      rintro e' wk3 ⟨cv3, rfl, ⟨bc, hx3, hbc3⟩, hbx⟩
      obtain ⟨ca3, cc3, rfl, _⟩ := id hx3
      dsimp only
      have HKn := Lib.hid (HK.out.clone hbx hx3 hbc3); clear HK; have HK := HKn; clear HKn hx3 hbc3
      have hSx := hSk wk3 HK.out.chg
      clear hbx
      (refine hK.out _ _ hSx (fun hHeld => ?_); clear hK K; (try simp only [Act.put, List.setIfInBounds_toArray, List.set_cons_zero, List.set_cons_succ]))
      clear hSx
      refine wpAnyH_ready (rs := [11]) (by kernel_rfl) (by simp) (AllReadyH.cons rfl (fun K hK => ?_) AllReadyH.nil)
      go_simp
      obtain ⟨wk4, hwwk4⟩ : ∃ x, x = wk3.alloc (.cells #[.slice ca3 (getl cuts r).length cc3] 44) := ⟨_, rfl⟩
      have hbx : Below wk3.heap.size wk3 wk4 := by rw [hwwk4]; exact (Below.refl _ _).alloc (Nat.le_refl _) _
      have hLC : wk4.heap[wk3.heap.size]? = some (.cells #[.slice ca3 (getl cuts r).length cc3] 44 (0, 0)) := by rw [hwwk4]; exact heap_alloc_self _ _
      have hzX := HK.out.chg.size
      have HKn := Lib.hid (HK.out.below hbx); clear HK; have HK := HKn; clear HKn
      rw [← hwwk4]
      have hSx := hSk wk4 HK.out.chg
      clear hwwk4 hbx
      (refine hK.out _ _ hSx (fun hHeld => ?_); clear hK K; (try simp only [Act.put, List.setIfInBounds_toArray, List.set_cons_zero, List.set_cons_succ]))
      clear hSx
      refine wpAnyH_ready (rs := [12]) (by kernel_rfl) (by simp) (AllReadyH.cons rfl (fun K hK => ?_) AllReadyH.nil)
      have hzX := HK.out.chg.size
      refine step_append_lies _ (by rfl) _ _ _ (by rfl) w2.heap.size 44 iC _ 1 24 Tryz.underlying24 hiC hzC0 hzC1 hzC2 rfl (by omega) _ (kcutTo cuts rows j).length _ (by rfl) HK.out.own2 ⟨_, 0, none⟩ 1 1 [.slice ca3 (getl cuts r).length cc3] (by rfl) (by rfl) (World.news_of_block hLC) (by simp [Value.oneCell']) (by omega) (by unfold maxLen; omega) (by omega) (by omega) _ rfl ?_
      intro gg12 cap12 wk5 hown4 hgrow4 hat4 hlt4
      have HKn := Lib.hid (HK.out.app2 rfl hown4 hgrow4 (blk_or rfl hat4)); clear HK; have HK := HKn; clear HKn hown4 hgrow4 hat4 hlt4 hLC
      have hSx := hSk wk5 HK.out.chg
      (refine hK.out _ _ hSx (fun hHeld => ?_); clear hK K; (try simp only [Act.put, List.setIfInBounds_toArray, List.set_cons_zero, List.set_cons_succ]))
      clear hSx
      have hKB9 := HK.out.chg.heap hKn hKnF
      have hb9 := HK.out.chg.to_below (B := w2.heap.size) (fun b hb => hb.elim (fun e => (HTw.out.own1.lt b e).1) (fun e => (HTw.out.own2.lt b e).1)) (by omega)
      have hT9 := Lib.hid (KR.done HTw.out HK.out HE.out.1 HE.out.2); clear HK
      have hcK9 : ∀ o, wk5.cell? ⟨w2.heap.size + 1, o, none⟩ = (#[.int .i64 m.c, .int .i64 m.d, .int .i64 m.s, .int .i64 m.e, .int .i64 m.l, .slice v1a (keepTo t rows j).length v1c] : Array Value)[o]? := fun o => by rw [cell_of_block hKB9]
      have hfK9 := fun o => frozen_of_block hKB9 o
      have hK10 := heap_setCell_self (off := 5) hKB9 (.slice (some ⟨gg4, 0, none⟩) ((keepTo t rows j).length + 1) cap4)
      obtain ⟨wz, hwz⟩ : ∃ q, q = wk5.setCell ⟨w2.heap.size + 1, 5, none⟩ (.slice (some ⟨gg4, 0, none⟩) ((keepTo t rows j).length + 1) cap4) := ⟨_, rfl⟩
      rw [← hwz] at hK10
      have hch9 : Chg (fun b => b = w2.heap.size + 1) wk5 wz := by rw [hwz]; exact (Chg.refl (fun b => b = w2.heap.size + 1) _).setCell (p := ⟨w2.heap.size + 1, 5, none⟩) (.inl rfl) _
      have hT10 := Lib.hid (hT9.out.chg hch9); clear hT9
      have hbz9 : Below w2.heap.size w2 wz := (HbT.out.trans (hb9.mono (Nat.le_refl _))).trans (hch9.to_below (fun b hb => by omega) (by have := (HbT.out.trans (hb9.mono (Nat.le_refl _))).size; omega))
      have HZ := Lib.hid (And.intro hK10 (And.intro hbz9 hwz)); clear hK10 hbz9 hwz hch9 hb9
      (refine wpAnyH_ready (rs := [14]) (by kernel_rfl) (by simp) (AllReadyH.cons rfl (fun K hK => ?_) AllReadyH.nil); go_simp)
      rw [← HZ.out.2.2]
      have hSz := hSk2 wz HZ.out.2.1
      (refine hK.out _ _ hSz (fun hHeld => ?_); clear hK K; (try simp only [Act.put, List.setIfInBounds_toArray, List.set_cons_zero, List.set_cons_succ]))
      (refine wpAnyH_ready (rs := [15]) (by kernel_rfl) (by simp) (AllReadyH.cons rfl (fun K hK => ?_) AllReadyH.nil); go_simp)
      (refine hK.out _ _ hSz (fun hHeld => ?_); clear hK K; (try simp only [Act.put, List.setIfInBounds_toArray, List.set_cons_zero, List.set_cons_succ]))
      refine wpAnyH_done (by kernel_rfl) (NoPanic.normal ?_) _
      clear hHeld hSz hcK9 hfK9 hKB9
      go_wp2_with fail
      go_roundw
      case rel => exact ⟨j + 1, _, _, _, _, _, by omega, by go_num, by simpa using HZ.out.1, by have h9 := hT10.out; rw [Hst.out.1, Hst.out.2]; simpa using h9, HZ.out.2.1⟩
      case measure => simp [intOf]; omega
  ·obtain rfl : j = rows.length := by omega
   have hRo := (HT.out.2.2.block _ (lt_of_heap H2.out.2.1)).trans H2.out.2.1
   have hBo := H2.out.1.trans (HT.out.2.2.mono (by omega))
   have HRo := Lib.hid (And.intro hRo hBo); clear hRo hBo
   by_cases hn0 : rows.length = 0
   ·have hfin : keepAns m t cuts rows = (5, [], []) := by unfold keepAns; rw [if_neg (by rw [Hri.out.2.2]; decide), if_neg (by rw [Hri.out.1]; decide), if_pos (.inl hn0)]
    have hA5 := HA5.out.symm.trans hfin
    clear hfin hjj hx2
    obtain ⟨RL, hRL⟩ : ∃ q, rows.length = q := ⟨_, rfl⟩
    have HRL := Lib.hid hRL
    rw [hRL] at hn0 hmr hrl hj ⊢
    subst hn0
    clear hRL
    have hcRz : ∀ o, wo.cell? ⟨W.heap.size + 1, o, none⟩ = (#[.int .i64 0, .int .i64 0, .int .i64 0, .int .i64 0, .int .i64 0, .slice none 0 0] : Array Value)[o]? := fun o => by rw [cell_of_block HRo.out.1]
    have hfRz := fun o => frozen_of_block HRo.out.1 o
    obtain ⟨wz, hwz⟩ : ∃ wz, wz = put6 wo (W.heap.size + 1) (.int .i64 0) (.int .i64 0) (.int .i64 0) (.int .i64 0) (.int .i64 0) (.slice none 0 0) := ⟨_, rfl⟩
    have hd3 : wz.heap[W.heap.size + 1]? = some (.cells #[.int .i64 0, .int .i64 0, .int .i64 0, .int .i64 0, .int .i64 0, .slice none 0 0] 33 (0, 0)) := by
     rw [hwz]; unfold put6
     rw [heap_setCell_self (heap_setCell_self (heap_setCell_self (heap_setCell_self (heap_setCell_self (heap_setCell_self HRo.out.1 _) _) _) _) _) _]
     simp
    have hd2 : Below W.heap.size W wz := by
     rw [hwz]; unfold put6
     exact ((((((HRo.out.2.setCell (by show W.heap.size ≤ W.heap.size + 1; omega) _).setCell (by show W.heap.size ≤ W.heap.size + 1; omega) _).setCell (by show W.heap.size ≤ W.heap.size + 1; omega) _).setCell (by show W.heap.size ≤ W.heap.size + 1; omega) _).setCell (by show W.heap.size ≤ W.heap.size + 1; omega) _).setCell (by show W.heap.size ≤ W.heap.size + 1; omega) _)
    have hz0 : wz.cell? ⟨W.heap.size + 1, 0, none⟩ = some (.int .i64 0) := by rw [cell_of_block hd3]; rfl
    have hz1 : wz.cell? ⟨W.heap.size + 1, 1, none⟩ = some (.int .i64 0) := by rw [cell_of_block hd3]; rfl
    have hz2 : wz.cell? ⟨W.heap.size + 1, 2, none⟩ = some (.int .i64 0) := by rw [cell_of_block hd3]; rfl
    have hz3 : wz.cell? ⟨W.heap.size + 1, 3, none⟩ = some (.int .i64 0) := by rw [cell_of_block hd3]; rfl
    have hz4 : wz.cell? ⟨W.heap.size + 1, 4, none⟩ = some (.int .i64 0) := by rw [cell_of_block hd3]; rfl
    have hz5 : wz.cell? ⟨W.heap.size + 1, 5, none⟩ = some (.slice none 0 0) := by rw [cell_of_block hd3]; rfl
    have hlz := lt_of_heap hd3
    have HZ := Lib.hid (And.intro hd2 (And.intro hlz (And.intro hwz (And.intro hz0 (And.intro hz1 (And.intro hz2 (And.intro hz3 (And.intro hz4 hz5)))))))); clear hd2 hlz hd3 hwz hz0 hz1 hz2 hz3 hz4 hz5
    go_wp2_with fail
    have hwz := HZ.out.2.2.1
    unfold put6 at hwz
    rw [← hwz]
    clear hwz
    obtain ⟨hd2, hlz, hwzz, hz0, hz1, hz2, hz3, hz4, hz5⟩ := HZ.out
    clear hwzz
    exact bodyPost_ret (v := .tuple #[.agg #[.int .i64 0, .int .i64 0, .int .i64 0, .int .i64 0, .int .i64 0, .slice none 0 0], .slice none 0 0, .int .i64 5]) (by simp [results, Tryz.results23, go_sem, hz0, hz1, hz2, hz3, hz4, hz5]) rfl ⟨_, _, (by rw [hA5]; rfl), (by rw [hA5]; exact KOut.nil (by omega)), hd2⟩
   ·have hpos : 0 < rows.length := by omega
    have hk0 := keep_rowlen (t := t) (rows := rows) (k := 0) hpos
    have hkl := keepTo_len t rows rows.length
    obtain ⟨g, gc, eg, _, _⟩ := own_some HT.out.2.1.own1 (by omega)
    simp only [Value.slice.injEq] at eg
    obtain ⟨rfl, _, rfl⟩ := eg
    obtain ⟨rv0, hv0, hx0⟩ := HT.out.2.1.each1 0 (by omega)
    have hc0 : wo.cell? ⟨g, 0, none⟩ = some rv0 := by
     have h3 := HT.out.2.1.own1.cells (g := g) rfl 0 rv0 hv0
     simpa [Addr.add] using h3
    obtain ⟨a0, c0, rfl, _⟩ := id hx0
    rw [hk0] at hc0
    obtain ⟨U, hU⟩ : ∃ U, (usedTo t rows (getl t 0).length).length = U := ⟨_, rfl⟩
    rw [hU] at hc0 hk0
    have hul := usedTo_len t rows (getl t 0).length
    rw [hU] at hul
    have hcK : ∀ o, wo.cell? ⟨w2.heap.size + 1, o, none⟩ = (#[.int .i64 m.c, .int .i64 m.d, .int .i64 m.s, .int .i64 m.e, .int .i64 m.l, .slice (some ⟨g, 0, none⟩) (keepTo t rows rows.length).length v1c] : Array Value)[o]? := fun o => by rw [cell_of_block HT.out.1]
    have hkpos : 0 < (keepTo t rows rows.length).length := by omega
    have hkn : ¬ (keepTo t rows rows.length).length ≤ 0 := by omega
    have hkp2 : (0 : Int) < ((keepTo t rows rows.length).length : Int) := by omega
    have Hkl := Lib.hid (And.intro hkl hU); clear hkl hU hx0 hv0 hk0
    have hnd : ((rows.length : Int) == 0) = false := beq_eq_false_iff_ne.2 (by omega)
    have hnd2 : ¬ (rows.length : Int) = 0 := by omega
    by_cases hu0 : U = 0
    ·have hfin : keepAns m t cuts rows = (5, [], []) := by unfold keepAns; rw [if_neg (by rw [Hri.out.2.2]; decide), if_neg (by rw [Hri.out.1]; decide), if_pos (.inr (by rw [Hkl.out.2]; exact hu0))]
     have hA5 := HA5.out.symm.trans hfin
     clear hfin hjj hx2
     subst hu0
     have hcRz : ∀ o, wo.cell? ⟨W.heap.size + 1, o, none⟩ = (#[.int .i64 0, .int .i64 0, .int .i64 0, .int .i64 0, .int .i64 0, .slice none 0 0] : Array Value)[o]? := fun o => by rw [cell_of_block HRo.out.1]
     have hfRz := fun o => frozen_of_block HRo.out.1 o
     obtain ⟨wz, hwz⟩ : ∃ wz, wz = put6 wo (W.heap.size + 1) (.int .i64 0) (.int .i64 0) (.int .i64 0) (.int .i64 0) (.int .i64 0) (.slice none 0 0) := ⟨_, rfl⟩
     have hd3 : wz.heap[W.heap.size + 1]? = some (.cells #[.int .i64 0, .int .i64 0, .int .i64 0, .int .i64 0, .int .i64 0, .slice none 0 0] 33 (0, 0)) := by
      rw [hwz]; unfold put6
      rw [heap_setCell_self (heap_setCell_self (heap_setCell_self (heap_setCell_self (heap_setCell_self (heap_setCell_self HRo.out.1 _) _) _) _) _) _]
      simp
     have hd2 : Below W.heap.size W wz := by
      rw [hwz]; unfold put6
      exact ((((((HRo.out.2.setCell (by show W.heap.size ≤ W.heap.size + 1; omega) _).setCell (by show W.heap.size ≤ W.heap.size + 1; omega) _).setCell (by show W.heap.size ≤ W.heap.size + 1; omega) _).setCell (by show W.heap.size ≤ W.heap.size + 1; omega) _).setCell (by show W.heap.size ≤ W.heap.size + 1; omega) _).setCell (by show W.heap.size ≤ W.heap.size + 1; omega) _)
     have hz0 : wz.cell? ⟨W.heap.size + 1, 0, none⟩ = some (.int .i64 0) := by rw [cell_of_block hd3]; rfl
     have hz1 : wz.cell? ⟨W.heap.size + 1, 1, none⟩ = some (.int .i64 0) := by rw [cell_of_block hd3]; rfl
     have hz2 : wz.cell? ⟨W.heap.size + 1, 2, none⟩ = some (.int .i64 0) := by rw [cell_of_block hd3]; rfl
     have hz3 : wz.cell? ⟨W.heap.size + 1, 3, none⟩ = some (.int .i64 0) := by rw [cell_of_block hd3]; rfl
     have hz4 : wz.cell? ⟨W.heap.size + 1, 4, none⟩ = some (.int .i64 0) := by rw [cell_of_block hd3]; rfl
     have hz5 : wz.cell? ⟨W.heap.size + 1, 5, none⟩ = some (.slice none 0 0) := by rw [cell_of_block hd3]; rfl
     have hlz := lt_of_heap hd3
     have HZ := Lib.hid (And.intro hd2 (And.intro hlz (And.intro hwz (And.intro hz0 (And.intro hz1 (And.intro hz2 (And.intro hz3 (And.intro hz4 hz5)))))))); clear hd2 hlz hd3 hwz hz0 hz1 hz2 hz3 hz4 hz5
     go_wp2_with fail
     have hwz := HZ.out.2.2.1
     unfold put6 at hwz
     rw [← hwz]
     clear hwz
     obtain ⟨hd2, hlz, hwzz, hz0, hz1, hz2, hz3, hz4, hz5⟩ := HZ.out
     clear hwzz
     exact bodyPost_ret (v := .tuple #[.agg #[.int .i64 0, .int .i64 0, .int .i64 0, .int .i64 0, .int .i64 0, .slice none 0 0], .slice none 0 0, .int .i64 5]) (by simp [results, Tryz.results23, go_sem, hz0, hz1, hz2, hz3, hz4, hz5]) rfl ⟨_, _, (by rw [hA5]; rfl), (by rw [hA5]; exact KOut.nil (by omega)), hd2⟩
    ·have hfin : keepAns m t cuts rows = (0, keepTo t rows rows.length, kcutTo cuts rows rows.length) := by unfold keepAns; rw [if_neg (by rw [Hri.out.2.2]; decide), if_neg (by rw [Hri.out.1]; decide), if_neg (by rw [not_or]; exact ⟨hn0, by rw [Hkl.out.2]; exact hu0⟩)]
     have hA5 := HA5.out.symm.trans hfin
     have hud : ((U : Int) == 0) = false := beq_eq_false_iff_ne.2 (by omega)
     have hud2 : ¬ (U : Int) = 0 := by omega
     clear hfin hjj hx2
     have hA5 := Lib.hid hA5
     have hcRz : ∀ o, wo.cell? ⟨W.heap.size + 1, o, none⟩ = (#[.int .i64 0, .int .i64 0, .int .i64 0, .int .i64 0, .int .i64 0, .slice none 0 0] : Array Value)[o]? := fun o => by rw [cell_of_block HRo.out.1]
     have hfRz := fun o => frozen_of_block HRo.out.1 o
     obtain ⟨wz, hwz⟩ : ∃ wz, wz = put6 wo (W.heap.size + 1) (.int .i64 m.c) (.int .i64 m.d) (.int .i64 m.s) (.int .i64 m.e) (.int .i64 m.l) (.slice (some ⟨g, 0, none⟩) (keepTo t rows rows.length).length v1c) := ⟨_, rfl⟩
     have hd3 : wz.heap[W.heap.size + 1]? = some (.cells #[.int .i64 m.c, .int .i64 m.d, .int .i64 m.s, .int .i64 m.e, .int .i64 m.l, .slice (some ⟨g, 0, none⟩) (keepTo t rows rows.length).length v1c] 33 (0, 0)) := by
      rw [hwz]; unfold put6
      rw [heap_setCell_self (heap_setCell_self (heap_setCell_self (heap_setCell_self (heap_setCell_self (heap_setCell_self HRo.out.1 _) _) _) _) _) _]
      simp
     have hd2 : Below W.heap.size W wz := by
      rw [hwz]; unfold put6
      exact ((((((HRo.out.2.setCell (by show W.heap.size ≤ W.heap.size + 1; omega) _).setCell (by show W.heap.size ≤ W.heap.size + 1; omega) _).setCell (by show W.heap.size ≤ W.heap.size + 1; omega) _).setCell (by show W.heap.size ≤ W.heap.size + 1; omega) _).setCell (by show W.heap.size ≤ W.heap.size + 1; omega) _).setCell (by show W.heap.size ≤ W.heap.size + 1; omega) _)
     have hchz : Chg (fun b => b = W.heap.size + 1) wo wz := by
      rw [hwz]; unfold put6
      exact ((((((Chg.refl (fun b => b = W.heap.size + 1) _).setCell (p := ⟨W.heap.size + 1, 0, none⟩) (.inl rfl) _).setCell (p := ⟨W.heap.size + 1, 1, none⟩) (.inl rfl) _).setCell (p := ⟨W.heap.size + 1, 2, none⟩) (.inl rfl) _).setCell (p := ⟨W.heap.size + 1, 3, none⟩) (.inl rfl) _).setCell (p := ⟨W.heap.size + 1, 4, none⟩) (.inl rfl) _).setCell (p := ⟨W.heap.size + 1, 5, none⟩) (.inl rfl) _
     have hTz := (HT.out.2.1.low hchz (fun b hb => by have hb : b = W.heap.size + 1 := hb; omega)).baseO (show W.heap.size ≤ w2.heap.size by omega)
     have hz0 : wz.cell? ⟨W.heap.size + 1, 0, none⟩ = some (.int .i64 m.c) := by rw [cell_of_block hd3]; rfl
     have hz1 : wz.cell? ⟨W.heap.size + 1, 1, none⟩ = some (.int .i64 m.d) := by rw [cell_of_block hd3]; rfl
     have hz2' : wz.cell? ⟨W.heap.size + 1, 2, none⟩ = some (.int .i64 m.s) := by rw [cell_of_block hd3]; rfl
     have hz3 : wz.cell? ⟨W.heap.size + 1, 3, none⟩ = some (.int .i64 m.e) := by rw [cell_of_block hd3]; rfl
     have hz4' : wz.cell? ⟨W.heap.size + 1, 4, none⟩ = some (.int .i64 m.l) := by rw [cell_of_block hd3]; rfl
     have hz5 : wz.cell? ⟨W.heap.size + 1, 5, none⟩ = some (.slice (some ⟨g, 0, none⟩) (keepTo t rows rows.length).length v1c) := by rw [cell_of_block hd3]; rfl
     have HZ := Lib.hid (And.intro hd2 (And.intro hTz (And.intro hwz (And.intro hz0 (And.intro hz1 (And.intro hz2' (And.intro hz3 (And.intro hz4' hz5)))))))); clear hd2 hTz hchz hd3 hwz hz0 hz1 hz2' hz3 hz4' hz5
     go_wp2_with fail
     have hwz := HZ.out.2.2.1
     unfold put6 at hwz
     rw [← hwz]
     clear hwz
     obtain ⟨hd2, hTz, hwzz, hz0, hz1, hz2', hz3, hz4', hz5⟩ := HZ.out
     clear hwzz
     exact bodyPost_ret (v := .tuple #[.agg #[.int .i64 m.c, .int .i64 m.d, .int .i64 m.s, .int .i64 m.e, .int .i64 m.l, .slice (some ⟨g, 0, none⟩) (keepTo t rows rows.length).length v1c], .slice v2a (kcutTo cuts rows rows.length).length v2c, .int .i64 0]) (by simp [results, Tryz.results23, go_sem, hz0, hz1, hz2', hz3, hz4', hz5]) rfl ⟨_, _, by rw [hA5.out]; rfl, by rw [hA5.out]; exact ⟨_, _, _, _, _, hTz⟩, hd2⟩
end Go.Proofs.YtmjplkbmhdkggaaGreat
