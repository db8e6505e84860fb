/- Draws of a system that may be too tight, and of a table, from a code. No conditions. -/
import Derived.Test.YtmaefilliggjiaaGreatMDraw23
import Derived.Test.YtmaefilliggjiaaGreatMGoC
import Derived.Test.YtmaefilliggjiaaGreatMShelf0
import Derived.Test.YtmaefilliggjiaaGreatMDraw1
import Derived.Test.YtmaefilliggjiaaGreatMEach5
import Derived.Test.YtmaefilliggjiaaGreatMRefFirst
import Derived.Test.YtmaefilliggjiaaGreatMLib
import Derived.Test.YtmaefilliggjiaaGreatMTable
namespace Go.Proofs.YtmaefilliggjiaaGreat
open Go.RowKit
set_option linter.unusedVariables false
set_option linter.unusedSimpArgs false
/-- What a draw of a table from a code answers. -/
def DrawTb (W : World) (e : Ending) (w' : World) : Prop :=
 ∃ (u : Value) (T : List (List Int)), e = .returned u ∧ V2 (fun b => W.heap.size ≤ b) w' u T ∧ Below W.heap.size W w'
set_option maxRecDepth 100000 in
theorem DrawLongestChain_any {S : Nat → Prop} (v : Value) (l : List Int) (W : World) (h : VB S W v l) :
  Calls Tryz.prog 49 #[v] W (DrawTb W) := by
 have HL := Lib.hid h
 obtain ⟨a, c, rfl, hm⟩ := h.form
 clear h
 go_enter Tryz.func49, Tryz.ntmps49
 go_wp2_with fail
 refine (l01From_any _ l W HL.out).mono ?_
 rintro e' w2 ⟨rfl, hs2, hb2⟩
 have hz2 := hb2.size
 have hz23 : W.heap.size < w2.heap.size := hs2.lt
 have H2 := Lib.hid (And.intro hs2 hb2); clear hs2 hb2
 go_wp2_with fail
 refine (l11Draw_any W.heap.size W.heap.size w2 H2.out.1).mono ?_
 rintro e' w3 ⟨u, T, rfl, ⟨hu, hT⟩, hs3, ho3⟩
 obtain ⟨ta, tc, rfl, _⟩ := hu.form
 have H3 := Lib.hid (And.intro (hu.mono (S' := fun b => W.heap.size ≤ b) (fun b hb _ => by have hb : w2.heap.size ≤ b := hb; show W.heap.size ≤ b; omega) (fun _ _ _ => rfl)) (H2.out.2.trans (ho3.to_below (Nat.le_refl _) (by omega)))); clear hu hs3 ho3
 go_wp2_with fail
 go_ret
 exact ⟨_, T, rfl, H3.out.1, H3.out.2⟩
set_option maxRecDepth 100000 in
set_option maxHeartbeats 1000000 in
theorem DrawSpareKeys_any {S : Nat → Prop} (v : Value) (l : List Int) (W : World) (h : VB S W v l) :
  Calls Tryz.prog 147 #[v] W (DrawSy W) := by
 obtain ⟨a, c, rfl, hm⟩ := h.form
 obtain ⟨W1, hW1, hB01, hz01, HZ01, _, hh01⟩ := box_facts W #[.int .i64 0, .int .i64 0, .int .i64 0, .int .i64 0, .int .i64 0, .slice none 0 0] 28
 have hz1e := HZ01.out
 have hz1l : W1.heap.size ≤ W.heap.size + 1 := by omega
 have HL := Lib.hid (And.intro (h.below hB01) (And.intro hB01 (And.intro hh01 hW1))); clear h hh01 hB01 hz1e
 go_enter Tryz.func147, Tryz.ntmps147
 go_wp2_with fail
 rw [← HL.out.2.2.2]
 clear hW1
 refine (l01From_any _ l W1 HL.out.1).mono ?_
 rintro e' w2 ⟨rfl, hs2, hb2⟩
 have hz2 := hb2.size
 have hz23 : W1.heap.size < w2.heap.size := hs2.lt
 have H2 := Lib.hid (And.intro hs2 (And.intro hb2 ((hb2.block _ hz01).trans HL.out.2.2.1))); clear hs2 hb2
 go_wp2_with fail
 refine (l01Next_any _ _ 2 _ H2.out.1).mono ?_
 rintro e' wq ⟨q, rfl, ⟨hq0, hq1⟩, hsq, hoq⟩
 have hzq := hoq.size
 have Hq := Lib.hid (And.intro hsq (And.intro (HL.out.2.1.trans ((H2.out.2.1.trans (hoq.to_below (Nat.le_refl _) (by omega))).mono (by omega))) (hoq.heap H2.out.2.2 (fun e => by omega)))); clear hsq hoq
 by_cases hq : q = 0
 ·subst hq
  clear hq0 hq1
  go_wp2_with fail
  refine (l19DrawSystem_any W1.heap.size W1.heap.size wq Hq.out.1).mono ?_
  rintro e' w3 ⟨m, u, T, rfl, hsm, hu, hT12, hs3, ho3⟩
  have hz3 := ho3.size
  obtain ⟨ta, tc, rfl, _⟩ := hu.form
  have H3 := Lib.hid (And.intro (Hq.out.2.1.trans ((ho3.to_below (B := W1.heap.size) (Nat.le_refl _) (by omega)).mono (by omega))) (And.intro (ho3.heap Hq.out.2.2 (fun e => by omega)) (hu.mono (S' := fun b => W1.heap.size ≤ b) (fun b hb _ => by have hb : wq.heap.size ≤ b := hb; show W1.heap.size ≤ b; omega) (fun _ _ _ => rfl)))); clear hs3 ho3 hu hsm
  have hcRz : ∀ o, w3.cell? ⟨W.heap.size, o, none⟩ = (#[.int .i64 0, .int .i64 0, .int .i64 0, .int .i64 0, .int .i64 0, .slice none 0 0] : Array Value)[o]? := fun o => by rw [cell_of_block H3.out.2.1]
  have hfRz := fun o => frozen_of_block H3.out.2.1 o
  have hdone := putS_new H3.out.1 H3.out.2.1 (.int .i64 m.c) (.int .i64 m.d) (.int .i64 m.s) (.int .i64 m.e) (.int .i64 m.l) (.slice ta T.length tc)
  obtain ⟨wz, hwz⟩ : ∃ wz, wz = putS w3 W.heap.size (.int .i64 m.c) (.int .i64 m.d) (.int .i64 m.s) (.int .i64 m.e) (.int .i64 m.l) (.slice ta T.length tc) := ⟨_, rfl⟩
  rw [← hwz] at hdone
  obtain ⟨hd2, hd3, hd4⟩ := hdone
  have hFz : V2 (fun b => W.heap.size ≤ b) wz (.slice ta T.length tc) T := V2.mono (S := fun b => W1.heap.size ≤ b) H3.out.2.2 (fun b hb _ => by have hb : W1.heap.size ≤ b := hb; omega) (fun b hb _ => hd4 b (by have hb : W1.heap.size ≤ b := hb; omega))
  have hz0 : wz.cell? ⟨W.heap.size, 0, none⟩ = some (.int .i64 m.c) := by rw [cell_of_block hd3]; rfl
  have hz1 : wz.cell? ⟨W.heap.size, 1, none⟩ = some (.int .i64 m.d) := by rw [cell_of_block hd3]; rfl
  have hz2 : wz.cell? ⟨W.heap.size, 2, none⟩ = some (.int .i64 m.s) := by rw [cell_of_block hd3]; rfl
  have hz3 : wz.cell? ⟨W.heap.size, 3, none⟩ = some (.int .i64 m.e) := by rw [cell_of_block hd3]; rfl
  have hz4 : wz.cell? ⟨W.heap.size, 4, none⟩ = some (.int .i64 m.l) := by rw [cell_of_block hd3]; rfl
  have hz5 : wz.cell? ⟨W.heap.size, 5, none⟩ = some (.slice ta T.length tc) := by rw [cell_of_block hd3]; rfl
  have HZ := Lib.hid (And.intro hd2 (And.intro hFz (And.intro hwz (And.intro hz0 (And.intro hz1 (And.intro hz2 (And.intro hz3 (And.intro hz4 hz5)))))))); clear hd2 hd3 hd4 hFz hwz hz0 hz1 hz2 hz3 hz4 hz5
  go_wp2_with fail
  have hwz := HZ.out.2.2.1
  unfold putS putR at hwz
  rw [← hwz]
  clear hwz
  obtain ⟨hd2, hFz, hwzz, hz0, hz1, hz2, hz3, hz4, hz5⟩ := HZ.out
  clear hwzz
  exact bodyPost_ret (v := .agg #[.int .i64 m.c, .int .i64 m.d, .int .i64 m.s, .int .i64 m.e, .int .i64 m.l, .slice ta T.length tc]) (by simp [results, Tryz.results147, go_sem, hz0, hz1, hz2, hz3, hz4, hz5]) rfl ⟨m, _, T, rfl, hFz, hd2⟩
 ·have hqd : (q == 0) = false := by simp [hq]
  clear hq hq0 hq1
  go_wp2_with fail
  refine (l15Draw_any W1.heap.size W1.heap.size wq Hq.out.1).mono ?_
  rintro e' w3 ⟨m, u, cv, T, cuts, rfl, hsm, hu, hT12, hcv, _, hs3, ho3⟩
  have hz3 := ho3.size
  obtain ⟨ta, tc, rfl, _⟩ := hu.form
  obtain ⟨w4, hw4⟩ : ∃ w4, w4 = w3.alloc (.cells #[.int .i64 m.c, .int .i64 m.d, .int .i64 m.s, .int .i64 m.e, .int .i64 m.l, .slice ta T.length tc] 28) := ⟨_, rfl⟩
  have hb34 : Below w3.heap.size w3 w4 := by rw [hw4]; exact (Below.refl _ _).alloc (Nat.le_refl _) _
  have hM4 : w4.heap[w3.heap.size]? = some (.cells #[.int .i64 m.c, .int .i64 m.d, .int .i64 m.s, .int .i64 m.e, .int .i64 m.l, .slice ta T.length tc] 28 (0, 0)) := by rw [hw4]; exact heap_alloc_self _ _
  have H4 := Lib.hid (And.intro (Hq.out.2.1.trans (((ho3.to_below (B := W1.heap.size) (Nat.le_refl _) (by omega)).trans (hb34.mono (by omega))).mono (by omega))) (And.intro ((hb34.block _ (by omega)).trans (ho3.heap Hq.out.2.2 (fun e => by omega))) (And.intro ((hu.mono (S' := fun b => W1.heap.size ≤ b) (fun b hb _ => by have hb : wq.heap.size ≤ b := hb; show W1.heap.size ≤ b; omega) (fun _ _ _ => rfl)).below hb34) (And.intro hM4 hw4)))); clear hs3 ho3 hu hsm hb34 hM4 hw4 hcv
  have hcRz : ∀ o, w4.cell? ⟨W.heap.size, o, none⟩ = (#[.int .i64 0, .int .i64 0, .int .i64 0, .int .i64 0, .int .i64 0, .slice none 0 0] : Array Value)[o]? := fun o => by rw [cell_of_block H4.out.2.1]
  have hfRz := fun o => frozen_of_block H4.out.2.1 o
  have hdone := putS_new H4.out.1 H4.out.2.1 (.int .i64 m.c) (.int .i64 m.d) (.int .i64 m.s) (.int .i64 m.e) (.int .i64 m.l) (.slice ta T.length tc)
  obtain ⟨wz, hwz⟩ : ∃ wz, wz = putS w4 W.heap.size (.int .i64 m.c) (.int .i64 m.d) (.int .i64 m.s) (.int .i64 m.e) (.int .i64 m.l) (.slice ta T.length tc) := ⟨_, rfl⟩
  rw [← hwz] at hdone
  obtain ⟨hd2, hd3, hd4⟩ := hdone
  have hFz : V2 (fun b => W.heap.size ≤ b) wz (.slice ta T.length tc) T := V2.mono (S := fun b => W1.heap.size ≤ b) H4.out.2.2.1 (fun b hb _ => by have hb : W1.heap.size ≤ b := hb; omega) (fun b hb _ => hd4 b (by have hb : W1.heap.size ≤ b := hb; omega))
  have hz0 : wz.cell? ⟨W.heap.size, 0, none⟩ = some (.int .i64 m.c) := by rw [cell_of_block hd3]; rfl
  have hz1 : wz.cell? ⟨W.heap.size, 1, none⟩ = some (.int .i64 m.d) := by rw [cell_of_block hd3]; rfl
  have hz2 : wz.cell? ⟨W.heap.size, 2, none⟩ = some (.int .i64 m.s) := by rw [cell_of_block hd3]; rfl
  have hz3 : wz.cell? ⟨W.heap.size, 3, none⟩ = some (.int .i64 m.e) := by rw [cell_of_block hd3]; rfl
  have hz4 : wz.cell? ⟨W.heap.size, 4, none⟩ = some (.int .i64 m.l) := by rw [cell_of_block hd3]; rfl
  have hz5 : wz.cell? ⟨W.heap.size, 5, none⟩ = some (.slice ta T.length tc) := by rw [cell_of_block hd3]; rfl
  have hcRs : ∀ o, (w3.alloc (.cells #[.int .i64 m.c, .int .i64 m.d, .int .i64 m.s, .int .i64 m.e, .int .i64 m.l, .slice ta T.length tc] 28)).cell? ⟨W.heap.size, o, none⟩ = (#[.int .i64 0, .int .i64 0, .int .i64 0, .int .i64 0, .int .i64 0, .slice none 0 0] : Array Value)[o]? := fun o => by rw [← H4.out.2.2.2.2]; exact hcRz o
  have hfRs : ∀ o, (w3.alloc (.cells #[.int .i64 m.c, .int .i64 m.d, .int .i64 m.s, .int .i64 m.e, .int .i64 m.l, .slice ta T.length tc] 28)).frozen? ⟨W.heap.size, o, none⟩ = false := fun o => by rw [← H4.out.2.2.2.2]; exact hfRz o
  have HZ := Lib.hid (And.intro hd2 (And.intro hFz (And.intro hwz (And.intro hz0 (And.intro hz1 (And.intro hz2 (And.intro hz3 (And.intro hz4 hz5)))))))); clear hd2 hd3 hd4 hFz hwz hz0 hz1 hz2 hz3 hz4 hz5
  go_wp2_with fail
  rw [← H4.out.2.2.2.2]
  have hwz := HZ.out.2.2.1
  unfold putS putR at hwz
  rw [← hwz]
  clear hwz
  obtain ⟨hd2, hFz, hwzz, hz0, hz1, hz2, hz3, hz4, hz5⟩ := HZ.out
  clear hwzz
  exact bodyPost_ret (v := .agg #[.int .i64 m.c, .int .i64 m.d, .int .i64 m.s, .int .i64 m.e, .int .i64 m.l, .slice ta T.length tc]) (by simp [results, Tryz.results147, go_sem, hz0, hz1, hz2, hz3, hz4, hz5]) rfl ⟨m, _, T, rfl, hFz, hd2⟩
/-- The table of three rows, its last row exchanged for one in a block of its own. -/
theorem lit_swap {w w' : World} {B G : Nat} (h : LitT w B 3 2 T32) (hG : B + 3 < G) (h1 : w'.heap[G]? = some (.cells #[.int .i64 1, .int .i64 0] 2 (0, 0))) (h2 : w'.cell? ⟨B + 3, 2, none⟩ = some (.slice (some ⟨G, 0, none⟩) 2 2))
  (hk : ∀ b, B ≤ b → b < B + 3 → w'.heap[b]? = w.heap[b]?) (h3 : ∀ k, k < 2 → w'.cell? ⟨B + 3, k, none⟩ = w.cell? ⟨B + 3, k, none⟩) : V2 (fun b => B ≤ b) w' (.slice (some ⟨B + 3, 0, none⟩) 3 3) [[1, 1], [1, 0], [1, 0]] := by
 have hr := h.rows
 obtain ⟨_, _, hb, _⟩ := h
 refine ⟨_, 3, rfl, Nat.le_refl _, by unfold maxLen; omega, fun k hk3 => ?_⟩
 have hk3 : k < 3 := hk3
 rcases (by omega : k = 0 ∨ k = 1 ∨ k = 2) with rfl | rfl | rfl
 ·refine ⟨B + 3, 0, _, rfl, by show B ≤ B + 3; omega, by rw [Nat.zero_add, h3 0 (by omega)]; exact hr 0 (by omega), _, 2, rfl, Nat.le_refl _, by unfold maxLen; omega, fun q hq => ?_⟩
  have hq : q < 2 := hq
  refine ⟨B + 0, 0, .int .i64 (geti [1, 1] q), rfl, by show B ≤ B + 0; omega, by rw [cell_of_block ((hk (B + 0) (by omega) (by omega)).trans (hb 0 (by omega)))]; rcases (by omega : q = 0 ∨ q = 1) with rfl | rfl <;> rfl, rfl⟩
 ·refine ⟨B + 3, 0, _, rfl, by show B ≤ B + 3; omega, by rw [Nat.zero_add, h3 1 (by omega)]; exact hr 1 (by omega), _, 2, rfl, Nat.le_refl _, by unfold maxLen; omega, fun q hq => ?_⟩
  have hq : q < 2 := hq
  refine ⟨B + 1, 0, .int .i64 (geti [1, 0] q), rfl, by show B ≤ B + 1; omega, by rw [cell_of_block ((hk (B + 1) (by omega) (by omega)).trans (hb 1 (by omega)))]; rcases (by omega : q = 0 ∨ q = 1) with rfl | rfl <;> rfl, rfl⟩
 ·refine ⟨B + 3, 0, _, rfl, by show B ≤ B + 3; omega, by rw [Nat.zero_add]; exact h2, _, 2, rfl, Nat.le_refl _, by unfold maxLen; omega, fun q hq => ?_⟩
  have hq : q < 2 := hq
  refine ⟨G, 0, .int .i64 (geti [1, 0] q), rfl, by show B ≤ G; omega, by rw [cell_of_block h1]; rcases (by omega : q = 0 ∨ q = 1) with rfl | rfl <;> rfl, rfl⟩
set_option maxRecDepth 100000 in
set_option maxHeartbeats 2000000 in
theorem DrawIsTooTight_any {S : Nat → Prop} (v : Value) (l : List Int) (W : World) (h : VB S W v l) :
  Calls Tryz.prog 44 #[v] W (DrawSy W) := by
 obtain ⟨a, c, rfl, hm⟩ := h.form
 obtain ⟨W1, hW1, hB01, hz01, HZ01, _, hh01⟩ := box_facts W #[.int .i64 0, .int .i64 0, .int .i64 0, .int .i64 0, .int .i64 0, .slice none 0 0] 28
 have hz1e := HZ01.out
 have hz1l : W1.heap.size ≤ W.heap.size + 1 := by omega
 have HL := Lib.hid (And.intro (h.below hB01) (And.intro hB01 (And.intro hh01 hW1))); clear h hh01 hB01 hz1e
 go_enter Tryz.func44, Tryz.ntmps44
 go_wp2_with fail
 rw [← HL.out.2.2.2]
 clear hW1
 refine (l01From_any _ l W1 HL.out.1).mono ?_
 rintro e' w2 ⟨rfl, hs2, hb2⟩
 have hz2 := hb2.size
 have hz23 : W1.heap.size < w2.heap.size := hs2.lt
 have H2 := Lib.hid (And.intro hs2 (And.intro hb2 (And.intro ((hb2.block _ hz01).trans HL.out.2.2.1) ((VB.mono (S' := fun b => b < W1.heap.size) HL.out.1 (fun b _ hlt => hlt) (fun _ _ _ => rfl)).below hb2)))); clear hs2 hb2
 go_wp2_with fail
 refine (l01Next_any _ _ 3 _ H2.out.1).mono ?_
 rintro e' wq ⟨q, rfl, ⟨hq0, hq1⟩, hsq, hoq⟩
 have hzq := hoq.size
 have Hq := Lib.hid (And.intro hsq (And.intro (HL.out.2.1.trans ((H2.out.2.1.trans (hoq.to_below (Nat.le_refl _) (by omega))).mono (by omega))) (And.intro (hoq.heap H2.out.2.2.1 (fun e => by omega)) (VB.mono (S' := fun b => b < W1.heap.size) H2.out.2.2.2 (fun _ h _ => h) (fun b hb hlt => hoq.block b hlt (fun e => by have hb : b < W1.heap.size := hb; omega)))))); clear hsq hoq
 by_cases hq : q = 0
 ·subst hq
  clear hq0 hq1
  obtain ⟨w5, hw5, hL5, hb45, hz5⟩ := lit32 wq wq.heap.size rfl
  have hzl5 : w5.heap.size ≤ wq.heap.size + 4 ∧ wq.heap.size + 4 ≤ w5.heap.size := by omega
  clear hz5
  have H5 := Lib.hid (And.intro (Hq.out.1.below hb45) (And.intro (Hq.out.2.1.trans (hb45.mono (by omega))) (And.intro ((hb45.block _ (by omega)).trans Hq.out.2.2.1) (And.intro hL5 hw5)))); clear hw5 hL5 hb45
  go_wp2_with fail
  rw [← H5.out.2.2.2.2]
  refine (l01Next_any _ _ 2 _ H5.out.1).mono ?_
  rintro e' w6 ⟨z, rfl, ⟨hz0, hz1⟩, hs6, ho6⟩
  have hz6 := ho6.size
  have H6 := Lib.hid (And.intro (H5.out.2.1.trans ((ho6.to_below (B := W1.heap.size) (Nat.le_refl _) (by omega)).mono (by omega))) (And.intro (ho6.heap H5.out.2.2.1 (fun e => by omega)) (H5.out.2.2.2.1.keep (fun b h1 h2 => ho6.block b h2 (fun e => by omega))))); clear hs6 ho6
  by_cases hz : z = 0
  ·subst hz
   obtain ⟨_, _, _, cs, hcs, hcr⟩ := id H6.out.2.2
   obtain ⟨w7, hw7⟩ : ∃ x, x = w6.alloc (.cells #[.int .i64 1, .int .i64 0] 2) := ⟨_, rfl⟩
   have hb67 : Below w6.heap.size w6 w7 := by rw [hw7]; exact (Below.refl _ _).alloc (Nat.le_refl _) _
   have hG7 : w7.heap[w6.heap.size]? = some (.cells #[.int .i64 1, .int .i64 0] 2 (0, 0)) := by rw [hw7]; exact heap_alloc_self _ _
   have hC7 : w7.heap[wq.heap.size + 3]? = some (.cells cs 35 (0, 0)) := (hb67.block _ (lt_of_heap hcs)).trans hcs
   have hcl7 : w7.cell? ⟨wq.heap.size + 3, 2, none⟩ = some (.slice (some ⟨wq.heap.size + 2, 0, none⟩) 2 2) := by rw [cell_of_block hC7]; exact hcr 2 (by omega)
   have hfl7 := frozen_of_block hC7 2
   obtain ⟨w8, hw8⟩ : ∃ x, x = w7.setCell ⟨wq.heap.size + 3, 2, none⟩ (.slice (some ⟨w6.heap.size, 0, none⟩) 2 2) := ⟨_, rfl⟩
   have hC8 := heap_setCell_self (off := 2) hC7 (.slice (some ⟨w6.heap.size, 0, none⟩) 2 2)
   rw [← hw8] at hC8
   have ho8 : ∀ b, b ≠ wq.heap.size + 3 → w8.heap[b]? = w7.heap[b]? := fun b hb => by rw [hw8]; exact heap_setCell_other _ hb
   have hcs3 : 2 < cs.size := by
    have h2 := hcr 2 (by omega)
    exact (Array.getElem?_eq_some_iff.1 h2).1
   have hV8 := lit_swap H6.out.2.2 (G := w6.heap.size) (w' := w8) (by omega) ((ho8 _ (by omega)).trans hG7) (by rw [cell_of_block hC8]; simp [hcs3])
    (fun b h1 h2 => (ho8 b (by omega)).trans (hb67.block b (by omega)))
    (fun k hk => by rw [cell_of_block hC8, cell_of_block hcs]; rw [Array.getElem?_setIfInBounds_ne (by omega)])
   have hB8 : Below W.heap.size W w8 := by
    have h1 := H6.out.1.trans (hb67.mono (by omega))
    rw [hw8]; exact h1.setCell (by show W.heap.size ≤ wq.heap.size + 3; omega) _
   have hR8 : w8.heap[W.heap.size]? = some (.cells #[.int .i64 0, .int .i64 0, .int .i64 0, .int .i64 0, .int .i64 0, .slice none 0 0] 28 (0, 0)) := (ho8 _ (by omega)).trans ((hb67.block _ (lt_of_heap H6.out.2.1)).trans H6.out.2.1)
   have H8 := Lib.hid (And.intro hB8 (And.intro hR8 (And.intro hV8 (And.intro hw8 hw7)))); clear hB8 hR8 hV8 hw8 hw7 hC8 ho8 hcr hcs hC7 hG7 hb67
   have hcs7 : (w6.alloc (.cells #[.int .i64 1, .int .i64 0] 2)).cell? ⟨wq.heap.size + 3, 2, none⟩ = some (.slice (some ⟨wq.heap.size + 2, 0, none⟩) 2 2) := by rw [← H8.out.2.2.2.2]; exact hcl7
   have hfs7 : (w6.alloc (.cells #[.int .i64 1, .int .i64 0] 2)).frozen? ⟨wq.heap.size + 3, 2, none⟩ = false := by rw [← H8.out.2.2.2.2]; exact hfl7
   have hcRs : ∀ o, ((w6.alloc (.cells #[.int .i64 1, .int .i64 0] 2)).setCell ⟨wq.heap.size + 3, 2, none⟩ (.slice (some ⟨w6.heap.size, 0, none⟩) 2 2)).cell? ⟨W.heap.size, o, none⟩ = (#[.int .i64 0, .int .i64 0, .int .i64 0, .int .i64 0, .int .i64 0, .slice none 0 0] : Array Value)[o]? := fun o => by rw [← H8.out.2.2.2.2, ← H8.out.2.2.2.1]; rw [cell_of_block H8.out.2.1]
   have hfRs : ∀ o, ((w6.alloc (.cells #[.int .i64 1, .int .i64 0] 2)).setCell ⟨wq.heap.size + 3, 2, none⟩ (.slice (some ⟨w6.heap.size, 0, none⟩) 2 2)).frozen? ⟨W.heap.size, o, none⟩ = false := fun o => by rw [← H8.out.2.2.2.2, ← H8.out.2.2.2.1]; exact frozen_of_block H8.out.2.1 o
   clear hcl7 hfl7 hcs3
   have hcRz : ∀ o, w8.cell? ⟨W.heap.size, o, none⟩ = (#[.int .i64 0, .int .i64 0, .int .i64 0, .int .i64 0, .int .i64 0, .slice none 0 0] : Array Value)[o]? := fun o => by rw [cell_of_block H8.out.2.1]
   have hfRz := fun o => frozen_of_block H8.out.2.1 o
   have hdone := putS_new H8.out.1 H8.out.2.1 (.int .i64 2) (.int .i64 2) (.int .i64 1) (.int .i64 1) (.int .i64 1) (.slice (some ⟨wq.heap.size + 3, 0, none⟩) 3 3)
   obtain ⟨wz, hwz⟩ : ∃ wz, wz = putS w8 W.heap.size (.int .i64 2) (.int .i64 2) (.int .i64 1) (.int .i64 1) (.int .i64 1) (.slice (some ⟨wq.heap.size + 3, 0, none⟩) 3 3) := ⟨_, rfl⟩
   rw [← hwz] at hdone
   obtain ⟨hd2, hd3, hd4⟩ := hdone
   have hFz : V2 (fun b => W.heap.size ≤ b) wz (.slice (some ⟨wq.heap.size + 3, 0, none⟩) 3 3) [[1, 1], [1, 0], [1, 0]] := V2.mono (S := fun b => wq.heap.size ≤ b) H8.out.2.2.1 (fun b hb _ => by have hb : wq.heap.size ≤ b := hb; omega) (fun b hb _ => hd4 b (by have hb : wq.heap.size ≤ b := hb; omega))
   have hz0 : wz.cell? ⟨W.heap.size, 0, none⟩ = some (.int .i64 2) := by rw [cell_of_block hd3]; rfl
   have hz1 : wz.cell? ⟨W.heap.size, 1, none⟩ = some (.int .i64 2) := by rw [cell_of_block hd3]; rfl
   have hz2 : wz.cell? ⟨W.heap.size, 2, none⟩ = some (.int .i64 1) := by rw [cell_of_block hd3]; rfl
   have hz3 : wz.cell? ⟨W.heap.size, 3, none⟩ = some (.int .i64 1) := by rw [cell_of_block hd3]; rfl
   have hz4 : wz.cell? ⟨W.heap.size, 4, none⟩ = some (.int .i64 1) := by rw [cell_of_block hd3]; rfl
   have hz5 : wz.cell? ⟨W.heap.size, 5, none⟩ = some (.slice (some ⟨wq.heap.size + 3, 0, none⟩) 3 3) := by rw [cell_of_block hd3]; rfl
   have HZ := Lib.hid (And.intro hd2 (And.intro hFz (And.intro hwz (And.intro hz0 (And.intro hz1 (And.intro hz2 (And.intro hz3 (And.intro hz4 hz5)))))))); clear hd2 hd3 hd4 hFz hwz hz0 hz1 hz2 hz3 hz4 hz5
   (go_wp2_with fail; rw [← H8.out.2.2.2.2, ← H8.out.2.2.2.1])
   have hwz := HZ.out.2.2.1
   unfold putS putR at hwz
   rw [← hwz]
   clear hwz
   obtain ⟨hd2, hFz, hwzz, hz0, hz1, hz2, hz3, hz4, hz5⟩ := HZ.out
   clear hwzz
   exact bodyPost_ret (v := .agg #[.int .i64 2, .int .i64 2, .int .i64 1, .int .i64 1, .int .i64 1, .slice (some ⟨wq.heap.size + 3, 0, none⟩) 3 3]) (by simp [results, Tryz.results44, go_sem, hz0, hz1, hz2, hz3, hz4, hz5]) rfl ⟨Mk.mk 2 2 1 1 1, _, [[1, 1], [1, 0], [1, 0]], rfl, hFz, hd2⟩
  ·have hzd : (z == 0) = false := by simp [hz]
   clear hz hz0 hz1
   have hV6 := (H6.out.2.2.f2 (by omega) (by omega)).v2
   have HV6 := Lib.hid hV6; clear hV6
   have hcRz : ∀ o, w6.cell? ⟨W.heap.size, o, none⟩ = (#[.int .i64 0, .int .i64 0, .int .i64 0, .int .i64 0, .int .i64 0, .slice none 0 0] : Array Value)[o]? := fun o => by rw [cell_of_block H6.out.2.1]
   have hfRz := fun o => frozen_of_block H6.out.2.1 o
   have hdone := putS_new H6.out.1 H6.out.2.1 (.int .i64 2) (.int .i64 2) (.int .i64 1) (.int .i64 1) (.int .i64 1) (.slice (some ⟨wq.heap.size + 3, 0, none⟩) 3 3)
   obtain ⟨wz, hwz⟩ : ∃ wz, wz = putS w6 W.heap.size (.int .i64 2) (.int .i64 2) (.int .i64 1) (.int .i64 1) (.int .i64 1) (.slice (some ⟨wq.heap.size + 3, 0, none⟩) 3 3) := ⟨_, rfl⟩
   rw [← hwz] at hdone
   obtain ⟨hd2, hd3, hd4⟩ := hdone
   have hFz : V2 (fun b => W.heap.size ≤ b) wz (.slice (some ⟨wq.heap.size + 3, 0, none⟩) 3 3) T32 := V2.mono (S := fun b => wq.heap.size ≤ b) HV6.out (fun b hb _ => by have hb : wq.heap.size ≤ b := hb; omega) (fun b hb _ => hd4 b (by have hb : wq.heap.size ≤ b := hb; omega))
   have hz0 : wz.cell? ⟨W.heap.size, 0, none⟩ = some (.int .i64 2) := by rw [cell_of_block hd3]; rfl
   have hz1 : wz.cell? ⟨W.heap.size, 1, none⟩ = some (.int .i64 2) := by rw [cell_of_block hd3]; rfl
   have hz2 : wz.cell? ⟨W.heap.size, 2, none⟩ = some (.int .i64 1) := by rw [cell_of_block hd3]; rfl
   have hz3 : wz.cell? ⟨W.heap.size, 3, none⟩ = some (.int .i64 1) := by rw [cell_of_block hd3]; rfl
   have hz4 : wz.cell? ⟨W.heap.size, 4, none⟩ = some (.int .i64 1) := by rw [cell_of_block hd3]; rfl
   have hz5 : wz.cell? ⟨W.heap.size, 5, none⟩ = some (.slice (some ⟨wq.heap.size + 3, 0, none⟩) 3 3) := by rw [cell_of_block hd3]; rfl
   have HZ := Lib.hid (And.intro hd2 (And.intro hFz (And.intro hwz (And.intro hz0 (And.intro hz1 (And.intro hz2 (And.intro hz3 (And.intro hz4 hz5)))))))); clear hd2 hd3 hd4 hFz hwz hz0 hz1 hz2 hz3 hz4 hz5
   go_wp2_with fail
   have hwz := HZ.out.2.2.1
   unfold putS putR at hwz
   rw [← hwz]
   clear hwz
   obtain ⟨hd2, hFz, hwzz, hz0, hz1, hz2, hz3, hz4, hz5⟩ := HZ.out
   clear hwzz
   exact bodyPost_ret (v := .agg #[.int .i64 2, .int .i64 2, .int .i64 1, .int .i64 1, .int .i64 1, .slice (some ⟨wq.heap.size + 3, 0, none⟩) 3 3]) (by simp [results, Tryz.results44, go_sem, hz0, hz1, hz2, hz3, hz4, hz5]) rfl ⟨Mk.mk 2 2 1 1 1, _, T32, rfl, hFz, hd2⟩
 ·have hqd : (q == 0) = false := by simp [hq]
  clear hq hq0 hq1
  go_wp2_with fail
  refine (DrawSpareKeys_any _ l wq Hq.out.2.2.2).mono ?_
  rintro e' w3 ⟨m, u, T, rfl, hu, hb3⟩
  have hz3 := hb3.size
  obtain ⟨ta, tc, rfl, _⟩ := hu.form
  have H3 := Lib.hid (And.intro (Hq.out.2.1.trans (hb3.mono (by omega))) (And.intro ((hb3.block _ (by omega)).trans Hq.out.2.2.1) (hu.mono (S' := fun b => W1.heap.size ≤ b) (fun b hb _ => by have hb : wq.heap.size ≤ b := hb; show W1.heap.size ≤ b; omega) (fun _ _ _ => rfl)))); clear hb3 hu
  have hcRz : ∀ o, w3.cell? ⟨W.heap.size, o, none⟩ = (#[.int .i64 0, .int .i64 0, .int .i64 0, .int .i64 0, .int .i64 0, .slice none 0 0] : Array Value)[o]? := fun o => by rw [cell_of_block H3.out.2.1]
  have hfRz := fun o => frozen_of_block H3.out.2.1 o
  have hdone := putS_new H3.out.1 H3.out.2.1 (.int .i64 m.c) (.int .i64 m.d) (.int .i64 m.s) (.int .i64 m.e) (.int .i64 m.l) (.slice ta T.length tc)
  obtain ⟨wz, hwz⟩ : ∃ wz, wz = putS w3 W.heap.size (.int .i64 m.c) (.int .i64 m.d) (.int .i64 m.s) (.int .i64 m.e) (.int .i64 m.l) (.slice ta T.length tc) := ⟨_, rfl⟩
  rw [← hwz] at hdone
  obtain ⟨hd2, hd3, hd4⟩ := hdone
  have hFz : V2 (fun b => W.heap.size ≤ b) wz (.slice ta T.length tc) T := V2.mono (S := fun b => W1.heap.size ≤ b) H3.out.2.2 (fun b hb _ => by have hb : W1.heap.size ≤ b := hb; omega) (fun b hb _ => hd4 b (by have hb : W1.heap.size ≤ b := hb; omega))
  have hz0 : wz.cell? ⟨W.heap.size, 0, none⟩ = some (.int .i64 m.c) := by rw [cell_of_block hd3]; rfl
  have hz1 : wz.cell? ⟨W.heap.size, 1, none⟩ = some (.int .i64 m.d) := by rw [cell_of_block hd3]; rfl
  have hz2 : wz.cell? ⟨W.heap.size, 2, none⟩ = some (.int .i64 m.s) := by rw [cell_of_block hd3]; rfl
  have hz3 : wz.cell? ⟨W.heap.size, 3, none⟩ = some (.int .i64 m.e) := by rw [cell_of_block hd3]; rfl
  have hz4 : wz.cell? ⟨W.heap.size, 4, none⟩ = some (.int .i64 m.l) := by rw [cell_of_block hd3]; rfl
  have hz5 : wz.cell? ⟨W.heap.size, 5, none⟩ = some (.slice ta T.length tc) := by rw [cell_of_block hd3]; rfl
  have HZ := Lib.hid (And.intro hd2 (And.intro hFz (And.intro hwz (And.intro hz0 (And.intro hz1 (And.intro hz2 (And.intro hz3 (And.intro hz4 hz5)))))))); clear hd2 hd3 hd4 hFz hwz hz0 hz1 hz2 hz3 hz4 hz5
  go_wp2_with fail
  have hwz := HZ.out.2.2.1
  unfold putS putR at hwz
  rw [← hwz]
  clear hwz
  obtain ⟨hd2, hFz, hwzz, hz0, hz1, hz2, hz3, hz4, hz5⟩ := HZ.out
  clear hwzz
  exact bodyPost_ret (v := .agg #[.int .i64 m.c, .int .i64 m.d, .int .i64 m.s, .int .i64 m.e, .int .i64 m.l, .slice ta T.length tc]) (by simp [results, Tryz.results44, go_sem, hz0, hz1, hz2, hz3, hz4, hz5]) rfl ⟨m, _, T, rfl, hFz, hd2⟩
section
variable {τ σ : Type}
variable {limit : Nat} {vis1 : τ → List (List Int) → τ × Bool} {vis2 : σ → List (List Int) → σ × Bool} {f : τ → σ} {P Q : Nat → τ → Prop} {stay : List (List Int) → List Int → Bool} {keys : List (List Int)}
end
/-- As Out2, the rows' values and their blocks named. -/
def Out2x (B : Nat) (w : World) (v : Value) (ls : List (List Int)) (vs : List Value) (bk : Nat → Nat) : Prop :=
 w.ownsRow B 35 1 v ls.length vs ∧ (∀ k, k < ls.length → ∃ rv, vs[k]? = some rv ∧ X1 w rv (getl ls k) (bk k)) ∧
  (∀ k, k < ls.length → getl ls k ≠ [] → B ≤ bk k ∧ v.ownBlock ≠ some (bk k) ∧ ∀ j, j < ls.length → j ≠ k → getl ls j ≠ [] → bk j ≠ bk k)
theorem Out2x.out {B : Nat} {w : World} {v : Value} {ls : List (List Int)} {vs : List Value} {bk : Nat → Nat} (h : Out2x B w v ls vs bk) : Out2 B w v ls := ⟨vs, bk, h.1, h.2.1, h.2.2⟩
theorem Out2x.push {B : Nat} {w w2 w1 : World} {v v1 rv : Value} {ls : List (List Int)} {l : List Int} {b : Nat} {vs : List Value} {bk : Nat → Nat}
  (h : Out2x B w v ls vs bk)
  (hB : B ≤ w.heap.size) (hb : Below w.heap.size w w2) (hx : X1 w2 rv l b) (hbn : l ≠ [] → w.heap.size ≤ b)
  (hown : w1.ownsRow B 35 1 v1 (ls.length + 1) (vs ++ [rv])) (hg : w2.grownBy w1 v.ownBlock) (hblk : v1.ownBlock = v.ownBlock ∨ ∃ g, v1.ownBlock = some g ∧ w2.heap.size ≤ g) : Out2x B w1 v1 (ls ++ [l]) (vs ++ [rv]) (fun k => if k < ls.length then bk k else b) := by
 obtain ⟨h1, h2, h3⟩ := h
 have hvl : ∀ g, v.ownBlock = some g → g < w.heap.size := fun g hgg => (h1.lt g hgg).2
 have hxl : ∀ k, k < ls.length → getl ls k ≠ [] → bk k < w.heap.size := fun k hk hn => by
  obtain ⟨rv, _, h⟩ := h2 k hk; exact h.lt hn
 have hne1 : ∀ c, c < w2.heap.size → v.ownBlock ≠ some c → v1.ownBlock ≠ some c := fun c hc hn e => by
  rcases hblk with e1 | ⟨g, e1, hge⟩
  ·exact hn (e1.symm.trans e)
  ·rw [e] at e1; cases e1; omega
 have hvl1 := h1.1
 refine ⟨by simpa using hown, fun k hk => ?_, fun k hk hn => ?_⟩
 ·by_cases hkl : k < ls.length
  ·obtain ⟨rv', h4, h5⟩ := h2 k hkl
   refine ⟨rv', by rw [List.getElem?_append_left (by omega)]; exact h4, ?_⟩
   rw [getl_app1 hkl]
   simp only [hkl, if_true]
   exact h5.keep fun hn => by
    rw [hg.block _ (Nat.lt_of_lt_of_le (hxl k hkl hn) hb.size) (fun e => (h3 k hkl hn).2.1 e.symm), hb.block _ (hxl k hkl hn)]
  ·have e : k = ls.length := by simp at hk; omega
   subst e
   refine ⟨rv, by rw [List.getElem?_append_right (by omega)]; simp [show ls.length - vs.length = 0 by omega], ?_⟩
   rw [getl_app2]
   simp only [Nat.lt_irrefl, if_false]
   exact hx.keep fun hn => hg.block _ (hx.lt hn) (fun e => by have := hvl b e.symm; have := hbn hn; omega)
 ·by_cases hkl : k < ls.length
  ·rw [getl_app1 hkl] at hn
   simp only [hkl, if_true]
   obtain ⟨h4, h5, h6⟩ := h3 k hkl hn
   refine ⟨h4, hne1 _ (Nat.lt_of_lt_of_le (hxl k hkl hn) hb.size) h5, fun j hj hjk hnj => ?_⟩
   by_cases hjl : j < ls.length
   ·rw [getl_app1 hjl] at hnj
    simp only [hjl, if_true]
    exact h6 j hjl hjk hnj
   ·have e : j = ls.length := by simp at hj; omega
    subst e
    rw [getl_app2] at hnj
    simp only [Nat.lt_irrefl, if_false]
    have := hbn hnj; have := hxl k hkl hn; omega
  ·have e : k = ls.length := by simp at hk; omega
   subst e
   rw [getl_app2] at hn
   simp only [Nat.lt_irrefl, if_false]
   refine ⟨by have := hbn hn; omega, hne1 _ (hx.lt hn) (fun e => by have := hvl b e; have := hbn hn; omega), fun j hj hjk hnj => ?_⟩
   have hjl : j < ls.length := by simp at hj; omega
   rw [getl_app1 hjl] at hnj
   simp only [hjl, if_true]
   have := hbn hn; have := hxl j hjl hnj; omega
/-- The blocks that a list of lists stands in, and the one of the cell that holds it. -/
def OutF (OB : Nat) (v : Value) (ls : List (List Int)) (bk : Nat → Nat) (b : Nat) : Prop := b = OB ∨ v.ownBlock = some b ∨ ∃ k, k < ls.length ∧ getl ls k ≠ [] ∧ b = bk k
theorem Out2x.stay {B OB : Nat} {w w' : World} {v : Value} {ls : List (List Int)} {vs : List Value} {bk : Nat → Nat} (h : Out2x B w v ls vs bk) (hk : ∀ b, OutF OB v ls bk b → w'.heap[b]? = w.heap[b]?) : Out2x B w' v ls vs bk := by
 obtain ⟨h1, h2, h3⟩ := h
 refine ⟨⟨h1.1, ?_⟩, fun k hkl => ?_, h3⟩
 ·rcases h1.2 with h0 | ⟨g, cap, cur, rfl, h4, h5, h6⟩
  ·exact .inl h0
  ·exact .inr ⟨g, cap, cur, rfl, h4, by rw [hk g (.inr (.inl rfl))]; exact h5, h6⟩
 ·obtain ⟨rv, h4, h5⟩ := h2 k hkl
  exact ⟨rv, h4, h5.keep fun hn => hk _ (.inr (.inr ⟨k, hkl, hn, rfl⟩))⟩
theorem Out2x.lt {B OB : Nat} {w : World} {v : Value} {ls : List (List Int)} {vs : List Value} {bk : Nat → Nat} (h : Out2x B w v ls vs bk) (ho : OB < w.heap.size) : ∀ b, OutF OB v ls bk b → b < w.heap.size := by
 rintro b (rfl | h1 | ⟨k, h1, h2, rfl⟩)
 ·exact ho
 ·exact (h.1.lt _ h1).2
 ·obtain ⟨rv, _, h5⟩ := h.2.1 k h1
  exact h5.lt h2
/-- The blocks that a list of lists stands in. -/
def OutG (v : Value) (ls : List (List Int)) (bk : Nat → Nat) (b : Nat) : Prop := v.ownBlock = some b ∨ ∃ k, k < ls.length ∧ getl ls k ≠ [] ∧ b = bk k
theorem Out2x.lo {B : Nat} {w w' : World} {v : Value} {ls : List (List Int)} {vs : List Value} {bk : Nat → Nat} (h : Out2x B w v ls vs bk) (hk : ∀ b, OutG v ls bk b → w'.heap[b]? = w.heap[b]?) : Out2x B w' v ls vs bk := by
 obtain ⟨h1, h2, h3⟩ := h
 refine ⟨⟨h1.1, ?_⟩, fun k hkl => ?_, h3⟩
 ·rcases h1.2 with h0 | ⟨g, cap, cur, rfl, h4, h5, h6⟩
  ·exact .inl h0
  ·exact .inr ⟨g, cap, cur, rfl, h4, by rw [hk g (.inl rfl)]; exact h5, h6⟩
 ·obtain ⟨rv, h4, h5⟩ := h2 k hkl
  exact ⟨rv, h4, h5.keep fun hn => hk _ (.inr ⟨k, hkl, hn, rfl⟩)⟩
theorem OutG.push {b3 z : Nat} {v v' : Value} {ls : List (List Int)} {l : List Int} {bk : Nat → Nat} (hblk : v'.ownBlock = v.ownBlock ∨ ∃ g, v'.ownBlock = some g ∧ z ≤ g) (hb3 : l ≠ [] → z ≤ b3) :
  ∀ b, OutG v' (ls ++ [l]) (fun k => if k < ls.length then bk k else b3) b → OutG v ls bk b ∨ z ≤ b := by
 rintro b (h1 | ⟨k, h1, h2, rfl⟩)
 ·rcases hblk with e | ⟨g, e, hz⟩
  ·exact .inl (.inl (e ▸ h1))
  ·rw [e] at h1; cases h1; exact .inr hz
 ·by_cases hk : k < ls.length
  ·rw [getl_app1 hk] at h2
   simp only [hk, if_true]
   exact .inl (.inr ⟨k, hk, h2, rfl⟩)
  ·have e : k = ls.length := by simp at h1; omega
   subst e
   rw [getl_app2] at h2
   simp only [Nat.lt_irrefl, if_false]
   exact .inr (hb3 h2)
theorem F1.nil {B : Nat} {w : World} : F1 B w (.slice none 0 0) [] := ⟨0, ⟨none, 0, rfl, Nat.le_refl _, Nat.zero_le _, fun hn => absurd rfl hn⟩, fun hn => absurd rfl hn⟩
/-- The different rows of a list, as the law collects them. -/
def ddTo (cuts : List (List Int)) : Nat → List (List Int)
 | 0 => []
 | k + 1 => if hasL (ddTo cuts k) (getl cuts k) = true then ddTo cuts k else ddTo cuts k ++ [getl cuts k]
theorem mem_ddTo {cuts : List (List Int)} {x : List Int} : ∀ {k}, x ∈ ddTo cuts k ↔ ∃ i, i < k ∧ x = getl cuts i
 | 0 => by simp [ddTo]
 | k + 1 => by
   unfold ddTo
   by_cases h : hasL (ddTo cuts k) (getl cuts k) = true
   ·rw [if_pos h, mem_ddTo]
    constructor
    ·rintro ⟨i, h1, h2⟩; exact ⟨i, by omega, h2⟩
    ·rintro ⟨i, h1, h2⟩
     by_cases e : i = k
     ·subst e
      rw [h2]
      exact mem_ddTo.1 (hasL_iff.1 h)
     ·exact ⟨i, by omega, h2⟩
   ·rw [if_neg h, List.mem_append, mem_ddTo]
    constructor
    ·rintro (⟨i, h1, h2⟩ | h1)
     ·exact ⟨i, by omega, h2⟩
     ·exact ⟨k, by omega, List.mem_singleton.1 h1⟩
    ·rintro ⟨i, h1, h2⟩
     by_cases e : i = k
     ·subst e; right; exact List.mem_singleton.2 h2
     ·exact .inl ⟨i, by omega, h2⟩
theorem ddTo_nodup (cuts : List (List Int)) : ∀ k, (ddTo cuts k).Nodup
 | 0 => by simp [ddTo]
 | k + 1 => by
   unfold ddTo
   by_cases h : hasL (ddTo cuts k) (getl cuts k) = true
   ·rw [if_pos h]; exact ddTo_nodup cuts k
   ·rw [if_neg h]
    rw [List.nodup_append]
    refine ⟨ddTo_nodup cuts k, by simp, fun a ha b hb e => ?_⟩
    rw [List.mem_singleton.1 hb] at e
    exact h (hasL_iff.2 (e ▸ ha))
theorem runL_found {limit : Nat} {Q : List (List Int) → Prop} {stay : List (List Int) → List Int → Bool} {rec : List (List Int) → DSt → DSt × Bool} {cuts : List (List Int)} : ∀ (l : List (List Int)) (s : DSt),
  (∀ k ∈ l, stay cuts k = true → ∀ s : DSt, (∀ x ∈ s.2.2, Q x) → ∀ x ∈ (rec (cuts ++ [k]) s).1.2.2, Q x) → (∀ x ∈ s.2.2, Q x) → ∀ x ∈ (runL (goStep limit stay rec cuts) s l).1.2.2, Q x
 | [], s, _, hs => hs
 | k :: l, s, hr, hs => by
   have h1 : ∀ x ∈ (goStep limit stay rec cuts s k).1.2.2, Q x := by
    unfold goStep
    split
    ·exact hs
    ·split
     ·rename_i hst
      exact hr k (List.mem_cons_self ..) hst _ hs
     ·exact hs
   unfold runL
   split
   ·exact runL_found l _ (fun k hk => hr k (List.mem_cons_of_mem _ hk)) h1
   ·exact h1
theorem goF_foundD {limit n : Nat} {t keys : List (List Int)} {most : Int} {Q : List (List Int) → Prop} {P : Nat → List (List Int) → Prop} (hQ : ∀ c, P 0 c → Q c) (hP : ∀ d c k, k ∈ keys → P (d + 1) c → stayP n t c k = true → P d (c ++ [k])) : ∀ {d : Nat} {cuts : List (List Int)} {s : DSt},
  P d cuts → (∀ x ∈ s.2.2, Q x) → ∀ x ∈ (goF limit (stayP n t) (visK most) keys d cuts s).1.2.2, Q x
 | 0, cuts, s, hc, hs => by
   intro x hx
   simp only [goF, visK, List.mem_append, List.mem_singleton] at hx
   rcases hx with hx | rfl
   ·exact hs x hx
   ·exact hQ _ hc
 | d + 1, cuts, s, hc, hs => runL_found keys s (fun k hk hst s hs => goF_foundD hQ hP (hP d cuts k hk hc hst) hs) hs
theorem stay_nil {n : Nat} {t c : List (List Int)} {k : List Int} (h : stayP n t c k = true) : falseL n t (c ++ [k]) = [] := by
 unfold stayP openP at h
 exact List.eq_nil_of_length_eq_zero (of_decide_eq_true h)
theorem Out3.nil {B : Nat} {w : World} : Out3 B (fun _ => 0) (fun _ => 0) w (.slice none 0 0) [] [] := ⟨⟨rfl, .inl ⟨rfl, rfl⟩⟩, fun k hk => by simp at hk, fun k hk => by simp at hk⟩
theorem pick_mem {F : DSt} {d : List (List Int)} {k : Int} (h : pickA F = (d, k, 0)) : (∃ ds, F.2.2 = d :: ds) ∧ k = (F.1 : Int) := by
 unfold pickA at h
 split at h
 ·rename_i x xs hx
  injection h with h1 h2
  injection h2 with h2 h3
  subst h1
  exact ⟨⟨xs, hx⟩, h2.symm⟩
 ·split at h <;> cases h
theorem find_law {m : Mk} {t cuts d : List (List Int)} {k limit : Int} (h : findAns m t cuts limit = (d, k, 0)) : designB m t d = true ∧ cuts.length ≤ d.length ∧ d.take cuts.length = cuts ∧ k ≤ limit := by
 unfold findAns at h
 split at h
 ·rename_i h0; exact absurd (congrArg (fun x => x.2.2) h) h0
 ·rename_i h0
  have hok := searchC_ok.1 (Decidable.not_not.1 h0)
  have hfew := hok.1.few
  obtain ⟨⟨ds, hds⟩, hk⟩ := pick_mem h
  have hde := firstF_des (n := m.c.toNat) (most := 1) (limit := limit.toNat) hok.1 d (by rw [hds]; exact List.mem_cons_self ..)
  have hle : (firstF m.c.toNat t (keysOf m) cuts 1 limit.toNat).1 ≤ limit.toNat := by unfold firstF; rw [if_pos (by omega)]; exact goF_le (Nat.zero_le _)
  have hpre : (cuts <+: d) ∧ d.length = t.length ∧ falseL m.c.toNat t d = [] := by
   have h1 : ∀ x ∈ (firstF m.c.toNat t (keysOf m) cuts 1 limit.toNat).2.2, (cuts <+: x) ∧ x.length = t.length ∧ falseL m.c.toNat t x = [] := by
    unfold firstF
    rw [if_pos (by omega)]
    refine goF_foundD (P := fun e c => (cuts <+: c) ∧ c.length + e = t.length ∧ falseL m.c.toNat t c = []) (fun c hc => ⟨hc.1, by have := hc.2.1; omega, hc.2.2⟩) ?_ ⟨List.prefix_refl _, by omega, hok.2.2⟩ (fun x hx => by cases hx)
    rintro e c q _ ⟨g1, g2, _⟩ hst
    exact ⟨g1.trans (List.prefix_append _ _), by rw [List.length_append]; simp only [List.length_cons, List.length_nil]; omega, stay_nil hst⟩
   exact h1 d (by rw [hds]; exact List.mem_cons_self ..)
  refine ⟨designB_ok.2 ⟨cutC_ok.2 ⟨hde.part.sys, hpre.2.1, hde.part.keys⟩, by rw [hpre.2.2]; rfl⟩, hpre.1.length_le, ?_, ?_⟩
  ·exact (List.prefix_iff_eq_take.1 hpre.1).symm
  ·rw [hk]; omega
def sumTo (l : List Int) : Nat → Int
 | 0 => 0
 | k + 1 => sumTo l k + geti l k
def comTo (a b : List Int) : Nat → Nat
 | 0 => 0
 | k + 1 => if geti a k = 1 ∧ geti b k = 1 then comTo a b k + 1 else comTo a b k
def inTo (a b : List Int) : Nat → Bool
 | 0 => true
 | k + 1 => inTo a b k && decide (geti a k ≤ geti b k)
def inR (a b : List Int) : Bool := inTo a b a.length
def Bits (l : List Int) : Prop := ∀ j, j < l.length → geti l j = 0 ∨ geti l j = 1
theorem sumTo_bits {l : List Int} (h : Bits l) : ∀ k, k ≤ l.length → 0 ≤ sumTo l k ∧ sumTo l k ≤ k
 | 0, _ => by simp [sumTo]
 | k + 1, hk => by
   have := sumTo_bits h k (by omega)
   have := h k (by omega)
   unfold sumTo
   omega
theorem comTo_le (a b : List Int) : ∀ k, comTo a b k ≤ k
 | 0 => by simp [comTo]
 | k + 1 => by
   have := comTo_le a b k
   unfold comTo
   split <;> omega
theorem com_sum {a b : List Int} (ha : Bits a) (hb : Bits b) (hl : a.length = b.length) : ∀ k, k ≤ a.length → (comTo a b k : Int) ≤ sumTo a k ∧ ((comTo a b k : Int) = sumTo a k ↔ inTo a b k = true)
 | 0, _ => by simp [comTo, sumTo, inTo]
 | k + 1, hk => by
   obtain ⟨h1, h2⟩ := com_sum ha hb hl k (by omega)
   have hx := ha k (by omega)
   have hy := hb k (by omega)
   unfold comTo sumTo inTo
   rw [Bool.and_eq_true, decide_eq_true_iff]
   by_cases hc : geti a k = 1 ∧ geti b k = 1
   ·rw [if_pos hc, hc.1, hc.2]
    refine ⟨by omega, ?_⟩
    rw [← h2]
    omega
   ·rw [if_neg hc]
    refine ⟨by omega, ?_⟩
    rw [← h2]
    constructor
    ·intro he; omega
    ·rintro ⟨he, hle⟩; omega
theorem in_sum {a b : List Int} : ∀ k, inTo a b k = true → sumTo a k ≤ sumTo b k ∧ (sumTo a k = sumTo b k → ∀ j, j < k → geti a j = geti b j)
 | 0, _ => ⟨by simp [sumTo], fun _ j hj => by omega⟩
 | k + 1, h => by
   unfold inTo at h
   rw [Bool.and_eq_true, decide_eq_true_iff] at h
   obtain ⟨h1, h2⟩ := in_sum k h.1
   unfold sumTo
   refine ⟨by omega, fun he j hj => ?_⟩
   by_cases e : j = k
   ·subst e; omega
   ·exact h2 (by omega) j (by omega)
theorem list_ext {a b : List Int} (hl : a.length = b.length) (h : ∀ j, j < a.length → geti a j = geti b j) : a = b := by
 apply List.ext_getElem hl
 intro i h1 h2
 have := h i h1
 rwa [geti_eq h1, geti_eq h2] at this
theorem in_strict {a b : List Int} (hl : a.length = b.length) (h : inR a b = true) (hn : a ≠ b) : sumTo a a.length < sumTo b b.length := by
 obtain ⟨h1, h2⟩ := in_sum a.length h
 rw [← hl]
 by_cases e : sumTo a a.length = sumTo b a.length
 ·exact absurd (list_ext hl (h2 e)) hn
 ·omega
def mxTo (p : Nat → Bool) (g : Nat → Int) : Nat → Int
 | 0 => 0
 | k + 1 => if p k = true then max (mxTo p g k) (g k) else mxTo p g k
theorem mxTo_congr {p : Nat → Bool} {g g' : Nat → Int} : ∀ k, (∀ i, i < k → p i = true → g i = g' i) → mxTo p g k = mxTo p g' k
 | 0, _ => rfl
 | k + 1, h => by
   unfold mxTo
   rw [mxTo_congr k (fun i hi => h i (by omega))]
   by_cases hp : p k = true
   ·rw [if_pos hp, if_pos hp, h k (by omega) hp]
   ·rw [if_neg hp, if_neg hp]
theorem mxTo_char {p : Nat → Bool} {g : Nat → Int} : ∀ k, 0 ≤ mxTo p g k ∧ (∀ i, i < k → p i = true → g i ≤ mxTo p g k) ∧ (mxTo p g k = 0 ∨ ∃ i, i < k ∧ p i = true ∧ mxTo p g k = g i)
 | 0 => ⟨by simp [mxTo], fun i hi => by omega, .inl rfl⟩
 | k + 1 => by
   obtain ⟨h0, h1, h2⟩ := mxTo_char (p := p) (g := g) k
   unfold mxTo
   by_cases hp : p k = true
   ·rw [if_pos hp]
    refine ⟨by omega, fun i hi hpi => ?_, ?_⟩
    ·by_cases e : i = k
     ·subst e; omega
     ·have := h1 i (by omega) hpi; omega
    ·by_cases hm : mxTo p g k ≤ g k
     ·exact .inr ⟨k, by omega, hp, by omega⟩
     ·rcases h2 with h2 | ⟨i, hi, hpi, e⟩
      ·exact .inl (by omega)
      ·exact .inr ⟨i, by omega, hpi, by omega⟩
   ·rw [if_neg hp]
    refine ⟨h0, fun i hi hpi => ?_, ?_⟩
    ·by_cases e : i = k
     ·subst e; exact absurd hpi hp
     ·exact h1 i (by omega) hpi
    ·rcases h2 with h2 | ⟨i, hi, hpi, e⟩
     ·exact .inl h2
     ·exact .inr ⟨i, by omega, hpi, e⟩
def strictB (t : List (List Int)) (r i : Nat) : Bool := inR (getl t i) (getl t r) && !decide (getl t i = getl t r)
def chF (t : List (List Int)) : Nat → Nat → Int
 | 0, _ => 1
 | f + 1, r => mxTo (strictB t r) (chF t f) t.length + 1
/-- All rows are as long as the first one, at most 12, and hold 0 and 1. -/
structure Tab (t : List (List Int)) : Prop where
 len : ∀ k, k < t.length → (getl t k).length = (getl t 0).length
 few : (getl t 0).length ≤ 12
 bits : ∀ k, k < t.length → Bits (getl t k)
def ones (t : List (List Int)) (r : Nat) : Nat := (sumTo (getl t r) (getl t r).length).toNat
theorem ones_le {t : List (List Int)} (T : Tab t) {r : Nat} (hr : r < t.length) : ones t r ≤ 12 ∧ (ones t r : Int) = sumTo (getl t r) (getl t r).length := by
 have := sumTo_bits (T.bits r hr) _ (Nat.le_refl _)
 have := T.len r hr
 have := T.few
 unfold ones
 omega
theorem strict_ones {t : List (List Int)} (T : Tab t) {r i : Nat} (hr : r < t.length) (hi : i < t.length) (h : strictB t r i = true) : ones t i < ones t r := by
 unfold strictB at h
 rw [Bool.and_eq_true, Bool.not_eq_true', decide_eq_false_iff_not] at h
 have := in_strict (by rw [T.len i hi, T.len r hr]) h.1 h.2
 have := (ones_le T hr).2
 have := (ones_le T hi).2
 omega
theorem chF_enough {t : List (List Int)} (T : Tab t) : ∀ (f f' r : Nat), r < t.length → ones t r ≤ f → ones t r ≤ f' → chF t f r = chF t f' r := by
 have h0 : ∀ f r, r < t.length → ones t r = 0 → chF t f r = 1 := fun f r hr ho => by
  cases f with
  | zero => rfl
  | succ f =>
    unfold chF
    rcases (mxTo_char (p := strictB t r) (g := chF t f) t.length).2.2 with h | ⟨i, hi, hp, _⟩
    ·rw [h]; rfl
    ·have := strict_ones T hr hi hp; omega
 intro f
 induction f with
 | zero =>
   intro f' r hr h1 h2
   rw [h0 0 r hr (by omega), h0 f' r hr (by omega)]
 | succ f ih =>
   intro f' r hr h1 h2
   cases f' with
   | zero => rw [h0 _ r hr (by omega), h0 _ r hr (by omega)]
   | succ f' =>
     unfold chF
     rw [mxTo_congr t.length (fun i hi hp => ih f' i hi (by have := strict_ones T hr hi hp; omega) (by have := strict_ones T hr hi hp; omega))]
def ch (t : List (List Int)) (r : Nat) : Int := chF t 12 r
theorem ch_eq {t : List (List Int)} (T : Tab t) {r : Nat} (hr : r < t.length) : ch t r = mxTo (strictB t r) (ch t) t.length + 1 := by
 have h := (ones_le T hr).1
 unfold ch
 rw [chF_enough T 12 13 r hr (by omega) (by omega)]
 rfl
theorem chF_bound (t : List (List Int)) : ∀ f r, 1 ≤ chF t f r ∧ chF t f r ≤ f + 1
 | 0, r => by simp [chF]
 | f + 1, r => by
   unfold chF
   obtain ⟨h0, _, h2⟩ := mxTo_char (p := strictB t r) (g := chF t f) t.length
   rcases h2 with h | ⟨i, _, _, e⟩
   ·rw [h]; omega
   ·have := chF_bound t f i; rw [e]; omega
theorem ch_bound (t : List (List Int)) (r : Nat) : 1 ≤ ch t r ∧ ch t r ≤ 13 := chF_bound t 12 r
theorem mx_bound {t : List (List Int)} {p : Nat → Bool} : ∀ k, 0 ≤ mxTo p (ch t) k ∧ mxTo p (ch t) k ≤ 13
 | 0 => by simp [mxTo]
 | k + 1 => by
   have := mx_bound (t := t) (p := p) k
   have := ch_bound t k
   unfold mxTo
   split <;> omega
def longest (t : List (List Int)) : Int := mxTo (fun _ => true) (ch t) t.length
theorem inTo_false {a b : List Int} {k : Nat} (h : ¬ geti a k ≤ geti b k) : ∀ {n}, k < n → inTo a b n = false
 | 0, hk => by omega
 | n + 1, hk => by
   unfold inTo
   by_cases e : k = n
   ·subst e; rw [decide_eq_false h, Bool.and_false]
   ·rw [inTo_false h (by omega), Bool.false_and]
theorem l11In_q {S S' : Nat → Prop} (va vb : Value) (a b : List Int) (W : World) (ha : V1 S W va a) (hb : V1 S' W vb b) (hl : a.length = b.length) :
  Calls Tryz.prog 240 #[va, vb] W fun e' w' => e' = .returned (.bool (inR a b)) ∧ ∃ n, w' = W.drewN n := by
 have hA := ha
 have hB := hb
 obtain ⟨pa, ca, rfl, hma⟩ := ha.form
 obtain ⟨pb, cb, rfl, hmb⟩ := hb.form
 obtain ⟨r, hr⟩ : ∃ r, inR a b = r := ⟨_, rfl⟩
 rw [hr]
 have Hr := Lib.hid hr; clear hr
 have Hl := Lib.hid hl; clear hl
 go_enter Tryz.func240, Tryz.ntmps240
 go_wp2_with fail
 go_loopw [5] (fun i wr => ∃ (k n : Nat), k ≤ a.length ∧ i = .int .i64 (k : Int) ∧ inTo a b k = true ∧ wr = W.drewN n) (fun i _ => a.length - (intOf i).toNat)
 case atStart => exact ⟨0, 0, Nat.zero_le _, rfl, rfl, rfl⟩
 case round =>
  obtain ⟨k, n, hk, rfl, hin, rfl⟩ := hrel
  have Hin := Lib.hid hin; clear hin
  by_cases hkk : k < a.length
  ·have hkb : k < b.length := by rw [← Hl.out]; exact hkk
   obtain ⟨b1, off1, rfl, _, hc1⟩ := hA.cell hkk
   obtain ⟨b2, off2, rfl, _, hc2⟩ := hB.cell hkb
   by_cases hgt : geti b k < geti a k
   ·have hfin : r = false := by rw [← Hr.out]; exact inTo_false (by omega) hkk
    subst hfin
    have hgd : decide (geti b k < geti a k) = true := decide_eq_true hgt
    go_wp2_with fail
    go_quiet (fail)
    go_wp2_with fail
    go_ret
    exact ⟨rfl, _, by first | rfl | rw [World.drewN_drewN]⟩
   ·have hgd : decide (geti b k < geti a k) = false := decide_eq_false hgt
    have hle : geti a k ≤ geti b k := by omega
    have Hle := Lib.hid hle; clear hle hgt
    go_wp2_with fail
    go_quiet (fail)
    go_wp2_with fail
    go_roundw
    case rel => exact ⟨k + 1, _, by omega, by go_num, by rw [inTo, Hin.out, decide_eq_true Hle.out]; rfl, by first | rfl | rw [World.drewN_drewN]⟩
    case measure => simp [intOf]; omega
  ·obtain rfl : k = a.length := by omega
   have hfin : r = true := by rw [← Hr.out]; exact Hin.out
   subst hfin
   go_wp2_with fail
   go_ret
   exact ⟨rfl, _, rfl⟩
theorem l11In_b {S S' : Nat → Prop} (va vb : Value) (a b : List Int) (W : World) (r : Bool) (hr : inR a b = r) (ha : V1 S W va a) (hb : V1 S' W vb b) (hl : a.length = b.length) :
  Calls Tryz.prog 240 #[va, vb] W fun e' w' => e' = .returned (.bool r) ∧ ∃ n, w' = W.drewN n := by subst hr; exact l11In_q va vb a b W ha hb hl
theorem l20Chain_any {S : Nat → Prop} {t : List (List Int)} (T : Tab t) (v : Value) : ∀ (m r : Nat) (W : World), V2 S W v t → r < t.length → ones t r < m →
  Calls Tryz.prog 159 #[v, .int .i64 r] W fun e' w' => e' = .returned (.int .i64 (ch t r)) ∧ ∃ n, w' = W.drewN n := by
 intro m
 induction m with
 | zero =>
   intro r W h hr h0
   omega
 | succ m ih =>
   intro r W h hr h0
   have hV := h
   obtain ⟨a, c, rfl, hmx⟩ := h.form
   have hch := ch_eq T hr
   obtain ⟨ans, hans⟩ : ∃ x, ch t r = x := ⟨_, rfl⟩
   rw [hans] at hch ⊢
   have Hch := Lib.hid hch
   have Hst := Lib.hid (fun i (hi : i < t.length) (h : strictB t r i = true) => strict_ones T hr hi h)
   have Hlen := Lib.hid T.len
   have Ih := Lib.hid ih
   clear hch hans ih
   obtain ⟨b2, off2, a2, c2, rfl, _, hc2, hr2⟩ := hV.cell hr
   have hl2 := hr2.len
   unfold maxLen at hl2
   go_enter Tryz.func159, Tryz.ntmps159
   go_wp2_with fail
   go_loopw [5, 6] (fun s i wr => ∃ (k n : Nat), k ≤ t.length ∧ i = .int .i64 (k : Int) ∧ s = .int .i64 (mxTo (strictB t r) (ch t) k) ∧ wr = W.drewN n) (fun _ i _ => t.length - (intOf i).toNat)
   case atStart => exact ⟨0, 0, Nat.zero_le _, rfl, rfl, rfl⟩
   case round =>
    obtain ⟨k, n, hk, rfl, rfl, rfl⟩ := hrel
    have hmb := mx_bound (t := t) (p := strictB t r) k
    by_cases hkk : k < t.length
    ·obtain ⟨b1, off1, a1, c1, e1, _, hc1, hr1⟩ := hV.cell hkk
     simp only [Option.some.injEq, Addr.mk.injEq, and_true] at e1
     obtain ⟨rfl, rfl⟩ := e1
     have hle : (getl t k).length = (getl t r).length := by rw [Hlen.out k hkk, Hlen.out r hr]
     have Hle := Lib.hid hle; clear hle
     have hl1 := hr1.len
     unfold maxLen at hl1
     cases hin : inR (getl t k) (getl t r)
     ·have hst : mxTo (strictB t r) (ch t) (k + 1) = mxTo (strictB t r) (ch t) k := by rw [mxTo, if_neg (by simp [strictB, hin])]
      have HS := Lib.hid hst; clear hst
      have Hin := Lib.hid hin; clear hin
      go_wp2_with fail
      go_quiet ((go_at_call 240; exact quiet_at (l11In_b _ _ _ _ _ _ Hin.out (V1.drewN hr1) (V1.drewN hr2) Hle.out)))
      go_wp2_with fail
      go_roundw
      case rel => exact ⟨k + 1, _, by omega, by go_num, by rw [HS.out], by first | rfl | rw [World.drewN_drewN]⟩
      case measure => simp [intOf]; omega
     ·by_cases hsm : getl t k = getl t r
      ·have hst : mxTo (strictB t r) (ch t) (k + 1) = mxTo (strictB t r) (ch t) k := by rw [mxTo, if_neg (by simp [strictB, hsm])]
       have HS := Lib.hid hst; clear hst
       have Hin := Lib.hid hin; clear hin
       have Hsm := Lib.hid (decide_eq_true hsm); clear hsm
       go_wp2_with fail
       go_quiet (first | (go_at_call 240; exact quiet_at (l11In_b _ _ _ _ _ _ Hin.out (V1.drewN hr1) (V1.drewN hr2) Hle.out)) | (go_at_call 241; exact quiet_at (l01Same_b _ _ _ _ _ _ Hsm.out (V1.drewN hr1) (V1.drewN hr2))))
       go_wp2_with fail
       go_roundw
       case rel => exact ⟨k + 1, _, by omega, by go_num, by rw [HS.out], by first | rfl | rw [World.drewN_drewN]⟩
       case measure => simp [intOf]; omega
      ·have hsb : strictB t r k = true := by simp [strictB, hsm, hin]
       have hst : mxTo (strictB t r) (ch t) (k + 1) = max (mxTo (strictB t r) (ch t) k) (ch t k) := by rw [mxTo, if_pos hsb]
       have hon := Hst.out k hkk hsb
       have HS := Lib.hid hst; clear hst hsb
       have Hin := Lib.hid hin; clear hin
       have Hsm := Lib.hid (decide_eq_false hsm); clear hsm
       go_wp2_with fail
       go_quiet (first | (go_at_call 240; exact quiet_at (l11In_b _ _ _ _ _ _ Hin.out (V1.drewN hr1) (V1.drewN hr2) Hle.out)) | (go_at_call 241; exact quiet_at (l01Same_b _ _ _ _ _ _ Hsm.out (V1.drewN hr1) (V1.drewN hr2))))
       go_wp2_with fail
       refine (Ih.out k _ (V2.drewN hV) hkk (by omega)).mono ?_
       rintro e' w2 ⟨rfl, n2, rfl⟩
       generalize mxTo (strictB t r) (ch t) k = mm at *
       generalize ch t k = cc at *
       go_wp2_with fail
       go_roundw
       case rel => exact ⟨k + 1, _, by omega, by go_num, by rw [HS.out] <;> (congr 1; split <;> omega), by first | rfl | simp only [World.drewN_drewN]⟩
       case measure => simp [intOf]; omega
    ·obtain rfl : k = t.length := by omega
     rw [show mxTo (strictB t r) (ch t) t.length = ans - 1 by rw [Hch.out]; omega] at *
     have hw : wrap64 (ans - 1 + 1) = ans := by rw [show ans - 1 + 1 = ans by omega]; exact IntWalk.wrap64_in _ (by omega)
     go_wp2_with fail
     go_ret
     exact ⟨by first | rfl | (congr 2; omega) | (simp), _, rfl⟩
theorem tab_of {t : List (List Int)} (h : isTab t = true) : Tab t := by
 obtain ⟨h1, h2⟩ := isTab_iff.1 h
 refine ⟨fun k hk => (h2 k hk).1, (h2 0 (by omega)).2.1.2, fun k hk j hj => ?_⟩
 have := (h2 k hk).2.2 _ (geti_mem hj)
 omega
def longAns (t : List (List Int)) : Int × Int := if isTab t = true then (longest t, 0) else (0, 1)
theorem LongestChainR_any {S : Nat → Prop} (v : Value) (t : List (List Int)) (W : World) (h : V2 S W v t) :
  Calls Tryz.prog 51 #[v] W fun e' w' => e' = .returned (.tuple #[.int .i64 (longAns t).1, .int .i64 (longAns t).2]) ∧ ∃ n, w' = W.drewN n := by
 have hV := h
 obtain ⟨a, c, rfl, hmx⟩ := h.form
 cases ht : isTab t
 ·have ha : longAns t = (0, 1) := by simp [longAns, ht]
  rw [ha]
  have HT := Lib.hid ht; clear ht ha
  go_enter Tryz.func51, Tryz.ntmps51
  go_wp2_with (go_at_call 158; refine (isTableR_b _ _ _ _ HT.out h).mono ?_; rintro e' w' ⟨rfl, n, rfl⟩)
  go_ret2
  exact ⟨rfl, _, rfl⟩
 ·have ha : longAns t = (longest t, 0) := by simp [longAns, ht]
  have T := tab_of ht
  obtain ⟨ans, hans⟩ : ∃ x, longest t = x := ⟨_, rfl⟩
  rw [ha, hans]
  have Hans := Lib.hid hans
  have HT := Lib.hid ht; clear ht ha hans
  have Hon := Lib.hid (fun k (hk : k < t.length) => (ones_le T hk).1)
  go_enter Tryz.func51, Tryz.ntmps51
  go_wp2_with (go_at_call 158; refine (isTableR_b _ _ _ _ HT.out h).mono ?_; rintro e' w' ⟨rfl, n, rfl⟩)
  go_loopw [4, 5] (fun s i wr => ∃ (k n : Nat), k ≤ t.length ∧ i = .int .i64 (k : Int) ∧ s = .int .i64 (mxTo (fun _ => true) (ch t) k) ∧ wr = W.drewN n) (fun _ i _ => t.length - (intOf i).toNat)
  case atStart => exact ⟨0, _, Nat.zero_le _, rfl, rfl, rfl⟩
  case round =>
   obtain ⟨k, n, hk, rfl, rfl, rfl⟩ := hrel
   have hmb := mx_bound (t := t) (p := fun _ => true) k
   by_cases hkk : k < t.length
   ·have hst : mxTo (fun _ => true) (ch t) (k + 1) = max (mxTo (fun _ => true) (ch t) k) (ch t k) := by rw [mxTo, if_pos rfl]
    have HS := Lib.hid hst; clear hst
    go_wp2_with fail
    refine (l20Chain_any T _ 13 k _ (V2.drewN hV) hkk (by have := Hon.out k hkk; omega)).mono ?_
    rintro e' w2 ⟨rfl, n2, rfl⟩
    generalize mxTo (fun _ => true) (ch t) k = mm at *
    generalize ch t k = cc at *
    go_wp2_with fail
    go_roundw
    case rel => exact ⟨k + 1, _, by omega, by go_num, by rw [HS.out] <;> (congr 1; split <;> omega), by first | rfl | simp only [World.drewN_drewN]⟩
    case measure => simp [intOf]; omega
   ·obtain rfl : k = t.length := by omega
    rw [show mxTo (fun _ => true) (ch t) t.length = ans from Hans.out] at *
    go_wp2_with fail
    go_ret2
    exact ⟨rfl, _, rfl⟩
def tightAns (m : Mk) (t : List (List Int)) : Bool × Int := (decide ((spareAns m t).1 < 0), (spareAns m t).2)
theorem spareAns_code (m : Mk) (t : List (List Int)) : (spareAns m t).2 = 0 ∨ ((spareAns m t).2 = 1 ∧ (spareAns m t).1 = 0) := by
 unfold spareAns; split
 ·exact .inl rfl
 ·exact .inr ⟨rfl, rfl⟩
set_option maxRecDepth 100000 in
theorem IsTooTight_any {S : Nat → Prop} (m : Mk) (u : Value) (t : List (List Int)) (W : World) (h : V2 S W u t) :
  Calls Tryz.prog 45 #[.agg #[.int .i64 m.c, .int .i64 m.d, .int .i64 m.s, .int .i64 m.e, .int .i64 m.l, u]] W fun e' w' => e' = .returned (.tuple #[.bool (tightAns m t).1, .int .i64 (tightAns m t).2]) ∧ Below W.heap.size W w' := by
 have hV := h
 obtain ⟨a, c, rfl, hmx⟩ := h.form
 obtain ⟨W1, hW1, hB01, hz01, HZ01, hc01, hh01⟩ := box_facts W #[.int .i64 m.c, .int .i64 m.d, .int .i64 m.s, .int .i64 m.e, .int .i64 m.l, .slice a t.length c] 28
 have hV1 : V2 (fun _ => True) W1 (.slice a t.length c) t := (hV.below hB01).mono (fun _ _ _ => trivial) (fun _ _ _ => rfl)
 unfold tightAns
 have hS := SpareKeys_any m _ t W1 hV1
 generalize spareAns m t = r at *
 obtain ⟨n, k⟩ := r
 go_enter Tryz.func45, Tryz.ntmps45
 go_wp2_with fail
 rw [← hW1]
 refine hS.mono ?_
 rintro e' w2 ⟨rfl, hb2⟩
 clear hc01 hh01
 go_wp2_with fail
 go_ret2
 exact ⟨rfl, hB01.trans (hb2.mono (by omega))⟩
set_option maxRecDepth 100000 in
theorem IsTooTightR_any {S : Nat → Prop} (m : Mk) (u : Value) (t : List (List Int)) (W : World) (h : V2 S W u t) :
  Calls Tryz.prog 46 #[.agg #[.int .i64 m.c, .int .i64 m.d, .int .i64 m.s, .int .i64 m.e, .int .i64 m.l, u]] W fun e' w' => e' = .returned (.tuple #[.bool (tightAns m t).1, .int .i64 (tightAns m t).2]) ∧ Below W.heap.size W w' := by
 have hV := h
 obtain ⟨a, c, rfl, hmx⟩ := h.form
 obtain ⟨W1, hW1, hB01, hz01, HZ01, hc01, hh01⟩ := box_facts W #[.int .i64 m.c, .int .i64 m.d, .int .i64 m.s, .int .i64 m.e, .int .i64 m.l, .slice a t.length c] 28
 have hV1 : V2 (fun _ => True) W1 (.slice a t.length c) t := (hV.below hB01).mono (fun _ _ _ => trivial) (fun _ _ _ => rfl)
 unfold tightAns
 have hS := SpareKeysR_any m _ t W1 hV1
 have hcode := spareAns_code m t
 generalize spareAns m t = r at *
 obtain ⟨n, k⟩ := r
 simp only at hcode
 rcases hcode with rfl | ⟨rfl, rfl⟩
 all_goals
  go_enter Tryz.func46, Tryz.ntmps46
  go_wp2_with fail
  rw [← hW1]
  refine hS.mono ?_
  rintro e' w2 ⟨rfl, hb2⟩
  clear hc01 hh01
  go_wp2_with fail
  go_ret2
  exact ⟨rfl, hB01.trans (hb2.mono (by omega))⟩
end Go.Proofs.YtmaefilliggjiaaGreat
