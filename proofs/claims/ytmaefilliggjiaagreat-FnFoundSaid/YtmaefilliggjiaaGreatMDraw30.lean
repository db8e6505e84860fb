/- The reference's draw of a system, the beginning of a design and a limit. No conditions. -/
import Derived.Test.YtmaefilliggjiaaGreatMDraw27
import Derived.Test.YtmaefilliggjiaaGreatMDraw14
namespace Go.Proofs.YtmaefilliggjiaaGreat
open Go.RowKit
set_option linter.unusedVariables false
set_option linter.unusedSimpArgs false
set_option maxRecDepth 100000 in
set_option maxHeartbeats 4000000 in
theorem DrawFindFrom_any {S : Nat → Prop} (v : Value) (l : List Int) (W : World) (h : VB S W v l) :
  Calls Tryz.prog 65 #[v] W (DrawNd W) := by
 obtain ⟨a, c, rfl, hm⟩ := h.form
 obtain ⟨W1, hW1, hB01, hz01, HZ01, _, hh01⟩ := box_facts W #[.int .i64 0, .int .i64 0, .int .i64 0, .int .i64 0, .int .i64 0, .slice none 0 0] 28
 have hz1e := HZ01.out
 have hz1l : W1.heap.size ≤ W.heap.size + 1 := by omega
 have HL := Lib.hid (And.intro (h.below hB01) (And.intro hB01 (And.intro hh01 hW1))); clear h hh01 hB01 hz1e
 go_enter Tryz.func65, Tryz.ntmps65
 go_wp2_with fail
 rw [← HL.out.2.2.2]
 clear hW1
 refine (l01From_any _ l W1 HL.out.1).mono ?_
 rintro e' w2 ⟨rfl, hs2, hb2⟩
 have hz2 := hb2.size
 have hz12 : W1.heap.size < w2.heap.size := hs2.lt
 have H2 := Lib.hid (And.intro hs2 (And.intro hb2 ((hb2.block _ hz01).trans HL.out.2.2.1))); clear hs2 hb2
 go_wp2_with fail
 refine (l01Next_any _ _ 8 _ H2.out.1).mono ?_
 rintro e' wq ⟨q, rfl, ⟨hq0, hq1⟩, hsq, hoq⟩
 have hzq := hoq.size
 have Hq := Lib.hid (And.intro hsq (And.intro (HL.out.2.1.trans ((H2.out.2.1.trans (hoq.to_below (Nat.le_refl _) (by omega))).mono (by omega))) (hoq.heap H2.out.2.2 (fun e => by omega)))); clear hsq hoq
 by_cases hq : q = 0
 ·subst hq
  clear hq0 hq1
  go_wp2_with fail
  refine (l16Draw_any _ _ wq Hq.out.1).mono ?_
  rintro e' w3 ⟨m, u, cv, T, cuts, rfl, hsm, hu, hcv, hpv, hs3, ho3⟩
  have hz3 := ho3.size
  obtain ⟨ta, tc, rfl, _⟩ := hu.form
  obtain ⟨ca, cc, rfl, _⟩ := hcv.form
  obtain ⟨w4, hw4⟩ : ∃ w4, w4 = w3.alloc (.cells #[.int .i64 m.c, .int .i64 m.d, .int .i64 m.s, .int .i64 m.e, .int .i64 m.l, .slice ta T.length tc] 28) := ⟨_, rfl⟩
  have hb34 : Below w3.heap.size w3 w4 := by rw [hw4]; exact (Below.refl _ _).alloc (Nat.le_refl _) _
  have hM4 : w4.heap[w3.heap.size]? = some (.cells #[.int .i64 m.c, .int .i64 m.d, .int .i64 m.s, .int .i64 m.e, .int .i64 m.l, .slice ta T.length tc] 28 (0, 0)) := by rw [hw4]; exact heap_alloc_self _ _
  have HD4 := Lib.hid (NdAt.mk (W := W) (W1 := W1) (w2 := w2) (w3 := w3) (hs3.below hb34) (Hq.out.2.1.trans (((ho3.to_below (B := W1.heap.size) (Nat.le_refl _) (by omega)).trans (hb34.mono (by omega))).mono (by omega))) hM4 ((hb34.block _ (by omega)).trans (ho3.heap Hq.out.2.2 (fun e => by omega))) ((hu.mono (S' := fun b => w2.heap.size ≤ b) (fun b hb _ => by have hb : wq.heap.size ≤ b := hb; show w2.heap.size ≤ b; omega) (fun _ _ _ => rfl)).below hb34))
  have HC4 := Lib.hid (And.intro ((hcv.mono (S' := fun b => w2.heap.size ≤ b) (fun b hb _ => by have hb : wq.heap.size ≤ b := hb; show w2.heap.size ≤ b; omega) (fun _ _ _ => rfl)).below hb34) (And.intro hpv hw4))
  clear hs3 ho3 hb34 hM4 hu hcv hpv hw4 hsm
  go_wp2_with fail
  rw [← HC4.out.2.2]
  have hcM : ∀ o, w4.cell? ⟨w3.heap.size, o, none⟩ = (#[.int .i64 m.c, .int .i64 m.d, .int .i64 m.s, .int .i64 m.e, .int .i64 m.l, .slice ta T.length tc] : Array Value)[o]? := fun o => by rw [cell_of_block HD4.out.hm]
  have hSk : ∀ w' : World, w'.heap[w3.heap.size]? = w4.heap[w3.heap.size]? → w'.cell? ⟨w3.heap.size, 0, none⟩ = some (.int .i64 m.c) ∧ w'.cell? ⟨w3.heap.size, 1, none⟩ = some (.int .i64 m.d) ∧ w'.cell? ⟨w3.heap.size, 2, none⟩ = some (.int .i64 m.s) ∧ w'.cell? ⟨w3.heap.size, 3, none⟩ = some (.int .i64 m.e) ∧ w'.cell? ⟨w3.heap.size, 4, none⟩ = some (.int .i64 m.l) ∧ w'.cell? ⟨w3.heap.size, 5, none⟩ = some (.slice ta T.length tc) := fun w' hw => by
   refine ⟨?_, ?_, ?_, ?_, ?_, ?_⟩ <;> exact cell_keep (hcM _) hw
  have hMl := lt_of_heap HD4.out.hm
  have hRl := lt_of_heap HD4.out.hr
  refine wp_region_noPanic ?_
  refine wp_region_held_drew (S := fun w' => w'.cell? ⟨w3.heap.size, 0, none⟩ = some (.int .i64 m.c) ∧ w'.cell? ⟨w3.heap.size, 1, none⟩ = some (.int .i64 m.d) ∧ w'.cell? ⟨w3.heap.size, 2, none⟩ = some (.int .i64 m.s) ∧ w'.cell? ⟨w3.heap.size, 3, none⟩ = some (.int .i64 m.e) ∧ w'.cell? ⟨w3.heap.size, 4, none⟩ = some (.int .i64 m.l) ∧ w'.cell? ⟨w3.heap.size, 5, none⟩ = some (.slice ta T.length tc)) (by kernel_rfl) (hSk w4.drew rfl) (fun hHeld => ?_)
  (refine wpAnyH_take (i := 0) (v := .agg #[.int .i64 m.c, .int .i64 m.d, .int .i64 m.s, .int .i64 m.e, .int .i64 m.l, .slice ta T.length tc]) rfl (by kernel_rfl) (by kernel_rfl) (by kernel_rfl) (fun _ _ _ h => h) (Or.inl ⟨by kernel_rfl, fun w hSw => by (try dsimp only at hSw); go_split_ands; go_simp⟩) (by assumption) ?_; simp only [Act.put, List.setIfInBounds_toArray, List.set_cons_zero, List.set_cons_succ])
  (refine wpAnyH_take (i := 1) (v := (.slice ca cuts.length cc)) rfl (by kernel_rfl) (by kernel_rfl) (by kernel_rfl) (fun _ _ _ h => h) (Or.inl ⟨by kernel_rfl, fun w hSw => by (try dsimp only at hSw); go_split_ands; go_simp⟩) (by assumption) ?_; simp only [Act.put, List.setIfInBounds_toArray, List.set_cons_zero, List.set_cons_succ])
  (refine wpAnyH_take (i := 2) (v := .pointer (some ⟨W1.heap.size, 0, none⟩)) rfl (by kernel_rfl) (by kernel_rfl) (by kernel_rfl) (fun _ _ _ h => h) (Or.inl ⟨by kernel_rfl, fun w hSw => by (try dsimp only at hSw); go_split_ands; go_simp⟩) (by assumption) ?_; simp only [Act.put, List.setIfInBounds_toArray, List.set_cons_zero, List.set_cons_succ])
  have hbD : Below w4.heap.size w4 w4.drew := (Below.refl _ _).drew
  refine wpAnyH_ready (rs := [3]) (by kernel_rfl) (by simp) (AllReadyH.cons rfl (fun K hK => ?_) AllReadyH.nil)
  go_simp
  go_at_call 165
  refine (l17DrawLimit_any W1.heap.size W1.heap.size _ (HD4.out.src.below hbD)).mono ?_
  rintro e' wb ⟨x, rfl, hsb, hob⟩
  have hobX : Only W1.heap.size w4 wb := (Only.of_below hbD).trans hob
  have hzb := hobX.size
  have hMb : wb.heap[w3.heap.size]? = w4.heap[w3.heap.size]? := hobX.block _ (by omega) (fun e => by omega)
  have HAb := HD4.out.step hsb hobX (by omega) (by omega) (by omega)
  have hcb : V2 (fun b => w2.heap.size ≤ b) wb (.slice ca cuts.length cc) cuts := V2.mono (S := fun b => w2.heap.size ≤ b) HC4.out.1 (fun b hb _ => hb) (hobX.keep fun b hb e => by have hb : w2.heap.size ≤ b := hb; omega)
  have hC := Lib.hid (And.intro HAb.below (And.intro HAb.hr (And.intro HAb.tab (And.intro hMb hcb)))); clear HAb hMb hcb hcM hsb hob hbD hobX
  dsimp only
  (refine hK.out _ _ (hSk wb hC.out.2.2.2.1) (fun hHeld => ?_); clear hK K; (try simp only [Act.put, List.setIfInBounds_toArray, List.set_cons_zero, List.set_cons_succ]))
  have hcRz : ∀ o, wb.cell? ⟨W.heap.size, o, none⟩ = (#[.int .i64 0, .int .i64 0, .int .i64 0, .int .i64 0, .int .i64 0, .slice none 0 0] : Array Value)[o]? := fun o => by rw [cell_of_block hC.out.2.1]
  have hfRz := fun o => frozen_of_block hC.out.2.1 o
  (refine wpAnyH_ready (rs := [4]) (by kernel_rfl) (by simp) (AllReadyH.cons rfl (fun K hK => ?_) AllReadyH.nil); go_simp)
  have hdone := putS_new hC.out.1 hC.out.2.1 (.int .i64 m.c) (.int .i64 m.d) (.int .i64 m.s) (.int .i64 m.e) (.int .i64 m.l) (.slice ta T.length tc)
  obtain ⟨wz, hwz⟩ : ∃ wz, wz = putS wb W.heap.size (.int .i64 m.c) (.int .i64 m.d) (.int .i64 m.s) (.int .i64 m.e) (.int .i64 m.l) (.slice ta T.length tc) := ⟨_, rfl⟩
  rw [← hwz] at hdone
  obtain ⟨hd2, hd3, hd4⟩ := hdone
  have hFz : V2 (fun b => W.heap.size ≤ b) wz (.slice ta T.length tc) T := V2.mono (S := fun b => w2.heap.size ≤ b) hC.out.2.2.1 (fun b hb _ => by have hb : w2.heap.size ≤ b := hb; omega) (fun b hb _ => hd4 b (by have hb : w2.heap.size ≤ b := hb; omega))
  have hcz : V2 (fun b => W.heap.size ≤ b) wz (.slice ca cuts.length cc) cuts := V2.mono (S := fun b => w2.heap.size ≤ b) hC.out.2.2.2.2 (fun b hb _ => by have hb : w2.heap.size ≤ b := hb; omega) (fun b hb _ => hd4 b (by have hb : w2.heap.size ≤ b := hb; omega))
  have hz0 : wz.cell? ⟨W.heap.size, 0, none⟩ = some (.int .i64 m.c) := by rw [cell_of_block hd3]; rfl
  have hz1 : wz.cell? ⟨W.heap.size, 1, none⟩ = some (.int .i64 m.d) := by rw [cell_of_block hd3]; rfl
  have hz2 : wz.cell? ⟨W.heap.size, 2, none⟩ = some (.int .i64 m.s) := by rw [cell_of_block hd3]; rfl
  have hz3 : wz.cell? ⟨W.heap.size, 3, none⟩ = some (.int .i64 m.e) := by rw [cell_of_block hd3]; rfl
  have hz4 : wz.cell? ⟨W.heap.size, 4, none⟩ = some (.int .i64 m.l) := by rw [cell_of_block hd3]; rfl
  have hz5 : wz.cell? ⟨W.heap.size, 5, none⟩ = some (.slice ta T.length tc) := by rw [cell_of_block hd3]; rfl
  unfold putS putR at hwz
  rw [← hwz]
  clear hwz
  have hSz := hSk wz ((hd4 _ (by omega)).trans hC.out.2.2.2.1)
  (refine hK.out _ _ hSz (fun hHeld => ?_); clear hK K; (try simp only [Act.put, List.setIfInBounds_toArray, List.set_cons_zero, List.set_cons_succ]))
  (refine wpAnyH_ready (rs := [5]) (by kernel_rfl) (by simp) (AllReadyH.cons rfl (fun K hK => ?_) AllReadyH.nil); go_simp)
  (refine hK.out _ _ hSz (fun hHeld => ?_); clear hK K; (try simp only [Act.put, List.setIfInBounds_toArray, List.set_cons_zero, List.set_cons_succ]))
  (refine wpAnyH_ready (rs := [6]) (by kernel_rfl) (by simp) (AllReadyH.cons rfl (fun K hK => ?_) AllReadyH.nil); go_simp)
  (refine hK.out _ _ hSz (fun hHeld => ?_); clear hK K; (try simp only [Act.put, List.setIfInBounds_toArray, List.set_cons_zero, List.set_cons_succ]))
  refine wpAnyH_done (by kernel_rfl) (NoPanic.normal ?_) _
  go_wp2_with fail
  exact bodyPost_ret (v := .tuple #[.agg #[.int .i64 m.c, .int .i64 m.d, .int .i64 m.s, .int .i64 m.e, .int .i64 m.l, .slice ta T.length tc], (.slice ca cuts.length cc), .int .i64 x]) (by simp [results, Tryz.results65, go_sem, hz0, hz1, hz2, hz3, hz4, hz5]) rfl ⟨m, _, _, T, cuts, x, rfl, HC4.out.2.1, hFz, hcz, hd2⟩
 ·have hqd : (q == 0) = false := by simp [hq]
  clear hq hq0 hq1
  go_wp2_with fail
  refine (l17Draw_any _ _ wq Hq.out.1).mono ?_
  rintro e' w3 ⟨m, u, T, rfl, hsm, hu, hT12, hs3, ho3⟩
  have hz3 := ho3.size
  obtain ⟨ta, tc, rfl, _⟩ := hu.form
  obtain ⟨w4, hw4⟩ : ∃ w4, w4 = w3.alloc (.cells #[.int .i64 m.c, .int .i64 m.d, .int .i64 m.s, .int .i64 m.e, .int .i64 m.l, .slice ta T.length tc] 28) := ⟨_, rfl⟩
  have hb34 : Below w3.heap.size w3 w4 := by rw [hw4]; exact (Below.refl _ _).alloc (Nat.le_refl _) _
  have hM4 : w4.heap[w3.heap.size]? = some (.cells #[.int .i64 m.c, .int .i64 m.d, .int .i64 m.s, .int .i64 m.e, .int .i64 m.l, .slice ta T.length tc] 28 (0, 0)) := by rw [hw4]; exact heap_alloc_self _ _
  have HD4 := Lib.hid (And.intro (NdAt.mk (W := W) (W1 := W1) (w2 := w2) (w3 := w3) (hs3.below hb34) (Hq.out.2.1.trans (((ho3.to_below (B := W1.heap.size) (Nat.le_refl _) (by omega)).trans (hb34.mono (by omega))).mono (by omega))) hM4 ((hb34.block _ (by omega)).trans (ho3.heap Hq.out.2.2 (fun e => by omega))) ((hu.mono (S' := fun b => w2.heap.size ≤ b) (fun b hb _ => by have hb : wq.heap.size ≤ b := hb; show w2.heap.size ≤ b; omega) (fun _ _ _ => rfl)).below hb34)) hw4)
  have hz4 : w3.heap.size < w4.heap.size := lt_of_heap hM4
  have HS4 := Lib.hid (show w3.heap.size + 1 = w4.heap.size by rw [hw4]; simp)
  clear hs3 ho3 hb34 hM4 hu hw4 hsm
  obtain ⟨w7, hw7⟩ : ∃ w7, w7 = w4.alloc (.cells #[] 35) := ⟨_, rfl⟩
  have hb67 : Below w4.heap.size w4 w7 := by rw [hw7]; exact (Below.refl _ _).alloc (Nat.le_refl _) _
  have hO7 : OV w4.heap.size w7 (.slice (some ⟨w4.heap.size, 0, none⟩) 0 0) [] := OV.nil (by rw [hw7]; exact own_lit0 w4 w4.heap.size 35 1 (Nat.le_refl _))
  have hz7 := hb67.size
  have HO7 := Lib.hid (And.intro hO7 (And.intro (Only.of_below (SB := W1.heap.size) hb67) hw7))
  have HD7 := Lib.hid (HD4.out.1.step (HD4.out.1.src.below hb67) (Only.of_below hb67) (by omega) (by omega) (by omega)); clear hw7 hb67 hO7
  have hcM7 : ∀ o, w7.cell? ⟨w3.heap.size, o, none⟩ = (#[.int .i64 m.c, .int .i64 m.d, .int .i64 m.s, .int .i64 m.e, .int .i64 m.l, .slice ta T.length tc] : Array Value)[o]? := fun o => by rw [cell_of_block HD7.out.hm]
  have hcM70 : ∀ o, (w4.alloc (.cells #[] 35)).cell? ⟨w3.heap.size, o, none⟩ = (#[.int .i64 m.c, .int .i64 m.d, .int .i64 m.s, .int .i64 m.e, .int .i64 m.l, .slice ta T.length tc] : Array Value)[o]? := fun o => by rw [← HO7.out.2.2]; exact hcM7 o
  go_wp2_with fail
  rw [← HD4.out.2]
  go_wp2_with fail
  rw [← HO7.out.2.2, HS4.out]
  obtain ⟨r, hr⟩ : ∃ r, isSys m T = r := ⟨_, rfl⟩
  have Hr := Lib.hid hr; clear hr
  refine (isSystemR_b m _ T w7 r Hr.out HD7.out.tab).mono ?_
  rintro e' w5 ⟨rfl, hb5⟩
  have hz5 := hb5.size
  have HD5 := Lib.hid (HD7.out.step (HD7.out.src.below (hb5.mono (Nat.le_refl _))) (Only.of_below hb5) (by omega) (by omega) (by omega))
  have HO5 := Lib.hid (And.intro (HO7.out.1.only (Only.of_below (SB := W1.heap.size) hb5) (by omega)) (HO7.out.2.1.then_below hb5))
  clear hb5 hcM7 hcM70
  cases r
  ·have HP5 := Lib.hid (show PV (.slice (some ⟨w4.heap.size, 0, none⟩) 0 0) by obtain ⟨vs, h1, _⟩ := HO5.out.1; exact own_PV h1)
   have HC5 := Lib.hid (HO5.out.1.v2.mono (S' := fun b => w2.heap.size ≤ b) (fun b hb _ => by have hb : w4.heap.size ≤ b := hb; show w2.heap.size ≤ b; omega) (fun _ _ _ => rfl))
   go_wp2_with fail
   have hcM : ∀ o, w5.cell? ⟨w3.heap.size, o, none⟩ = (#[.int .i64 m.c, .int .i64 m.d, .int .i64 m.s, .int .i64 m.e, .int .i64 m.l, .slice ta T.length tc] : Array Value)[o]? := fun o => by rw [cell_of_block HD5.out.hm]
   have hSk : ∀ w' : World, w'.heap[w3.heap.size]? = w5.heap[w3.heap.size]? → w'.cell? ⟨w3.heap.size, 0, none⟩ = some (.int .i64 m.c) ∧ w'.cell? ⟨w3.heap.size, 1, none⟩ = some (.int .i64 m.d) ∧ w'.cell? ⟨w3.heap.size, 2, none⟩ = some (.int .i64 m.s) ∧ w'.cell? ⟨w3.heap.size, 3, none⟩ = some (.int .i64 m.e) ∧ w'.cell? ⟨w3.heap.size, 4, none⟩ = some (.int .i64 m.l) ∧ w'.cell? ⟨w3.heap.size, 5, none⟩ = some (.slice ta T.length tc) := fun w' hw => by
    refine ⟨?_, ?_, ?_, ?_, ?_, ?_⟩ <;> exact cell_keep (hcM _) hw
   have hMl := lt_of_heap HD5.out.hm
   have hRl := lt_of_heap HD5.out.hr
   refine wp_region_noPanic ?_
   refine wp_region_held_drew (S := fun w' => w'.cell? ⟨w3.heap.size, 0, none⟩ = some (.int .i64 m.c) ∧ w'.cell? ⟨w3.heap.size, 1, none⟩ = some (.int .i64 m.d) ∧ w'.cell? ⟨w3.heap.size, 2, none⟩ = some (.int .i64 m.s) ∧ w'.cell? ⟨w3.heap.size, 3, none⟩ = some (.int .i64 m.e) ∧ w'.cell? ⟨w3.heap.size, 4, none⟩ = some (.int .i64 m.l) ∧ w'.cell? ⟨w3.heap.size, 5, none⟩ = some (.slice ta T.length tc)) (by kernel_rfl) (hSk w5.drew rfl) (fun hHeld => ?_)
   (refine wpAnyH_take (i := 0) (v := .agg #[.int .i64 m.c, .int .i64 m.d, .int .i64 m.s, .int .i64 m.e, .int .i64 m.l, .slice ta T.length tc]) rfl (by kernel_rfl) (by kernel_rfl) (by kernel_rfl) (fun _ _ _ h => h) (Or.inl ⟨by kernel_rfl, fun w hSw => by (try dsimp only at hSw); go_split_ands; go_simp⟩) (by assumption) ?_; simp only [Act.put, List.setIfInBounds_toArray, List.set_cons_zero, List.set_cons_succ])
   (refine wpAnyH_take (i := 1) (v := (.slice (some ⟨w4.heap.size, 0, none⟩) 0 0)) rfl (by kernel_rfl) (by kernel_rfl) (by kernel_rfl) (fun _ _ _ h => h) (Or.inl ⟨by kernel_rfl, fun w hSw => by (try dsimp only at hSw); go_split_ands; go_simp⟩) (by assumption) ?_; simp only [Act.put, List.setIfInBounds_toArray, List.set_cons_zero, List.set_cons_succ])
   (refine wpAnyH_take (i := 2) (v := .pointer (some ⟨W1.heap.size, 0, none⟩)) rfl (by kernel_rfl) (by kernel_rfl) (by kernel_rfl) (fun _ _ _ h => h) (Or.inl ⟨by kernel_rfl, fun w hSw => by (try dsimp only at hSw); go_split_ands; go_simp⟩) (by assumption) ?_; simp only [Act.put, List.setIfInBounds_toArray, List.set_cons_zero, List.set_cons_succ])
   have hbD : Below w5.heap.size w5 w5.drew := (Below.refl _ _).drew
   refine wpAnyH_ready (rs := [3]) (by kernel_rfl) (by simp) (AllReadyH.cons rfl (fun K hK => ?_) AllReadyH.nil)
   go_simp
   go_at_call 165
   refine (l17DrawLimit_any W1.heap.size W1.heap.size _ (HD5.out.src.below hbD)).mono ?_
   rintro e' wb ⟨x, rfl, hsb, hob⟩
   have hobX : Only W1.heap.size w5 wb := (Only.of_below hbD).trans hob
   have hzb := hobX.size
   have hMb : wb.heap[w3.heap.size]? = w5.heap[w3.heap.size]? := hobX.block _ (by omega) (fun e => by omega)
   have HAb := HD5.out.step hsb hobX (by omega) (by omega) (by omega)
   have hcb : V2 (fun b => w2.heap.size ≤ b) wb (.slice (some ⟨w4.heap.size, 0, none⟩) 0 0) ([] : List (List Int)) := V2.mono (S := fun b => w2.heap.size ≤ b) HC5.out (fun b hb _ => hb) (hobX.keep fun b hb e => by have hb : w2.heap.size ≤ b := hb; omega)
   have hC := Lib.hid (And.intro HAb.below (And.intro HAb.hr (And.intro HAb.tab (And.intro hMb hcb)))); clear HAb hMb hcb hcM hsb hob hbD hobX
   dsimp only
   (refine hK.out _ _ (hSk wb hC.out.2.2.2.1) (fun hHeld => ?_); clear hK K; (try simp only [Act.put, List.setIfInBounds_toArray, List.set_cons_zero, List.set_cons_succ]))
   have hcRz : ∀ o, wb.cell? ⟨W.heap.size, o, none⟩ = (#[.int .i64 0, .int .i64 0, .int .i64 0, .int .i64 0, .int .i64 0, .slice none 0 0] : Array Value)[o]? := fun o => by rw [cell_of_block hC.out.2.1]
   have hfRz := fun o => frozen_of_block hC.out.2.1 o
   (refine wpAnyH_ready (rs := [4]) (by kernel_rfl) (by simp) (AllReadyH.cons rfl (fun K hK => ?_) AllReadyH.nil); go_simp)
   have hdone := putS_new hC.out.1 hC.out.2.1 (.int .i64 m.c) (.int .i64 m.d) (.int .i64 m.s) (.int .i64 m.e) (.int .i64 m.l) (.slice ta T.length tc)
   obtain ⟨wz, hwz⟩ : ∃ wz, wz = putS wb W.heap.size (.int .i64 m.c) (.int .i64 m.d) (.int .i64 m.s) (.int .i64 m.e) (.int .i64 m.l) (.slice ta T.length tc) := ⟨_, rfl⟩
   rw [← hwz] at hdone
   obtain ⟨hd2, hd3, hd4⟩ := hdone
   have hFz : V2 (fun b => W.heap.size ≤ b) wz (.slice ta T.length tc) T := V2.mono (S := fun b => w2.heap.size ≤ b) hC.out.2.2.1 (fun b hb _ => by have hb : w2.heap.size ≤ b := hb; omega) (fun b hb _ => hd4 b (by have hb : w2.heap.size ≤ b := hb; omega))
   have hcz : V2 (fun b => W.heap.size ≤ b) wz (.slice (some ⟨w4.heap.size, 0, none⟩) 0 0) ([] : List (List Int)) := V2.mono (S := fun b => w2.heap.size ≤ b) hC.out.2.2.2.2 (fun b hb _ => by have hb : w2.heap.size ≤ b := hb; omega) (fun b hb _ => hd4 b (by have hb : w2.heap.size ≤ b := hb; omega))
   have hz0 : wz.cell? ⟨W.heap.size, 0, none⟩ = some (.int .i64 m.c) := by rw [cell_of_block hd3]; rfl
   have hz1 : wz.cell? ⟨W.heap.size, 1, none⟩ = some (.int .i64 m.d) := by rw [cell_of_block hd3]; rfl
   have hz2 : wz.cell? ⟨W.heap.size, 2, none⟩ = some (.int .i64 m.s) := by rw [cell_of_block hd3]; rfl
   have hz3 : wz.cell? ⟨W.heap.size, 3, none⟩ = some (.int .i64 m.e) := by rw [cell_of_block hd3]; rfl
   have hz4 : wz.cell? ⟨W.heap.size, 4, none⟩ = some (.int .i64 m.l) := by rw [cell_of_block hd3]; rfl
   have hz5 : wz.cell? ⟨W.heap.size, 5, none⟩ = some (.slice ta T.length tc) := by rw [cell_of_block hd3]; rfl
   unfold putS putR at hwz
   rw [← hwz]
   clear hwz
   have hSz := hSk wz ((hd4 _ (by omega)).trans hC.out.2.2.2.1)
   (refine hK.out _ _ hSz (fun hHeld => ?_); clear hK K; (try simp only [Act.put, List.setIfInBounds_toArray, List.set_cons_zero, List.set_cons_succ]))
   (refine wpAnyH_ready (rs := [5]) (by kernel_rfl) (by simp) (AllReadyH.cons rfl (fun K hK => ?_) AllReadyH.nil); go_simp)
   (refine hK.out _ _ hSz (fun hHeld => ?_); clear hK K; (try simp only [Act.put, List.setIfInBounds_toArray, List.set_cons_zero, List.set_cons_succ]))
   (refine wpAnyH_ready (rs := [6]) (by kernel_rfl) (by simp) (AllReadyH.cons rfl (fun K hK => ?_) AllReadyH.nil); go_simp)
   (refine hK.out _ _ hSz (fun hHeld => ?_); clear hK K; (try simp only [Act.put, List.setIfInBounds_toArray, List.set_cons_zero, List.set_cons_succ]))
   refine wpAnyH_done (by kernel_rfl) (NoPanic.normal ?_) _
   go_wp2_with fail
   exact bodyPost_ret (v := .tuple #[.agg #[.int .i64 m.c, .int .i64 m.d, .int .i64 m.s, .int .i64 m.e, .int .i64 m.l, .slice ta T.length tc], (.slice (some ⟨w4.heap.size, 0, none⟩) 0 0), .int .i64 x]) (by simp [results, Tryz.results65, go_sem, hz0, hz1, hz2, hz3, hz4, hz5]) rfl ⟨m, _, _, T, ([] : List (List Int)), x, rfl, (fun _ => HP5.out), hFz, hcz, hd2⟩
  ·have hfit0 := (PartOk.nil Hr.out).fits
   have HF0 := Lib.hid hfit0; clear hfit0
   have hw9 : wrap64 ((T.length : Int) + 1) = (T.length : Int) + 1 := IntWalk.wrap64_in _ (by omega)
   have hcM5 : ∀ o, w5.cell? ⟨w3.heap.size, o, none⟩ = (#[.int .i64 m.c, .int .i64 m.d, .int .i64 m.s, .int .i64 m.e, .int .i64 m.l, .slice ta T.length tc] : Array Value)[o]? := fun o => by rw [cell_of_block HD5.out.hm]
   go_wp2_with fail
   clear hw9
   refine (l01Next_any _ _ ((T.length : Int) + 1) _ HD5.out.src).mono ?_
   rintro e' w8 ⟨n8, rfl, ⟨hn0, hn1⟩, hs8, ho8⟩
   obtain ⟨nn, rfl⟩ : ∃ q : Nat, n8 = (q : Int) := ⟨n8.toNat, by omega⟩
   have hnn : nn ≤ T.length := by
    rcases hn1 with h | h
    ·exact Int.ofNat_le.1 (Int.lt_add_one_iff.1 h)
    ·have h0 : nn = 0 := Int.ofNat_eq_zero.1 h
     rw [h0]; exact Nat.zero_le _
   have hz8 := ho8.size
   have HO8 := Lib.hid (And.intro (HO5.out.1.only ho8 (by omega)) (HO5.out.2.trans ho8))
   have HD8 := Lib.hid (HD5.out.step hs8 ho8 (by omega) (by omega) (by omega)); clear hs8 ho8 hn0 hn1 hcM5
   go_wp2_with fail
   go_loopw [9, 10, 11] (fun pv nv _ wr => ∃ (n : Nat) (part : List (List Int)), n + part.length ≤ T.length ∧ nv = .int .i64 (n : Int) ∧ OV w4.heap.size wr pv part ∧ Fits m T part ∧ Src W1.heap.size W1.heap.size wr ∧ Only W1.heap.size w4 wr) (fun _ nv _ _ => (intOf nv).toNat)
   case atStart => exact ⟨nn, [], by simpa using hnn, rfl, HO8.out.1, HF0.out, HD8.out.src, HO8.out.2⟩
   case round =>
    obtain ⟨n, part, hnp, rfl, hO, hfit, hsr, hor⟩ := hrel
    have hzr := hor.size
    obtain ⟨oa, oc, rfl, _, _⟩ := hO.form
    obtain ⟨wo, rfl⟩ : ∃ x, x = wr := ⟨_, rfl⟩
    have HDo := Lib.hid (HD4.out.1.step hsr hor (by omega) (by omega) (by omega))
    by_cases hn : n = 0
    ·subst hn
     have HPo := Lib.hid (show PV (.slice oa part.length oc) by obtain ⟨vs, h1, _⟩ := hO; exact own_PV h1)
     have HCo := Lib.hid (hO.v2.mono (S' := fun b => w2.heap.size ≤ b) (fun b hb _ => by have hb : w4.heap.size ≤ b := hb; show w2.heap.size ≤ b; omega) (fun _ _ _ => rfl)); clear hO hfit hsr hor hnp
     go_wp2_with fail
     have hcM : ∀ o, wo.cell? ⟨w3.heap.size, o, none⟩ = (#[.int .i64 m.c, .int .i64 m.d, .int .i64 m.s, .int .i64 m.e, .int .i64 m.l, .slice ta T.length tc] : Array Value)[o]? := fun o => by rw [cell_of_block HDo.out.hm]
     have hSk : ∀ w' : World, w'.heap[w3.heap.size]? = wo.heap[w3.heap.size]? → w'.cell? ⟨w3.heap.size, 0, none⟩ = some (.int .i64 m.c) ∧ w'.cell? ⟨w3.heap.size, 1, none⟩ = some (.int .i64 m.d) ∧ w'.cell? ⟨w3.heap.size, 2, none⟩ = some (.int .i64 m.s) ∧ w'.cell? ⟨w3.heap.size, 3, none⟩ = some (.int .i64 m.e) ∧ w'.cell? ⟨w3.heap.size, 4, none⟩ = some (.int .i64 m.l) ∧ w'.cell? ⟨w3.heap.size, 5, none⟩ = some (.slice ta T.length tc) := fun w' hw => by
      refine ⟨?_, ?_, ?_, ?_, ?_, ?_⟩ <;> exact cell_keep (hcM _) hw
     have hMl := lt_of_heap HDo.out.hm
     have hRl := lt_of_heap HDo.out.hr
     refine wp_region_noPanic ?_
     refine wp_region_held_drew (S := fun w' => w'.cell? ⟨w3.heap.size, 0, none⟩ = some (.int .i64 m.c) ∧ w'.cell? ⟨w3.heap.size, 1, none⟩ = some (.int .i64 m.d) ∧ w'.cell? ⟨w3.heap.size, 2, none⟩ = some (.int .i64 m.s) ∧ w'.cell? ⟨w3.heap.size, 3, none⟩ = some (.int .i64 m.e) ∧ w'.cell? ⟨w3.heap.size, 4, none⟩ = some (.int .i64 m.l) ∧ w'.cell? ⟨w3.heap.size, 5, none⟩ = some (.slice ta T.length tc)) (by kernel_rfl) (hSk wo.drew rfl) (fun hHeld => ?_)
     (refine wpAnyH_take (i := 0) (v := .agg #[.int .i64 m.c, .int .i64 m.d, .int .i64 m.s, .int .i64 m.e, .int .i64 m.l, .slice ta T.length tc]) rfl (by kernel_rfl) (by kernel_rfl) (by kernel_rfl) (fun _ _ _ h => h) (Or.inl ⟨by kernel_rfl, fun w hSw => by (try dsimp only at hSw); go_split_ands; go_simp⟩) (by assumption) ?_; simp only [Act.put, List.setIfInBounds_toArray, List.set_cons_zero, List.set_cons_succ])
     (refine wpAnyH_take (i := 1) (v := (.slice oa part.length oc)) rfl (by kernel_rfl) (by kernel_rfl) (by kernel_rfl) (fun _ _ _ h => h) (Or.inl ⟨by kernel_rfl, fun w hSw => by (try dsimp only at hSw); go_split_ands; go_simp⟩) (by assumption) ?_; simp only [Act.put, List.setIfInBounds_toArray, List.set_cons_zero, List.set_cons_succ])
     (refine wpAnyH_take (i := 2) (v := .pointer (some ⟨W1.heap.size, 0, none⟩)) rfl (by kernel_rfl) (by kernel_rfl) (by kernel_rfl) (fun _ _ _ h => h) (Or.inl ⟨by kernel_rfl, fun w hSw => by (try dsimp only at hSw); go_split_ands; go_simp⟩) (by assumption) ?_; simp only [Act.put, List.setIfInBounds_toArray, List.set_cons_zero, List.set_cons_succ])
     have hbD : Below wo.heap.size wo wo.drew := (Below.refl _ _).drew
     refine wpAnyH_ready (rs := [3]) (by kernel_rfl) (by simp) (AllReadyH.cons rfl (fun K hK => ?_) AllReadyH.nil)
     go_simp
     go_at_call 165
     refine (l17DrawLimit_any W1.heap.size W1.heap.size _ (HDo.out.src.below hbD)).mono ?_
     rintro e' wb ⟨x, rfl, hsb, hob⟩
     have hobX : Only W1.heap.size wo wb := (Only.of_below hbD).trans hob
     have hzb := hobX.size
     have hMb : wb.heap[w3.heap.size]? = wo.heap[w3.heap.size]? := hobX.block _ (by omega) (fun e => by omega)
     have HAb := HDo.out.step hsb hobX (by omega) (by omega) (by omega)
     have hcb : V2 (fun b => w2.heap.size ≤ b) wb (.slice oa part.length oc) part := V2.mono (S := fun b => w2.heap.size ≤ b) HCo.out (fun b hb _ => hb) (hobX.keep fun b hb e => by have hb : w2.heap.size ≤ b := hb; omega)
     have hC := Lib.hid (And.intro HAb.below (And.intro HAb.hr (And.intro HAb.tab (And.intro hMb hcb)))); clear HAb hMb hcb hcM hsb hob hbD hobX
     dsimp only
     (refine hK.out _ _ (hSk wb hC.out.2.2.2.1) (fun hHeld => ?_); clear hK K; (try simp only [Act.put, List.setIfInBounds_toArray, List.set_cons_zero, List.set_cons_succ]))
     have hcRz : ∀ o, wb.cell? ⟨W.heap.size, o, none⟩ = (#[.int .i64 0, .int .i64 0, .int .i64 0, .int .i64 0, .int .i64 0, .slice none 0 0] : Array Value)[o]? := fun o => by rw [cell_of_block hC.out.2.1]
     have hfRz := fun o => frozen_of_block hC.out.2.1 o
     (refine wpAnyH_ready (rs := [4]) (by kernel_rfl) (by simp) (AllReadyH.cons rfl (fun K hK => ?_) AllReadyH.nil); go_simp)
     have hdone := putS_new hC.out.1 hC.out.2.1 (.int .i64 m.c) (.int .i64 m.d) (.int .i64 m.s) (.int .i64 m.e) (.int .i64 m.l) (.slice ta T.length tc)
     obtain ⟨wz, hwz⟩ : ∃ wz, wz = putS wb W.heap.size (.int .i64 m.c) (.int .i64 m.d) (.int .i64 m.s) (.int .i64 m.e) (.int .i64 m.l) (.slice ta T.length tc) := ⟨_, rfl⟩
     rw [← hwz] at hdone
     obtain ⟨hd2, hd3, hd4⟩ := hdone
     have hFz : V2 (fun b => W.heap.size ≤ b) wz (.slice ta T.length tc) T := V2.mono (S := fun b => w2.heap.size ≤ b) hC.out.2.2.1 (fun b hb _ => by have hb : w2.heap.size ≤ b := hb; omega) (fun b hb _ => hd4 b (by have hb : w2.heap.size ≤ b := hb; omega))
     have hcz : V2 (fun b => W.heap.size ≤ b) wz (.slice oa part.length oc) part := V2.mono (S := fun b => w2.heap.size ≤ b) hC.out.2.2.2.2 (fun b hb _ => by have hb : w2.heap.size ≤ b := hb; omega) (fun b hb _ => hd4 b (by have hb : w2.heap.size ≤ b := hb; omega))
     have hz0 : wz.cell? ⟨W.heap.size, 0, none⟩ = some (.int .i64 m.c) := by rw [cell_of_block hd3]; rfl
     have hz1 : wz.cell? ⟨W.heap.size, 1, none⟩ = some (.int .i64 m.d) := by rw [cell_of_block hd3]; rfl
     have hz2 : wz.cell? ⟨W.heap.size, 2, none⟩ = some (.int .i64 m.s) := by rw [cell_of_block hd3]; rfl
     have hz3 : wz.cell? ⟨W.heap.size, 3, none⟩ = some (.int .i64 m.e) := by rw [cell_of_block hd3]; rfl
     have hz4 : wz.cell? ⟨W.heap.size, 4, none⟩ = some (.int .i64 m.l) := by rw [cell_of_block hd3]; rfl
     have hz5 : wz.cell? ⟨W.heap.size, 5, none⟩ = some (.slice ta T.length tc) := by rw [cell_of_block hd3]; rfl
     unfold putS putR at hwz
     rw [← hwz]
     clear hwz
     have hSz := hSk wz ((hd4 _ (by omega)).trans hC.out.2.2.2.1)
     (refine hK.out _ _ hSz (fun hHeld => ?_); clear hK K; (try simp only [Act.put, List.setIfInBounds_toArray, List.set_cons_zero, List.set_cons_succ]))
     (refine wpAnyH_ready (rs := [5]) (by kernel_rfl) (by simp) (AllReadyH.cons rfl (fun K hK => ?_) AllReadyH.nil); go_simp)
     (refine hK.out _ _ hSz (fun hHeld => ?_); clear hK K; (try simp only [Act.put, List.setIfInBounds_toArray, List.set_cons_zero, List.set_cons_succ]))
     (refine wpAnyH_ready (rs := [6]) (by kernel_rfl) (by simp) (AllReadyH.cons rfl (fun K hK => ?_) AllReadyH.nil); go_simp)
     (refine hK.out _ _ hSz (fun hHeld => ?_); clear hK K; (try simp only [Act.put, List.setIfInBounds_toArray, List.set_cons_zero, List.set_cons_succ]))
     refine wpAnyH_done (by kernel_rfl) (NoPanic.normal ?_) _
     go_wp2_with fail
     exact bodyPost_ret (v := .tuple #[.agg #[.int .i64 m.c, .int .i64 m.d, .int .i64 m.s, .int .i64 m.e, .int .i64 m.l, .slice ta T.length tc], (.slice oa part.length oc), .int .i64 x]) (by simp [results, Tryz.results65, go_sem, hz0, hz1, hz2, hz3, hz4, hz5]) rfl ⟨m, _, _, T, part, x, rfl, (fun _ => HPo.out), hFz, hcz, hd2⟩
    ·obtain ⟨n, rfl⟩ : ∃ k, n = k + 1 := ⟨n - 1, by omega⟩
     have hnd : decide ((0 : Int) < ((n + 1 : Nat) : Int)) = true := decide_eq_true (by omega)
     have hnd2 : decide ((0 : Int) < (n : Int) + 1) = true := decide_eq_true (by omega)
     have hnd3 : decide (0 < n + 1) = true := decide_eq_true (by omega)
     have hnT : n + 1 ≤ 12 := by omega
     have hpl0 : part.length < T.length := by omega
     have hpv : PV (.slice oa part.length oc) := by obtain ⟨vs, h1, _⟩ := hO; exact own_PV h1
     have HR := Lib.hid (And.intro hO (And.intro hfit (And.intro hsr (And.intro hor (And.intro hpv hnp))))); clear hO hfit hsr hor hpv hnp hn
     have hcMo : ∀ o, wo.cell? ⟨w3.heap.size, o, none⟩ = (#[.int .i64 m.c, .int .i64 m.d, .int .i64 m.s, .int .i64 m.e, .int .i64 m.l, .slice ta T.length tc] : Array Value)[o]? := fun o => by rw [cell_of_block HDo.out.hm]
     have Hpl := Lib.hid hpl0; clear hpl0
     go_wp2_with fail
     refine (l16Candidates_any m _ _ T part 5 wo HR.out.2.1 Hpl.out (by omega) HDo.out.tab HR.out.1.v2 (fun _ => HR.out.2.2.2.2.1)).mono ?_
     rintro e' w9 ⟨lv, ls, rfl, ⟨hL, hL8, hLk⟩, hb9⟩
     have hz9 := hb9.size
     obtain ⟨la, lc, rfl, _, _⟩ := hL.form
     have HD9 := Lib.hid (HDo.out.step (HR.out.2.2.1.below hb9) (Only.of_below hb9) (by omega) (by omega) (by omega))
     have H9 := Lib.hid (And.intro (HR.out.2.2.2.1.then_below hb9) (And.intro hL (And.intro hLk (HR.out.1.below hb9)))); clear hL hLk hb9 hcMo
     by_cases hl0 : ls.length = 0
     ·have hl0d : ((ls.length : Int) == 0) = true := by simp [hl0]
      have HC9 := Lib.hid (H9.out.2.2.2.v2.mono (S' := fun b => w2.heap.size ≤ b) (fun b hb _ => by have hb : w4.heap.size ≤ b := hb; show w2.heap.size ≤ b; omega) (fun _ _ _ => rfl))
      clear hnd hnd2 hnd3 hL8
      obtain ⟨lsl, hlsl⟩ : ∃ q, ls.length = q := ⟨_, rfl⟩
      rw [hlsl] at hl0 hl0d ⊢
      subst hl0
      clear hlsl
      go_wp2_with fail
      have hcM : ∀ o, w9.cell? ⟨w3.heap.size, o, none⟩ = (#[.int .i64 m.c, .int .i64 m.d, .int .i64 m.s, .int .i64 m.e, .int .i64 m.l, .slice ta T.length tc] : Array Value)[o]? := fun o => by rw [cell_of_block HD9.out.hm]
      have hSk : ∀ w' : World, w'.heap[w3.heap.size]? = w9.heap[w3.heap.size]? → w'.cell? ⟨w3.heap.size, 0, none⟩ = some (.int .i64 m.c) ∧ w'.cell? ⟨w3.heap.size, 1, none⟩ = some (.int .i64 m.d) ∧ w'.cell? ⟨w3.heap.size, 2, none⟩ = some (.int .i64 m.s) ∧ w'.cell? ⟨w3.heap.size, 3, none⟩ = some (.int .i64 m.e) ∧ w'.cell? ⟨w3.heap.size, 4, none⟩ = some (.int .i64 m.l) ∧ w'.cell? ⟨w3.heap.size, 5, none⟩ = some (.slice ta T.length tc) := fun w' hw => by
       refine ⟨?_, ?_, ?_, ?_, ?_, ?_⟩ <;> exact cell_keep (hcM _) hw
      have hMl := lt_of_heap HD9.out.hm
      have hRl := lt_of_heap HD9.out.hr
      refine wp_region_noPanic ?_
      refine wp_region_held_drew (S := fun w' => w'.cell? ⟨w3.heap.size, 0, none⟩ = some (.int .i64 m.c) ∧ w'.cell? ⟨w3.heap.size, 1, none⟩ = some (.int .i64 m.d) ∧ w'.cell? ⟨w3.heap.size, 2, none⟩ = some (.int .i64 m.s) ∧ w'.cell? ⟨w3.heap.size, 3, none⟩ = some (.int .i64 m.e) ∧ w'.cell? ⟨w3.heap.size, 4, none⟩ = some (.int .i64 m.l) ∧ w'.cell? ⟨w3.heap.size, 5, none⟩ = some (.slice ta T.length tc)) (by kernel_rfl) (hSk w9.drew rfl) (fun hHeld => ?_)
      (refine wpAnyH_take (i := 0) (v := .agg #[.int .i64 m.c, .int .i64 m.d, .int .i64 m.s, .int .i64 m.e, .int .i64 m.l, .slice ta T.length tc]) rfl (by kernel_rfl) (by kernel_rfl) (by kernel_rfl) (fun _ _ _ h => h) (Or.inl ⟨by kernel_rfl, fun w hSw => by (try dsimp only at hSw); go_split_ands; go_simp⟩) (by assumption) ?_; simp only [Act.put, List.setIfInBounds_toArray, List.set_cons_zero, List.set_cons_succ])
      (refine wpAnyH_take (i := 1) (v := (.slice oa part.length oc)) rfl (by kernel_rfl) (by kernel_rfl) (by kernel_rfl) (fun _ _ _ h => h) (Or.inl ⟨by kernel_rfl, fun w hSw => by (try dsimp only at hSw); go_split_ands; go_simp⟩) (by assumption) ?_; simp only [Act.put, List.setIfInBounds_toArray, List.set_cons_zero, List.set_cons_succ])
      (refine wpAnyH_take (i := 2) (v := .pointer (some ⟨W1.heap.size, 0, none⟩)) rfl (by kernel_rfl) (by kernel_rfl) (by kernel_rfl) (fun _ _ _ h => h) (Or.inl ⟨by kernel_rfl, fun w hSw => by (try dsimp only at hSw); go_split_ands; go_simp⟩) (by assumption) ?_; simp only [Act.put, List.setIfInBounds_toArray, List.set_cons_zero, List.set_cons_succ])
      have hbD : Below w9.heap.size w9 w9.drew := (Below.refl _ _).drew
      refine wpAnyH_ready (rs := [3]) (by kernel_rfl) (by simp) (AllReadyH.cons rfl (fun K hK => ?_) AllReadyH.nil)
      go_simp
      go_at_call 165
      refine (l17DrawLimit_any W1.heap.size W1.heap.size _ (HD9.out.src.below hbD)).mono ?_
      rintro e' wb ⟨x, rfl, hsb, hob⟩
      have hobX : Only W1.heap.size w9 wb := (Only.of_below hbD).trans hob
      have hzb := hobX.size
      have hMb : wb.heap[w3.heap.size]? = w9.heap[w3.heap.size]? := hobX.block _ (by omega) (fun e => by omega)
      have HAb := HD9.out.step hsb hobX (by omega) (by omega) (by omega)
      have hcb : V2 (fun b => w2.heap.size ≤ b) wb (.slice oa part.length oc) part := V2.mono (S := fun b => w2.heap.size ≤ b) HC9.out (fun b hb _ => hb) (hobX.keep fun b hb e => by have hb : w2.heap.size ≤ b := hb; omega)
      have hC := Lib.hid (And.intro HAb.below (And.intro HAb.hr (And.intro HAb.tab (And.intro hMb hcb)))); clear HAb hMb hcb hcM hsb hob hbD hobX
      dsimp only
      (refine hK.out _ _ (hSk wb hC.out.2.2.2.1) (fun hHeld => ?_); clear hK K; (try simp only [Act.put, List.setIfInBounds_toArray, List.set_cons_zero, List.set_cons_succ]))
      have hcRz : ∀ o, wb.cell? ⟨W.heap.size, o, none⟩ = (#[.int .i64 0, .int .i64 0, .int .i64 0, .int .i64 0, .int .i64 0, .slice none 0 0] : Array Value)[o]? := fun o => by rw [cell_of_block hC.out.2.1]
      have hfRz := fun o => frozen_of_block hC.out.2.1 o
      (refine wpAnyH_ready (rs := [4]) (by kernel_rfl) (by simp) (AllReadyH.cons rfl (fun K hK => ?_) AllReadyH.nil); go_simp)
      have hdone := putS_new hC.out.1 hC.out.2.1 (.int .i64 m.c) (.int .i64 m.d) (.int .i64 m.s) (.int .i64 m.e) (.int .i64 m.l) (.slice ta T.length tc)
      obtain ⟨wz, hwz⟩ : ∃ wz, wz = putS wb W.heap.size (.int .i64 m.c) (.int .i64 m.d) (.int .i64 m.s) (.int .i64 m.e) (.int .i64 m.l) (.slice ta T.length tc) := ⟨_, rfl⟩
      rw [← hwz] at hdone
      obtain ⟨hd2, hd3, hd4⟩ := hdone
      have hFz : V2 (fun b => W.heap.size ≤ b) wz (.slice ta T.length tc) T := V2.mono (S := fun b => w2.heap.size ≤ b) hC.out.2.2.1 (fun b hb _ => by have hb : w2.heap.size ≤ b := hb; omega) (fun b hb _ => hd4 b (by have hb : w2.heap.size ≤ b := hb; omega))
      have hcz : V2 (fun b => W.heap.size ≤ b) wz (.slice oa part.length oc) part := V2.mono (S := fun b => w2.heap.size ≤ b) hC.out.2.2.2.2 (fun b hb _ => by have hb : w2.heap.size ≤ b := hb; omega) (fun b hb _ => hd4 b (by have hb : w2.heap.size ≤ b := hb; omega))
      have hz0 : wz.cell? ⟨W.heap.size, 0, none⟩ = some (.int .i64 m.c) := by rw [cell_of_block hd3]; rfl
      have hz1 : wz.cell? ⟨W.heap.size, 1, none⟩ = some (.int .i64 m.d) := by rw [cell_of_block hd3]; rfl
      have hz2 : wz.cell? ⟨W.heap.size, 2, none⟩ = some (.int .i64 m.s) := by rw [cell_of_block hd3]; rfl
      have hz3 : wz.cell? ⟨W.heap.size, 3, none⟩ = some (.int .i64 m.e) := by rw [cell_of_block hd3]; rfl
      have hz4 : wz.cell? ⟨W.heap.size, 4, none⟩ = some (.int .i64 m.l) := by rw [cell_of_block hd3]; rfl
      have hz5 : wz.cell? ⟨W.heap.size, 5, none⟩ = some (.slice ta T.length tc) := by rw [cell_of_block hd3]; rfl
      unfold putS putR at hwz
      rw [← hwz]
      clear hwz
      have hSz := hSk wz ((hd4 _ (by omega)).trans hC.out.2.2.2.1)
      (refine hK.out _ _ hSz (fun hHeld => ?_); clear hK K; (try simp only [Act.put, List.setIfInBounds_toArray, List.set_cons_zero, List.set_cons_succ]))
      (refine wpAnyH_ready (rs := [5]) (by kernel_rfl) (by simp) (AllReadyH.cons rfl (fun K hK => ?_) AllReadyH.nil); go_simp)
      (refine hK.out _ _ hSz (fun hHeld => ?_); clear hK K; (try simp only [Act.put, List.setIfInBounds_toArray, List.set_cons_zero, List.set_cons_succ]))
      (refine wpAnyH_ready (rs := [6]) (by kernel_rfl) (by simp) (AllReadyH.cons rfl (fun K hK => ?_) AllReadyH.nil); go_simp)
      (refine hK.out _ _ hSz (fun hHeld => ?_); clear hK K; (try simp only [Act.put, List.setIfInBounds_toArray, List.set_cons_zero, List.set_cons_succ]))
      refine wpAnyH_done (by kernel_rfl) (NoPanic.normal ?_) _
      go_wp2_with fail
      exact bodyPost_ret (v := .tuple #[.agg #[.int .i64 m.c, .int .i64 m.d, .int .i64 m.s, .int .i64 m.e, .int .i64 m.l, .slice ta T.length tc], (.slice oa part.length oc), .int .i64 x]) (by simp [results, Tryz.results65, go_sem, hz0, hz1, hz2, hz3, hz4, hz5]) rfl ⟨m, _, _, T, part, x, rfl, (fun _ => HR.out.2.2.2.2.1), hFz, hcz, hd2⟩
     ·have hl0d : ((ls.length : Int) == 0) = false := beq_eq_false_iff_ne.2 (by omega)
      have hl00 : ¬ (ls.length : Int) = 0 := by omega
      go_wp2_with fail
      refine (l01Next_any _ _ _ _ HD9.out.src).mono ?_
      rintro e' wb ⟨y, rfl, ⟨hy0, hy1⟩, hsb, hob⟩
      have hzb := hob.size
      obtain ⟨k, rfl⟩ : ∃ k : Nat, y = (k : Int) := ⟨y.toNat, by omega⟩
      have hk : k < ls.length := by omega
      have hk1 : ¬ ls.length ≤ k := by omega
      have hLb := H9.out.2.1.only hob (by omega)
      obtain ⟨lvs, hlv1, hlv2⟩ := hLb
      obtain ⟨g, cap, ra, rc, e, hcc, hV⟩ := OV.row hlv1 hlv2 hk
      simp only [Value.slice.injEq] at e
      obtain ⟨rfl, _, rfl⟩ := e
      have hOb := H9.out.2.2.2.only hob (by omega)
      obtain ⟨vs, hvs, hrv⟩ := hOb
      have hpl9 : part.length ≤ 1000 := by have := Hpl.out; omega
      have horb := H9.out.1.trans hob
      have hkey : isKeyB m (getl ls k) = true := H9.out.2.2.1 _ (getl_mem hk)
      have hVk : V1 (fun b => w4.heap.size ≤ b ∧ (Value.slice oa part.length oc).ownBlock ≠ some b) wb (.slice ra (getl ls k).length rc) (getl ls k) := hV.mono (fun b hb _ => ⟨by have := hb.1; omega, fun e => by
       obtain ⟨vs', g1, _⟩ := HR.out.1
       have := (g1.lt b e).2
       have := hb.1
       omega⟩) (fun _ _ _ => rfl)
      have HB := Lib.hid (And.intro hvs (And.intro hrv (And.intro hVk (And.intro hsb (And.intro horb hkey))))); clear hvs hrv hVk hsb horb hkey hlv1 hlv2 hV hob hy0 hy1
      have hvsb := HB.out.1
      have hccz : wb.cell? ⟨g, k, none⟩ = some (.slice ra (getl ls k).length rc) := hcc
      go_wp2_with (at_builtin; refine wp_app1 _ rfl _ _ 26 rfl w4.heap.size 35 (.slice none 0 0) 24 Tryz.underlying26 inf_ints rfl _ _ _ rfl hvsb (.slice ra (getl ls k).length rc) _ rfl rfl (by omega) (by omega) (by omega) ?_; intro v1 w1 hown1 hgrow1 hblk1 hB1)
      have hP := OV.push2 HB.out.1 HB.out.2.1 HB.out.2.2.1 hown1 hgrow1 hblk1
      have hg1 : Chg (fun i => w4.heap.size ≤ i) wb w1 := (Chg.refl _ _).grown hgrow1 (fun g hg => .inl (hvsb.lt g hg).1)
      have hs1 := HB.out.2.2.2.1.keep hg1 (fun b hb => ⟨by omega, by omega⟩)
      have hoW1 : Only W1.heap.size w4 w1 := Chg.trans HB.out.2.2.2.2.1 (G := fun i => w4.heap.size ≤ i) hg1 (fun i hi => .inr hi)
      obtain ⟨na, nc, rfl, _, _⟩ := own_form hown1
      have HE := Lib.hid (And.intro hP (And.intro hs1 (And.intro hoW1 (HR.out.2.1.snoc Hpl.out HB.out.2.2.2.2.2)))); clear hP hg1 hs1 hoW1 hgrow1 hblk1 hB1 hown1 hvsb
      go_roundw
      case rel => exact ⟨n, part ++ [getl ls k], by have := HR.out.2.2.2.2.2; simp; omega, by go_num, HE.out.1, HE.out.2.2.2, HE.out.2.1, HE.out.2.2.1⟩
      case measure => simp [intOf]
/-- A table as a literal leaves it: its rows in blocks from B on, the slice of the rows behind them. -/
def LitT (w : World) (B R C : Nat) (T : List (List Int)) : Prop :=
 T.length = R ∧ Shape T C ∧ (∀ k, k < R → w.heap[B + k]? = some (.cells ((getl T k).map (Value.int .i64)).toArray 2 (0, 0))) ∧
  ∃ cs, w.heap[B + R]? = some (.cells cs 35 (0, 0)) ∧ ∀ k, k < R → cs[k]? = some (.slice (some ⟨B + k, 0, none⟩) C C)
theorem LitT.keep {w w' : World} {B R C : Nat} {T : List (List Int)} (h : LitT w B R C T) (hk : ∀ b, B ≤ b → b < w.heap.size → w'.heap[b]? = w.heap[b]?) : LitT w' B R C T := by
 obtain ⟨h1, h2, h3, cs, h4, h5⟩ := h
 exact ⟨h1, h2, fun k hk' => (hk _ (by omega) (lt_of_heap (h3 k hk'))).trans (h3 k hk'), cs, (hk _ (by omega) (lt_of_heap h4)).trans h4, h5⟩
theorem LitT.f2 {w : World} {B R C : Nat} {T : List (List Int)} (h : LitT w B R C T) (hR : R ≤ 1000) (hC : C ≤ 1000) : F2 B w (.slice (some ⟨B + R, 0, none⟩) R R) T := by
 obtain ⟨h1, h2, h3, cs, h4, h5⟩ := h
 subst h1
 refine ⟨B + T.length, fun k => B + k, ⟨_, T.length, rfl, Nat.le_refl _, by unfold maxLen; omega, fun _ => ⟨0, cs, _, rfl, h4, fun k hk => ⟨_, by rw [Nat.zero_add]; exact h5 k hk, _, C, by rw [h2 k hk], by rw [h2 k hk]; exact Nat.le_refl _, by unfold maxLen; omega, fun _ => ⟨0, _, _, rfl, h3 k hk, fun q hq => ?_⟩⟩⟩, fun k hk _ => ⟨by show B + k ≠ B + T.length; omega, fun j hj hjk _ => by show B + j ≠ B + k; omega⟩⟩, fun _ => by show B ≤ B + T.length; omega, fun k _ _ => by show B ≤ B + k; omega⟩
 simp only [Nat.zero_add, List.getElem?_toArray, List.getElem?_map]
 rw [List.getElem?_eq_getElem hq, geti_eq hq]
 rfl
theorem LitT.put {w : World} {B R C k c : Nat} {x : Int} {T : List (List Int)} (h : LitT w B R C T) (hk : k < R) (hc : c < C) :
  LitT (w.setCell ⟨B + k, c, none⟩ (.int .i64 x)) B R C (setT T k c x) := by
 obtain ⟨h1, h2, h3, cs, h4, h5⟩ := h
 refine ⟨by rw [setT_len]; exact h1, h2.set, fun j hj => ?_, cs, (heap_setCell_other _ (by omega)).trans h4, h5⟩
 unfold setT
 rw [getl_set (by omega)]
 by_cases hjk : k = j
 ·subst hjk
  rw [if_pos rfl, heap_setCell_self (h3 k hk)]
  simp
 ·rw [if_neg hjk, heap_setCell_other _ (by omega)]
  exact h3 j hj
theorem LitT.cell {w : World} {B R C k c : Nat} {T : List (List Int)} (h : LitT w B R C T) (hk : k < R) (hc : c < C) :
  (∃ x : Int, w.cell? ⟨B + k, c, none⟩ = some (.int .i64 x)) ∧ w.frozen? ⟨B + k, c, none⟩ = false := by
 obtain ⟨h1, h2, h3, _⟩ := h
 have hl := h2 k (by omega)
 refine ⟨⟨geti (getl T k) c, ?_⟩, frozen_of_block (h3 k hk) _⟩
 rw [cell_of_block (h3 k hk)]
 simp only [List.getElem?_toArray, List.getElem?_map]
 rw [List.getElem?_eq_getElem (by omega), geti_eq (by omega)]
 rfl
theorem LitT.rows {w : World} {B R C : Nat} {T : List (List Int)} (h : LitT w B R C T) : ∀ k, k < R → w.cell? ⟨B + R, k, none⟩ = some (.slice (some ⟨B + k, 0, none⟩) C C) := fun k hk => by
 obtain ⟨h1, h2, h3, cs, h4, h5⟩ := h
 rw [cell_of_block h4]; exact h5 k hk
theorem alloc_get {B : Nat} {w : World} (hz : w.heap.size = B) (o : Obj) : (w.alloc o).heap[B]? = some o := by subst hz; exact heap_alloc_self _ _
theorem lit4 (w : World) (o0 o1 o2 o3 o4 : Obj) : ∃ w', w' = ((((w.alloc o0).alloc o1).alloc o2).alloc o3).alloc o4 ∧ w'.heap[w.heap.size]? = some o0 ∧ w'.heap[w.heap.size + 1]? = some o1 ∧ w'.heap[w.heap.size + 2]? = some o2 ∧ w'.heap[w.heap.size + 3]? = some o3 ∧ w'.heap[w.heap.size + 4]? = some o4 ∧ Below w.heap.size w w' ∧ w'.heap.size = w.heap.size + 5 := by
 have h0 := (Below.refl w.heap.size w).alloc (Nat.le_refl _) o0
 have h1 := h0.alloc (by simp) o1
 have h2 := h1.alloc (by simp; omega) o2
 have h3 := h2.alloc (by simp; omega) o3
 have h4 := h3.alloc (by simp; omega) o4
 have z1 : (w.alloc o0).heap.size = w.heap.size + 1 := by simp
 have z2 : ((w.alloc o0).alloc o1).heap.size = w.heap.size + 2 := by simp
 have z3 : (((w.alloc o0).alloc o1).alloc o2).heap.size = w.heap.size + 3 := by simp
 have z4 : ((((w.alloc o0).alloc o1).alloc o2).alloc o3).heap.size = w.heap.size + 4 := by simp
 have up : ∀ (v : World) (o : Obj) (b : Nat) (x : Obj), v.heap[b]? = some x → (v.alloc o).heap[b]? = some x := fun v o b x h => heap_below h ((Below.refl v.heap.size v).alloc (Nat.le_refl _) o) (lt_of_heap h)
 exact ⟨_, rfl, up _ _ _ _ (up _ _ _ _ (up _ _ _ _ (up _ _ _ _ (alloc_get rfl o0)))), up _ _ _ _ (up _ _ _ _ (up _ _ _ _ (alloc_get z1 o1))), up _ _ _ _ (up _ _ _ _ (alloc_get z2 o2)), up _ _ _ _ (alloc_get z3 o3), alloc_get z4 o4, h4, by simp⟩
theorem lit3 (w : World) (o0 o1 o2 o3 : Obj) : ∃ w', w' = (((w.alloc o0).alloc o1).alloc o2).alloc o3 ∧ w'.heap[w.heap.size]? = some o0 ∧ w'.heap[w.heap.size + 1]? = some o1 ∧ w'.heap[w.heap.size + 2]? = some o2 ∧ w'.heap[w.heap.size + 3]? = some o3 ∧ Below w.heap.size w w' ∧ w'.heap.size = w.heap.size + 4 := by
 have h0 := (Below.refl w.heap.size w).alloc (Nat.le_refl _) o0
 have h1 := h0.alloc (by simp) o1
 have h2 := h1.alloc (by simp; omega) o2
 have h3 := h2.alloc (by simp; omega) o3
 have z1 : (w.alloc o0).heap.size = w.heap.size + 1 := by simp
 have z2 : ((w.alloc o0).alloc o1).heap.size = w.heap.size + 2 := by simp
 have z3 : (((w.alloc o0).alloc o1).alloc o2).heap.size = w.heap.size + 3 := by simp
 have up : ∀ (v : World) (o : Obj) (b : Nat) (x : Obj), v.heap[b]? = some x → (v.alloc o).heap[b]? = some x := fun v o b x h => heap_below h ((Below.refl v.heap.size v).alloc (Nat.le_refl _) o) (lt_of_heap h)
 exact ⟨_, rfl, up _ _ _ _ (up _ _ _ _ (up _ _ _ _ (alloc_get rfl o0))), up _ _ _ _ (up _ _ _ _ (alloc_get z1 o1)), up _ _ _ _ (alloc_get z2 o2), alloc_get z3 o3, h3, by simp⟩
def T43 : List (List Int) := [[1, 1, 1], [1, 0, 0], [0, 1, 0], [0, 0, 1]]
def T32 : List (List Int) := [[1, 1], [1, 0], [0, 1]]
theorem lit43 (w : World) (B : Nat) (hB : w.heap.size = B) : ∃ w', w' = ((((w.alloc (.cells #[.int .i64 1, .int .i64 1, .int .i64 1] 2)).alloc (.cells #[.int .i64 1, .int .i64 0, .int .i64 0] 2)).alloc (.cells #[.int .i64 0, .int .i64 1, .int .i64 0] 2)).alloc (.cells #[.int .i64 0, .int .i64 0, .int .i64 1] 2)).alloc
   (.cells #[.slice (some ⟨B, 0, none⟩) 3 3, .slice (some ⟨B + 1, 0, none⟩) 3 3, .slice (some ⟨B + 1 + 1, 0, none⟩) 3 3, .slice (some ⟨B + 1 + 1 + 1, 0, none⟩) 3 3] 35) ∧
  LitT w' B 4 3 T43 ∧ Below w.heap.size w w' ∧ w'.heap.size = B + 5 := by
 subst hB
 obtain ⟨w', e, h0, h1, h2, h3, h4, hb, hz⟩ := lit4 w (.cells #[.int .i64 1, .int .i64 1, .int .i64 1] 2) (.cells #[.int .i64 1, .int .i64 0, .int .i64 0] 2) (.cells #[.int .i64 0, .int .i64 1, .int .i64 0] 2) (.cells #[.int .i64 0, .int .i64 0, .int .i64 1] 2)
  (.cells #[.slice (some ⟨w.heap.size, 0, none⟩) 3 3, .slice (some ⟨w.heap.size + 1, 0, none⟩) 3 3, .slice (some ⟨w.heap.size + 1 + 1, 0, none⟩) 3 3, .slice (some ⟨w.heap.size + 1 + 1 + 1, 0, none⟩) 3 3] 35)
 refine ⟨w', e, ⟨rfl, fun j hj => ?_, fun k hk => ?_, _, h4, fun k hk => ?_⟩, hb, hz⟩
 ·have hj : j < 4 := hj
  rcases (by omega : j = 0 ∨ j = 1 ∨ j = 2 ∨ j = 3) with rfl | rfl | rfl | rfl <;> rfl
 ·rcases (by omega : k = 0 ∨ k = 1 ∨ k = 2 ∨ k = 3) with rfl | rfl | rfl | rfl
  ·exact h0
  ·exact h1
  ·exact h2
  ·exact h3
 ·rcases (by omega : k = 0 ∨ k = 1 ∨ k = 2 ∨ k = 3) with rfl | rfl | rfl | rfl <;> rfl
theorem lit32 (w : World) (B : Nat) (hB : w.heap.size = B) : ∃ w', w' = (((w.alloc (.cells #[.int .i64 1, .int .i64 1] 2)).alloc (.cells #[.int .i64 1, .int .i64 0] 2)).alloc (.cells #[.int .i64 0, .int .i64 1] 2)).alloc
   (.cells #[.slice (some ⟨B, 0, none⟩) 2 2, .slice (some ⟨B + 1, 0, none⟩) 2 2, .slice (some ⟨B + 1 + 1, 0, none⟩) 2 2] 35) ∧
  LitT w' B 3 2 T32 ∧ Below w.heap.size w w' ∧ w'.heap.size = B + 4 := by
 subst hB
 obtain ⟨w', e, h0, h1, h2, h3, hb, hz⟩ := lit3 w (.cells #[.int .i64 1, .int .i64 1] 2) (.cells #[.int .i64 1, .int .i64 0] 2) (.cells #[.int .i64 0, .int .i64 1] 2)
  (.cells #[.slice (some ⟨w.heap.size, 0, none⟩) 2 2, .slice (some ⟨w.heap.size + 1, 0, none⟩) 2 2, .slice (some ⟨w.heap.size + 1 + 1, 0, none⟩) 2 2] 35)
 refine ⟨w', e, ⟨rfl, fun j hj => ?_, fun k hk => ?_, _, h3, fun k hk => ?_⟩, hb, hz⟩
 ·have hj : j < 3 := hj
  rcases (by omega : j = 0 ∨ j = 1 ∨ j = 2) with rfl | rfl | rfl <;> rfl
 ·rcases (by omega : k = 0 ∨ k = 1 ∨ k = 2) with rfl | rfl | rfl
  ·exact h0
  ·exact h1
  ·exact h2
 ·rcases (by omega : k = 0 ∨ k = 1 ∨ k = 2) with rfl | rfl | rfl <;> rfl
end Go.Proofs.YtmaefilliggjiaaGreat
