/- The draws of the law on severity: a system, its cuts and a number, or a key (an outsider that opens a door, or any). No conditions. -/
import Derived.Test.YtmjplkbmhdkggaaGreatMFindD
import Derived.Test.YtmjplkbmhdkggaaGreatMGhosts
import Derived.Test.YtmjplkbmhdkggaaGreatMShelf0
import Derived.Test.YtmjplkbmhdkggaaGreatMStops
import Derived.Test.YtmjplkbmhdkggaaGreatMNext
import Derived.Test.YtmjplkbmhdkggaaGreatMEach5
namespace Go.Proofs.YtmjplkbmhdkggaaGreat
open Go.RowKit
set_option linter.unusedVariables false
set_option linter.unusedSimpArgs false
set_option maxRecDepth 100000 in
set_option maxHeartbeats 2000000 in
theorem DrawWorstGhosts_any {S : Nat → Prop} (v : Value) (l : List Int) (W : World) (h : VB S W v l) :
  Calls Tryz.prog 44 #[v] W (DrawCi W) := by
 obtain ⟨a, c, rfl, hm⟩ := h.form
 obtain ⟨W1, hW1, hB01, hz01, HZ01, _, hh01⟩ := box_facts W #[.int .i64 0, .int .i64 0, .int .i64 0, .int .i64 0, .int .i64 0, .slice none 0 0] 33
 have hz1e := HZ01.out
 have hz1l : W1.heap.size ≤ W.heap.size + 1 := by omega
 have HL := Lib.hid (And.intro (h.below hB01) (And.intro hB01 (And.intro hh01 hW1))); clear h hh01 hB01 hz1e
 go_enter Tryz.func44, Tryz.ntmps44
 go_wp2_with fail
 rw [← HL.out.2.2.2]
 clear hW1
 refine (DrawSystemGhosts_any _ l W1 HL.out.1).mono ?_
 rintro e' w2 hD
 obtain ⟨m, u, cv, T, cuts, n, rfl, hu, hcv, hb2⟩ := hD.open
 obtain ⟨ta, tc, rfl, _⟩ := hu.form
 obtain ⟨ca, cc, rfl, _⟩ := hcv.form
 have hz2 := hb2.size
 have H3 := Lib.hid (And.intro (HL.out.2.1.trans (hb2.mono (by omega))) (And.intro ((hb2.block _ hz01).trans HL.out.2.2.1) (And.intro hu hcv))); clear hb2 hu hcv
 have hcRz : ∀ o, w2.cell? ⟨W.heap.size, o, none⟩ = (#[.int .i64 0, .int .i64 0, .int .i64 0, .int .i64 0, .int .i64 0, .slice none 0 0] : Array Value)[o]? := fun o => by rw [cell_of_block H3.out.2.1]
 have hfRz := fun o => frozen_of_block H3.out.2.1 o
 have hdone := putS_new H3.out.1 H3.out.2.1 (.int .i64 m.c) (.int .i64 m.d) (.int .i64 m.s) (.int .i64 m.e) (.int .i64 m.l) (.slice ta T.length tc)
 obtain ⟨wz, hwz⟩ : ∃ wz, wz = putS w2 W.heap.size (.int .i64 m.c) (.int .i64 m.d) (.int .i64 m.s) (.int .i64 m.e) (.int .i64 m.l) (.slice ta T.length tc) := ⟨_, rfl⟩
 rw [← hwz] at hdone
 obtain ⟨hd2, hd3, hd4⟩ := hdone
 have hFz : V2 (fun b => W.heap.size ≤ b) wz (.slice ta T.length tc) T := V2.mono (S := fun b => W1.heap.size ≤ b) H3.out.2.2.1 (fun b hb _ => by have hb : W1.heap.size ≤ b := hb; omega) (fun b hb _ => hd4 b (by have hb : W1.heap.size ≤ b := hb; omega))
 have hcz : V2 (fun b => W.heap.size ≤ b) wz (.slice ca cuts.length cc) cuts := V2.mono (S := fun b => W1.heap.size ≤ b) H3.out.2.2.2 (fun b hb _ => by have hb : W1.heap.size ≤ b := hb; omega) (fun b hb _ => hd4 b (by have hb : W1.heap.size ≤ b := hb; omega))
 have hz0 : wz.cell? ⟨W.heap.size, 0, none⟩ = some (.int .i64 m.c) := by rw [cell_of_block hd3]; rfl
 have hz1 : wz.cell? ⟨W.heap.size, 1, none⟩ = some (.int .i64 m.d) := by rw [cell_of_block hd3]; rfl
 have hz2 : wz.cell? ⟨W.heap.size, 2, none⟩ = some (.int .i64 m.s) := by rw [cell_of_block hd3]; rfl
 have hz3 : wz.cell? ⟨W.heap.size, 3, none⟩ = some (.int .i64 m.e) := by rw [cell_of_block hd3]; rfl
 have hz4 : wz.cell? ⟨W.heap.size, 4, none⟩ = some (.int .i64 m.l) := by rw [cell_of_block hd3]; rfl
 have hz5 : wz.cell? ⟨W.heap.size, 5, none⟩ = some (.slice ta T.length tc) := by rw [cell_of_block hd3]; rfl
 have HZ := Lib.hid (And.intro hd2 (And.intro hFz (And.intro hcz (And.intro hwz (And.intro hz0 (And.intro hz1 (And.intro hz2 (And.intro hz3 (And.intro hz4 (And.intro hz5 hd4)))))))))); clear hd2 hd3 hd4 hFz hcz hwz hz0 hz1 hz2 hz3 hz4 hz5
 go_wp2_with fail
 have hwz := HZ.out.2.2.2.1
 unfold putS putR at hwz
 rw [← hwz]
 clear hwz
 obtain ⟨hd2, hFz, hcz, hwzz, hz0, hz1, hz2, hz3, hz4, hz5, hd4⟩ := HZ.out
 clear hwzz
 exact bodyPost_ret (v := .tuple #[.agg #[.int .i64 m.c, .int .i64 m.d, .int .i64 m.s, .int .i64 m.e, .int .i64 m.l, .slice ta T.length tc], .slice ca cuts.length cc, .int .i64 n]) (by simp [results, Tryz.results44, go_sem, hz0, hz1, hz2, hz3, hz4, hz5]) rfl ⟨m, _, _, T, cuts, [.int .i64 n], rfl, ⟨_, rfl⟩, hFz, hcz, hd2⟩
set_option maxRecDepth 100000 in
set_option maxHeartbeats 4000000 in
theorem DrawSeverityOf_any {S : Nat → Prop} (v : Value) (l : List Int) (W : World) (h : VB S W v l) :
  Calls Tryz.prog 45 #[v] W (DrawCk W) := by
 obtain ⟨a, c, rfl, hm⟩ := h.form
 obtain ⟨W1, hW1, hB01, hz01, HZ01, _, hh01⟩ := box_facts W #[.int .i64 0, .int .i64 0, .int .i64 0, .int .i64 0, .int .i64 0, .slice none 0 0] 33
 have hz1e := HZ01.out
 have hz1l : W1.heap.size ≤ W.heap.size + 1 := by omega
 have HL := Lib.hid (And.intro (h.below hB01) (And.intro hB01 (And.intro hh01 hW1))); clear h hh01 hB01 hz1e
 go_enter Tryz.func45, Tryz.ntmps45
 go_wp2_with fail
 rw [← HL.out.2.2.2]
 clear hW1
 refine (l01From_any _ l W1 HL.out.1).mono ?_
 rintro e' w2 ⟨rfl, hs2, hb2⟩
 have hz2 := hb2.size
 have H2 := Lib.hid (And.intro hs2 (And.intro hb2 ((hb2.block _ hz01).trans HL.out.2.2.1))); clear hs2 hb2
 go_wp2_with fail
 refine (l21Draw_any W1.heap.size W1.heap.size w2 H2.out.1).mono ?_
 rintro e' w3 ⟨m, u, cv, T, cuts, rfl, hsm, hu, hcv, hs3, ho3⟩
 have hz3 := ho3.size
 have hz23 : W1.heap.size < w2.heap.size := H2.out.1.lt
 obtain ⟨ta, tc, rfl, _⟩ := hu.form
 obtain ⟨ca, cc, rfl, _⟩ := hcv.form
 have hRw := ho3.heap H2.out.2.2 (fun e => by omega)
 have hBw : Below W.heap.size W w3 := HL.out.2.1.trans ((H2.out.2.1.trans (ho3.to_below (Nat.le_refl _) (by omega))).mono (by omega))
 obtain ⟨w4, hw4⟩ : ∃ w4, w4 = w3.alloc (.cells #[.int .i64 m.c, .int .i64 m.d, .int .i64 m.s, .int .i64 m.e, .int .i64 m.l, .slice ta T.length tc] 33) := ⟨_, rfl⟩
 have hb34 : Below w3.heap.size w3 w4 := by rw [hw4]; exact (Below.refl _ _).alloc (Nat.le_refl _) _
 have hM4 : w4.heap[w3.heap.size]? = some (.cells #[.int .i64 m.c, .int .i64 m.d, .int .i64 m.s, .int .i64 m.e, .int .i64 m.l, .slice ta T.length tc] 33 (0, 0)) := by rw [hw4]; exact heap_alloc_self _ _
 have hz4 : w3.heap.size < w4.heap.size := lt_of_heap hM4
 have H4 := Lib.hid (And.intro (hs3.below hb34) (And.intro (hBw.trans (hb34.mono (by omega))) (And.intro hM4 (And.intro ((hb34.block _ (by omega)).trans hRw) (And.intro (hu.below hb34) (And.intro (hcv.below hb34) (And.intro hsm hw4))))))); clear hs3 ho3 hRw hBw hb34 hM4 hu hcv hsm hw4
 have hcM : ∀ o, w4.cell? ⟨w3.heap.size, o, none⟩ = (#[.int .i64 m.c, .int .i64 m.d, .int .i64 m.s, .int .i64 m.e, .int .i64 m.l, .slice ta T.length tc] : Array Value)[o]? := fun o => by rw [cell_of_block H4.out.2.2.1]
 have hSk : ∀ w' : World, w'.heap[w3.heap.size]? = w4.heap[w3.heap.size]? → w'.cell? ⟨w3.heap.size, 0, none⟩ = some (.int .i64 m.c) ∧ w'.cell? ⟨w3.heap.size, 1, none⟩ = some (.int .i64 m.d) ∧ w'.cell? ⟨w3.heap.size, 2, none⟩ = some (.int .i64 m.s) ∧ w'.cell? ⟨w3.heap.size, 3, none⟩ = some (.int .i64 m.e) ∧ w'.cell? ⟨w3.heap.size, 4, none⟩ = some (.int .i64 m.l) ∧ w'.cell? ⟨w3.heap.size, 5, none⟩ = some (.slice ta T.length tc) := fun w' hw => by
  refine ⟨?_, ?_, ?_, ?_, ?_, ?_⟩ <;> exact cell_keep (hcM _) hw
 go_wp2_with fail
 rw [← H4.out.2.2.2.2.2.2.2]
 obtain ⟨r, hr⟩ : ∃ r, designB m T cuts = r := ⟨_, rfl⟩
 refine (IsDesignR_b m _ _ T cuts _ r hr H4.out.2.2.2.2.1 H4.out.2.2.2.2.2.1).mono ?_
 rintro e' w5 ⟨rfl, hb5⟩
 have hz5' := hb5.size
 have ho5 : Only W1.heap.size w4 w5 := Only.of_below hb5
 have hM5 := hb5.block _ hz4
 have hcM5 : ∀ o, w5.cell? ⟨w3.heap.size, o, none⟩ = (#[.int .i64 m.c, .int .i64 m.d, .int .i64 m.s, .int .i64 m.e, .int .i64 m.l, .slice ta T.length tc] : Array Value)[o]? := fun o => by rw [World.cell?_of_block (w := w4) (a := ⟨w3.heap.size, o, none⟩) hM5]; exact hcM o
 have H5 := Lib.hid (And.intro (H4.out.1.below hb5) ho5); clear ho5 hb5 hcM
 cases r
 ·have Hr := Lib.hid hr; clear hr
  go_wp2_with fail
  refine wp_region_noPanic ?_
  refine wp_region_held_drew (S := fun w' => w'.cell? ⟨w3.heap.size, 0, none⟩ = some (.int .i64 m.c) ∧ w'.cell? ⟨w3.heap.size, 1, none⟩ = some (.int .i64 m.d) ∧ w'.cell? ⟨w3.heap.size, 2, none⟩ = some (.int .i64 m.s) ∧ w'.cell? ⟨w3.heap.size, 3, none⟩ = some (.int .i64 m.e) ∧ w'.cell? ⟨w3.heap.size, 4, none⟩ = some (.int .i64 m.l) ∧ w'.cell? ⟨w3.heap.size, 5, none⟩ = some (.slice ta T.length tc)) (by kernel_rfl) (hSk w5.drew (hM5)) (fun hHeld => ?_)
  (refine wpAnyH_take (i := 0) (v := .agg #[.int .i64 m.c, .int .i64 m.d, .int .i64 m.s, .int .i64 m.e, .int .i64 m.l, .slice ta T.length tc]) rfl (by kernel_rfl) (by kernel_rfl) (by kernel_rfl) (fun _ _ _ h => h) (Or.inl ⟨by kernel_rfl, fun w hSw => by (try dsimp only at hSw); go_split_ands; go_simp⟩) (by assumption) ?_; simp only [Act.put, List.setIfInBounds_toArray, List.set_cons_zero, List.set_cons_succ])
  (refine wpAnyH_take (i := 1) (v := .slice ca cuts.length cc) rfl (by kernel_rfl) (by kernel_rfl) (by kernel_rfl) (fun _ _ _ h => h) (Or.inl ⟨by kernel_rfl, fun w hSw => by (try dsimp only at hSw); go_split_ands; go_simp⟩) (by assumption) ?_; simp only [Act.put, List.setIfInBounds_toArray, List.set_cons_zero, List.set_cons_succ])
  (refine wpAnyH_take (i := 2) (v := .pointer (some ⟨W1.heap.size, 0, none⟩)) rfl (by kernel_rfl) (by kernel_rfl) (by kernel_rfl) (fun _ _ _ h => h) (Or.inl ⟨by kernel_rfl, fun w hSw => by (try dsimp only at hSw); go_split_ands; go_simp⟩) (by assumption) ?_; simp only [Act.put, List.setIfInBounds_toArray, List.set_cons_zero, List.set_cons_succ])
  (refine wpAnyH_take (i := 3) (v := .pointer (some ⟨w3.heap.size, 0, none⟩)) rfl (by kernel_rfl) (by kernel_rfl) (by kernel_rfl) (fun _ _ _ h => h) (Or.inl ⟨by kernel_rfl, fun w hSw => by (try dsimp only at hSw); go_split_ands; go_simp⟩) (by assumption) ?_; simp only [Act.put, List.setIfInBounds_toArray, List.set_cons_zero, List.set_cons_succ])
  (refine wpAnyH_take (i := 4) (v := .agg #[.int .i64 m.c, .int .i64 m.d, .int .i64 m.s, .int .i64 m.e, .int .i64 m.l]) rfl (by kernel_rfl) (by kernel_rfl) (by kernel_rfl) (fun _ _ _ h => h) (Or.inl ⟨by kernel_rfl, fun w hSw => by (try dsimp only at hSw); go_split_ands; go_simp⟩) (by assumption) ?_; simp only [Act.put, List.setIfInBounds_toArray, List.set_cons_zero, List.set_cons_succ])
  refine wpAnyH_ready (rs := [5]) (by kernel_rfl) (by simp) (AllReadyH.cons rfl (fun K hK => ?_) AllReadyH.nil)
  go_simp
  go_at_call 108
  refine (l02DrawKey_any W1.heap.size W1.heap.size m H4.out.2.2.2.2.2.2.1 _ (H5.out.1.below ((Below.refl _ _).drew))).mono ?_
  rintro e' wb ⟨kv, key, rfl, hkv, hsb, hob⟩
  have hob4 : Only W1.heap.size w4 wb := H5.out.2.trans ((Only.of_below ((Below.refl (w5).heap.size (w5)).drew)).trans hob)
  have hz5 := (H5.out.2).size
  obtain ⟨xa, xc, rfl, _⟩ := hkv.form
  have hKV : V1 (fun b => W1.heap.size ≤ b) wb (.slice xa key.length xc) key := hkv.mono (fun b hb _ => by have hb : (w5).heap.size ≤ b := hb; omega) (fun _ _ _ => rfl)
  have HK := Lib.hid hKV; clear hkv hKV hsb hob hcM5
  have hzb := hob4.size
  have hMb : wb.heap[w3.heap.size]? = w4.heap[w3.heap.size]? := hob4.block _ (by omega) (fun e => by omega)
  have hBb : Below W.heap.size W wb := H4.out.2.1.trans ((hob4.to_below (B := W1.heap.size) (Nat.le_refl _) (by omega)).mono (by omega))
  have hRb := hob4.heap H4.out.2.2.2.1 (fun e => by omega)
  have hub := H4.out.2.2.2.2.1.mono (S' := fun b => W1.heap.size ≤ b) (fun b hb _ => by have hb : w2.heap.size ≤ b := hb; omega) (hob4.keep fun b hb e => by have hb : w2.heap.size ≤ b := hb; omega)
  have hcb := H4.out.2.2.2.2.2.1.mono (S' := fun b => W1.heap.size ≤ b) (fun b hb _ => by have hb : w2.heap.size ≤ b := hb; omega) (hob4.keep fun b hb e => by have hb : w2.heap.size ≤ b := hb; omega)
  have hC := Lib.hid (And.intro hBb (And.intro hRb (And.intro hub (And.intro hcb hMb)))); clear hBb hRb hub hcb
  dsimp only
  (refine hK.out _ _ (hSk wb hMb) (fun hHeld => ?_); clear hK K; (try simp only [Act.put, List.setIfInBounds_toArray, List.set_cons_zero, List.set_cons_succ]))
  have hcRz : ∀ o, wb.cell? ⟨W.heap.size, o, none⟩ = (#[.int .i64 0, .int .i64 0, .int .i64 0, .int .i64 0, .int .i64 0, .slice none 0 0] : Array Value)[o]? := fun o => by rw [cell_of_block hC.out.2.1]
  have hfRz := fun o => frozen_of_block hC.out.2.1 o
  (refine wpAnyH_ready (rs := [6]) (by kernel_rfl) (by simp) (AllReadyH.cons rfl (fun K hK => ?_) AllReadyH.nil); go_simp)
  have hdone := putS_new hC.out.1 hC.out.2.1 (.int .i64 m.c) (.int .i64 m.d) (.int .i64 m.s) (.int .i64 m.e) (.int .i64 m.l) (.slice ta T.length tc)
  obtain ⟨wz, hwz⟩ : ∃ wz, wz = putS wb W.heap.size (.int .i64 m.c) (.int .i64 m.d) (.int .i64 m.s) (.int .i64 m.e) (.int .i64 m.l) (.slice ta T.length tc) := ⟨_, rfl⟩
  rw [← hwz] at hdone
  obtain ⟨hd2, hd3, hd4⟩ := hdone
  have hFz : V2 (fun b => W.heap.size ≤ b) wz (.slice ta T.length tc) T := V2.mono (S := fun b => W1.heap.size ≤ b) hC.out.2.2.1 (fun b hb _ => by have hb : W1.heap.size ≤ b := hb; omega) (fun b hb _ => hd4 b (by have hb : W1.heap.size ≤ b := hb; omega))
  have hcz : V2 (fun b => W.heap.size ≤ b) wz (.slice ca cuts.length cc) cuts := V2.mono (S := fun b => W1.heap.size ≤ b) hC.out.2.2.2.1 (fun b hb _ => by have hb : W1.heap.size ≤ b := hb; omega) (fun b hb _ => hd4 b (by have hb : W1.heap.size ≤ b := hb; omega))
  have hz0 : wz.cell? ⟨W.heap.size, 0, none⟩ = some (.int .i64 m.c) := by rw [cell_of_block hd3]; rfl
  have hz1 : wz.cell? ⟨W.heap.size, 1, none⟩ = some (.int .i64 m.d) := by rw [cell_of_block hd3]; rfl
  have hz2 : wz.cell? ⟨W.heap.size, 2, none⟩ = some (.int .i64 m.s) := by rw [cell_of_block hd3]; rfl
  have hz3 : wz.cell? ⟨W.heap.size, 3, none⟩ = some (.int .i64 m.e) := by rw [cell_of_block hd3]; rfl
  have hz4 : wz.cell? ⟨W.heap.size, 4, none⟩ = some (.int .i64 m.l) := by rw [cell_of_block hd3]; rfl
  have hz5 : wz.cell? ⟨W.heap.size, 5, none⟩ = some (.slice ta T.length tc) := by rw [cell_of_block hd3]; rfl
  have HZ := Lib.hid (And.intro hd2 (And.intro hFz (And.intro hcz (And.intro hwz (And.intro hz0 (And.intro hz1 (And.intro hz2 (And.intro hz3 (And.intro hz4 (And.intro hz5 hd4)))))))))); clear hd2 hd3 hd4 hFz hcz hwz hz0 hz1 hz2 hz3 hz4 hz5
  skip
  have hwz := HZ.out.2.2.2.1
  unfold putS putR at hwz
  rw [← hwz]
  clear hwz
  obtain ⟨hd2, hFz, hcz, hwzz, hz0, hz1, hz2, hz3, hz4, hz5, hd4⟩ := HZ.out
  clear hwzz
  have hSz := hSk wz ((hd4 _ (by omega)).trans hMb)
  (refine hK.out _ _ hSz (fun hHeld => ?_); clear hK K; (try simp only [Act.put, List.setIfInBounds_toArray, List.set_cons_zero, List.set_cons_succ]))
  (refine wpAnyH_ready (rs := [7]) (by kernel_rfl) (by simp) (AllReadyH.cons rfl (fun K hK => ?_) AllReadyH.nil); go_simp)
  (refine hK.out _ _ hSz (fun hHeld => ?_); clear hK K; (try simp only [Act.put, List.setIfInBounds_toArray, List.set_cons_zero, List.set_cons_succ]))
  (refine wpAnyH_ready (rs := [8]) (by kernel_rfl) (by simp) (AllReadyH.cons rfl (fun K hK => ?_) AllReadyH.nil); go_simp)
  (refine hK.out _ _ hSz (fun hHeld => ?_); clear hK K; (try simp only [Act.put, List.setIfInBounds_toArray, List.set_cons_zero, List.set_cons_succ]))
  refine wpAnyH_done (by kernel_rfl) (NoPanic.normal ?_) _
  go_wp2_with fail
  have hkz : V1 (fun b => W.heap.size ≤ b) wz (.slice xa key.length xc) key := V1.mono (S := fun b => W1.heap.size ≤ b) HK.out (fun b hb _ => by have hb : W1.heap.size ≤ b := hb; omega) (fun b hb _ => hd4 b (by have hb : W1.heap.size ≤ b := hb; omega))
  exact bodyPost_ret (v := .tuple #[.agg #[.int .i64 m.c, .int .i64 m.d, .int .i64 m.s, .int .i64 m.e, .int .i64 m.l, .slice ta T.length tc], .slice ca cuts.length cc, (.slice xa key.length xc)]) (by simp [results, Tryz.results45, go_sem, hz0, hz1, hz2, hz3, hz4, hz5]) rfl ⟨m, _, _, T, cuts, [(.slice xa key.length xc)], rfl, ⟨_, _, rfl, hkz⟩, hFz, hcz, hd2⟩
 ·have hdc : designC m T cuts = 0 := by unfold designC; rw [if_pos hr]
  obtain ⟨hf, hcl⟩ := design_fits hdc
  have hT5 := V2.mono (S' := fun b => w2.heap.size ≤ b) H4.out.2.2.2.2.1 (fun _ h _ => h) (H5.out.2.keep fun b hb e => by have hb : w2.heap.size ≤ b := hb; omega)
  have hC5 := V2.mono (S' := fun b => w2.heap.size ≤ b) H4.out.2.2.2.2.2.1 (fun _ h _ => h) (H5.out.2.keep fun b hb e => by have hb : w2.heap.size ≤ b := hb; omega)
  have HD := Lib.hid (And.intro hf (And.intro hT5 hC5)); clear hr hdc hf hcl hT5 hC5
  go_wp2_with fail
  refine (l01Next_any W1.heap.size W1.heap.size 2 _ H5.out.1).mono ?_
  rintro e' w6 ⟨q, rfl, _, hs6, ho6⟩
  have hz6' := ho6.size
  have hM6 : w6.heap[w3.heap.size]? = w4.heap[w3.heap.size]? := (ho6.block _ (by omega) (fun e => by omega)).trans hM5
  have hcM6 : ∀ o, w6.cell? ⟨w3.heap.size, o, none⟩ = (#[.int .i64 m.c, .int .i64 m.d, .int .i64 m.s, .int .i64 m.e, .int .i64 m.l, .slice ta T.length tc] : Array Value)[o]? := fun o => by rw [World.cell?_of_block (w := w4) (a := ⟨w3.heap.size, o, none⟩) hM6]; rw [cell_of_block H4.out.2.2.1]
  have hkp : Keep (fun b => w2.heap.size ≤ b) w5 w6 := ho6.keep fun b hb e => by have hb : w2.heap.size ≤ b := hb; omega
  have H6 := Lib.hid (And.intro hs6 (And.intro (H5.out.2.trans ho6) (And.intro (HD.out.2.1.mono (S' := fun _ => True) (fun _ _ _ => trivial) hkp) (HD.out.2.2.mono (S' := fun _ => True) (fun _ _ _ => trivial) hkp)))); clear hs6 ho6 hkp hcM5
  by_cases hq : q = 0
  ·subst hq
   obtain ⟨n, hn⟩ : ∃ n : Nat, (n : Int) = m.c := ⟨m.c.toNat, by have := (Mk.ok_iff.1 HD.out.1.ok).1; omega⟩
   obtain ⟨ol, hol⟩ : ∃ ol, selL (locksTo n T cuts (getl T 0).length) cuts true (keysOf m) = ol := ⟨_, rfl⟩
   have hout := l21Outsiders_fr m _ _ T cuts n true w6 HD.out.1 hn H6.out.2.2.1 H6.out.2.2.2
   rw [hol] at hout
   have Hout := Lib.hid hout; clear hout hn hol
   go_wp2_with fail
   refine Hout.out.mono ?_
   rintro e' w7 ⟨lv, rfl, hlv, hb7⟩
   obtain ⟨la, lc, rfl, hlm⟩ := hlv.form
   have hz7' := hb7.size
   have hM7 : w7.heap[w3.heap.size]? = w4.heap[w3.heap.size]? := (hb7.block _ (by omega)).trans hM6
   have hcM7 : ∀ o, w7.cell? ⟨w3.heap.size, o, none⟩ = (#[.int .i64 m.c, .int .i64 m.d, .int .i64 m.s, .int .i64 m.e, .int .i64 m.l, .slice ta T.length tc] : Array Value)[o]? := fun o => by rw [World.cell?_of_block (w := w4) (a := ⟨w3.heap.size, o, none⟩) hM7]; rw [cell_of_block H4.out.2.2.1]
   have H7 := Lib.hid (And.intro (H6.out.1.below hb7) (And.intro (H6.out.2.1.then_below hb7) hlv)); clear hb7 hlv hcM6
   by_cases hn0 : ol.length = 0
   ·have hcd : decide ((0 : Int) < (ol.length : Int)) = false := decide_eq_false (by omega)
    have hcd2 : decide (0 < ol.length) = false := decide_eq_false (by omega)
    have Hn0 := Lib.hid hn0; clear hn0
    go_wp2_with fail
    refine wp_region_noPanic ?_
    refine wp_region_held_drew (S := fun w' => w'.cell? ⟨w3.heap.size, 0, none⟩ = some (.int .i64 m.c) ∧ w'.cell? ⟨w3.heap.size, 1, none⟩ = some (.int .i64 m.d) ∧ w'.cell? ⟨w3.heap.size, 2, none⟩ = some (.int .i64 m.s) ∧ w'.cell? ⟨w3.heap.size, 3, none⟩ = some (.int .i64 m.e) ∧ w'.cell? ⟨w3.heap.size, 4, none⟩ = some (.int .i64 m.l) ∧ w'.cell? ⟨w3.heap.size, 5, none⟩ = some (.slice ta T.length tc)) (by kernel_rfl) (hSk w7.drew (hM7)) (fun hHeld => ?_)
    (refine wpAnyH_take (i := 0) (v := .agg #[.int .i64 m.c, .int .i64 m.d, .int .i64 m.s, .int .i64 m.e, .int .i64 m.l, .slice ta T.length tc]) rfl (by kernel_rfl) (by kernel_rfl) (by kernel_rfl) (fun _ _ _ h => h) (Or.inl ⟨by kernel_rfl, fun w hSw => by (try dsimp only at hSw); go_split_ands; go_simp⟩) (by assumption) ?_; simp only [Act.put, List.setIfInBounds_toArray, List.set_cons_zero, List.set_cons_succ])
    (refine wpAnyH_take (i := 1) (v := .slice ca cuts.length cc) rfl (by kernel_rfl) (by kernel_rfl) (by kernel_rfl) (fun _ _ _ h => h) (Or.inl ⟨by kernel_rfl, fun w hSw => by (try dsimp only at hSw); go_split_ands; go_simp⟩) (by assumption) ?_; simp only [Act.put, List.setIfInBounds_toArray, List.set_cons_zero, List.set_cons_succ])
    (refine wpAnyH_take (i := 2) (v := .pointer (some ⟨W1.heap.size, 0, none⟩)) rfl (by kernel_rfl) (by kernel_rfl) (by kernel_rfl) (fun _ _ _ h => h) (Or.inl ⟨by kernel_rfl, fun w hSw => by (try dsimp only at hSw); go_split_ands; go_simp⟩) (by assumption) ?_; simp only [Act.put, List.setIfInBounds_toArray, List.set_cons_zero, List.set_cons_succ])
    (refine wpAnyH_take (i := 3) (v := .pointer (some ⟨w3.heap.size, 0, none⟩)) rfl (by kernel_rfl) (by kernel_rfl) (by kernel_rfl) (fun _ _ _ h => h) (Or.inl ⟨by kernel_rfl, fun w hSw => by (try dsimp only at hSw); go_split_ands; go_simp⟩) (by assumption) ?_; simp only [Act.put, List.setIfInBounds_toArray, List.set_cons_zero, List.set_cons_succ])
    (refine wpAnyH_take (i := 4) (v := .agg #[.int .i64 m.c, .int .i64 m.d, .int .i64 m.s, .int .i64 m.e, .int .i64 m.l]) rfl (by kernel_rfl) (by kernel_rfl) (by kernel_rfl) (fun _ _ _ h => h) (Or.inl ⟨by kernel_rfl, fun w hSw => by (try dsimp only at hSw); go_split_ands; go_simp⟩) (by assumption) ?_; simp only [Act.put, List.setIfInBounds_toArray, List.set_cons_zero, List.set_cons_succ])
    refine wpAnyH_ready (rs := [5]) (by kernel_rfl) (by simp) (AllReadyH.cons rfl (fun K hK => ?_) AllReadyH.nil)
    go_simp
    go_at_call 108
    refine (l02DrawKey_any W1.heap.size W1.heap.size m H4.out.2.2.2.2.2.2.1 _ (H7.out.1.below ((Below.refl _ _).drew))).mono ?_
    rintro e' wb ⟨kv, key, rfl, hkv, hsb, hob⟩
    have hob4 : Only W1.heap.size w4 wb := H7.out.2.1.trans ((Only.of_below ((Below.refl (w7).heap.size (w7)).drew)).trans hob)
    have hz5 := (H7.out.2.1).size
    obtain ⟨xa, xc, rfl, _⟩ := hkv.form
    have hKV : V1 (fun b => W1.heap.size ≤ b) wb (.slice xa key.length xc) key := hkv.mono (fun b hb _ => by have hb : (w7).heap.size ≤ b := hb; omega) (fun _ _ _ => rfl)
    have HK := Lib.hid hKV; clear hkv hKV hsb hob hcM7
    have hzb := hob4.size
    have hMb : wb.heap[w3.heap.size]? = w4.heap[w3.heap.size]? := hob4.block _ (by omega) (fun e => by omega)
    have hBb : Below W.heap.size W wb := H4.out.2.1.trans ((hob4.to_below (B := W1.heap.size) (Nat.le_refl _) (by omega)).mono (by omega))
    have hRb := hob4.heap H4.out.2.2.2.1 (fun e => by omega)
    have hub := H4.out.2.2.2.2.1.mono (S' := fun b => W1.heap.size ≤ b) (fun b hb _ => by have hb : w2.heap.size ≤ b := hb; omega) (hob4.keep fun b hb e => by have hb : w2.heap.size ≤ b := hb; omega)
    have hcb := H4.out.2.2.2.2.2.1.mono (S' := fun b => W1.heap.size ≤ b) (fun b hb _ => by have hb : w2.heap.size ≤ b := hb; omega) (hob4.keep fun b hb e => by have hb : w2.heap.size ≤ b := hb; omega)
    have hC := Lib.hid (And.intro hBb (And.intro hRb (And.intro hub (And.intro hcb hMb)))); clear hBb hRb hub hcb
    dsimp only
    (refine hK.out _ _ (hSk wb hMb) (fun hHeld => ?_); clear hK K; (try simp only [Act.put, List.setIfInBounds_toArray, List.set_cons_zero, List.set_cons_succ]))
    have hcRz : ∀ o, wb.cell? ⟨W.heap.size, o, none⟩ = (#[.int .i64 0, .int .i64 0, .int .i64 0, .int .i64 0, .int .i64 0, .slice none 0 0] : Array Value)[o]? := fun o => by rw [cell_of_block hC.out.2.1]
    have hfRz := fun o => frozen_of_block hC.out.2.1 o
    (refine wpAnyH_ready (rs := [6]) (by kernel_rfl) (by simp) (AllReadyH.cons rfl (fun K hK => ?_) AllReadyH.nil); go_simp)
    have hdone := putS_new hC.out.1 hC.out.2.1 (.int .i64 m.c) (.int .i64 m.d) (.int .i64 m.s) (.int .i64 m.e) (.int .i64 m.l) (.slice ta T.length tc)
    obtain ⟨wz, hwz⟩ : ∃ wz, wz = putS wb W.heap.size (.int .i64 m.c) (.int .i64 m.d) (.int .i64 m.s) (.int .i64 m.e) (.int .i64 m.l) (.slice ta T.length tc) := ⟨_, rfl⟩
    rw [← hwz] at hdone
    obtain ⟨hd2, hd3, hd4⟩ := hdone
    have hFz : V2 (fun b => W.heap.size ≤ b) wz (.slice ta T.length tc) T := V2.mono (S := fun b => W1.heap.size ≤ b) hC.out.2.2.1 (fun b hb _ => by have hb : W1.heap.size ≤ b := hb; omega) (fun b hb _ => hd4 b (by have hb : W1.heap.size ≤ b := hb; omega))
    have hcz : V2 (fun b => W.heap.size ≤ b) wz (.slice ca cuts.length cc) cuts := V2.mono (S := fun b => W1.heap.size ≤ b) hC.out.2.2.2.1 (fun b hb _ => by have hb : W1.heap.size ≤ b := hb; omega) (fun b hb _ => hd4 b (by have hb : W1.heap.size ≤ b := hb; omega))
    have hz0 : wz.cell? ⟨W.heap.size, 0, none⟩ = some (.int .i64 m.c) := by rw [cell_of_block hd3]; rfl
    have hz1 : wz.cell? ⟨W.heap.size, 1, none⟩ = some (.int .i64 m.d) := by rw [cell_of_block hd3]; rfl
    have hz2 : wz.cell? ⟨W.heap.size, 2, none⟩ = some (.int .i64 m.s) := by rw [cell_of_block hd3]; rfl
    have hz3 : wz.cell? ⟨W.heap.size, 3, none⟩ = some (.int .i64 m.e) := by rw [cell_of_block hd3]; rfl
    have hz4 : wz.cell? ⟨W.heap.size, 4, none⟩ = some (.int .i64 m.l) := by rw [cell_of_block hd3]; rfl
    have hz5 : wz.cell? ⟨W.heap.size, 5, none⟩ = some (.slice ta T.length tc) := by rw [cell_of_block hd3]; rfl
    have HZ := Lib.hid (And.intro hd2 (And.intro hFz (And.intro hcz (And.intro hwz (And.intro hz0 (And.intro hz1 (And.intro hz2 (And.intro hz3 (And.intro hz4 (And.intro hz5 hd4)))))))))); clear hd2 hd3 hd4 hFz hcz hwz hz0 hz1 hz2 hz3 hz4 hz5
    skip
    have hwz := HZ.out.2.2.2.1
    unfold putS putR at hwz
    rw [← hwz]
    clear hwz
    obtain ⟨hd2, hFz, hcz, hwzz, hz0, hz1, hz2, hz3, hz4, hz5, hd4⟩ := HZ.out
    clear hwzz
    have hSz := hSk wz ((hd4 _ (by omega)).trans hMb)
    (refine hK.out _ _ hSz (fun hHeld => ?_); clear hK K; (try simp only [Act.put, List.setIfInBounds_toArray, List.set_cons_zero, List.set_cons_succ]))
    (refine wpAnyH_ready (rs := [7]) (by kernel_rfl) (by simp) (AllReadyH.cons rfl (fun K hK => ?_) AllReadyH.nil); go_simp)
    (refine hK.out _ _ hSz (fun hHeld => ?_); clear hK K; (try simp only [Act.put, List.setIfInBounds_toArray, List.set_cons_zero, List.set_cons_succ]))
    (refine wpAnyH_ready (rs := [8]) (by kernel_rfl) (by simp) (AllReadyH.cons rfl (fun K hK => ?_) AllReadyH.nil); go_simp)
    (refine hK.out _ _ hSz (fun hHeld => ?_); clear hK K; (try simp only [Act.put, List.setIfInBounds_toArray, List.set_cons_zero, List.set_cons_succ]))
    refine wpAnyH_done (by kernel_rfl) (NoPanic.normal ?_) _
    go_wp2_with fail
    have hkz : V1 (fun b => W.heap.size ≤ b) wz (.slice xa key.length xc) key := V1.mono (S := fun b => W1.heap.size ≤ b) HK.out (fun b hb _ => by have hb : W1.heap.size ≤ b := hb; omega) (fun b hb _ => hd4 b (by have hb : W1.heap.size ≤ b := hb; omega))
    exact bodyPost_ret (v := .tuple #[.agg #[.int .i64 m.c, .int .i64 m.d, .int .i64 m.s, .int .i64 m.e, .int .i64 m.l, .slice ta T.length tc], .slice ca cuts.length cc, (.slice xa key.length xc)]) (by simp [results, Tryz.results45, go_sem, hz0, hz1, hz2, hz3, hz4, hz5]) rfl ⟨m, _, _, T, cuts, [(.slice xa key.length xc)], rfl, ⟨_, _, rfl, hkz⟩, hFz, hcz, hd2⟩
   ·have hcd : decide ((0 : Int) < (ol.length : Int)) = true := decide_eq_true (by omega)
    have hcd2 : decide (0 < ol.length) = true := decide_eq_true (by omega)
    have hpos : 0 < ol.length := by omega
    have hcn : ¬ ol = [] := fun e => hn0 (by rw [e]; rfl)
    obtain ⟨bq, oq, _, _, rfl, hbq, hcq0, _⟩ := H7.out.2.2.cell (k := 0) hpos
    have hbq : w6.heap.size ≤ bq := hbq
    have hbql : bq < w7.heap.size := lt_of_cell hcq0
    clear hcq0 hn0 hcn
    have hS2 : ∀ w' : World, w'.heap[w3.heap.size]? = w4.heap[w3.heap.size]? → w'.heap[bq]? = w7.heap[bq]? → (w'.cell? ⟨w3.heap.size, 0, none⟩ = some (.int .i64 m.c) ∧ w'.cell? ⟨w3.heap.size, 1, none⟩ = some (.int .i64 m.d) ∧ w'.cell? ⟨w3.heap.size, 2, none⟩ = some (.int .i64 m.s) ∧ w'.cell? ⟨w3.heap.size, 3, none⟩ = some (.int .i64 m.e) ∧ w'.cell? ⟨w3.heap.size, 4, none⟩ = some (.int .i64 m.l) ∧ w'.cell? ⟨w3.heap.size, 5, none⟩ = some (.slice ta T.length tc)) ∧ ∀ i, w'.cell? ⟨bq, i, none⟩ = w7.cell? ⟨bq, i, none⟩ := fun w' h1 h2 => ⟨hSk w' h1, fun i => World.cell?_of_block (w := w7) (a := ⟨bq, i, none⟩) h2⟩
    go_wp2_with fail
    refine wp_region_noPanic ?_
    refine wp_region_held_drew (S := fun w' => (w'.cell? ⟨w3.heap.size, 0, none⟩ = some (.int .i64 m.c) ∧ w'.cell? ⟨w3.heap.size, 1, none⟩ = some (.int .i64 m.d) ∧ w'.cell? ⟨w3.heap.size, 2, none⟩ = some (.int .i64 m.s) ∧ w'.cell? ⟨w3.heap.size, 3, none⟩ = some (.int .i64 m.e) ∧ w'.cell? ⟨w3.heap.size, 4, none⟩ = some (.int .i64 m.l) ∧ w'.cell? ⟨w3.heap.size, 5, none⟩ = some (.slice ta T.length tc)) ∧ ∀ i, w'.cell? ⟨bq, i, none⟩ = w7.cell? ⟨bq, i, none⟩) (by kernel_rfl) (hS2 w7.drew hM7 rfl) (fun hHeld => ?_)
    (refine wpAnyH_take (i := 0) (v := .agg #[.int .i64 m.c, .int .i64 m.d, .int .i64 m.s, .int .i64 m.e, .int .i64 m.l, .slice ta T.length tc]) rfl (by kernel_rfl) (by kernel_rfl) (by kernel_rfl) (fun _ _ _ h => h) (Or.inl ⟨by kernel_rfl, fun w hSw => by (try dsimp only at hSw); go_split_ands; go_simp⟩) (by assumption) ?_; simp only [Act.put, List.setIfInBounds_toArray, List.set_cons_zero, List.set_cons_succ])
    (refine wpAnyH_take (i := 1) (v := .slice ca cuts.length cc) rfl (by kernel_rfl) (by kernel_rfl) (by kernel_rfl) (fun _ _ _ h => h) (Or.inl ⟨by kernel_rfl, fun w hSw => by (try dsimp only at hSw); go_split_ands; go_simp⟩) (by assumption) ?_; simp only [Act.put, List.setIfInBounds_toArray, List.set_cons_zero, List.set_cons_succ])
    (refine wpAnyH_take (i := 2) (v := .slice (some ⟨bq, oq, none⟩) ol.length lc) rfl (by kernel_rfl) (by kernel_rfl) (by kernel_rfl) (fun _ _ _ h => h) (Or.inl ⟨by kernel_rfl, fun w hSw => by (try dsimp only at hSw); go_split_ands; go_simp⟩) (by assumption) ?_; simp only [Act.put, List.setIfInBounds_toArray, List.set_cons_zero, List.set_cons_succ])
    (refine wpAnyH_take (i := 3) (v := .pointer (some ⟨W1.heap.size, 0, none⟩)) rfl (by kernel_rfl) (by kernel_rfl) (by kernel_rfl) (fun _ _ _ h => h) (Or.inl ⟨by kernel_rfl, fun w hSw => by (try dsimp only at hSw); go_split_ands; go_simp⟩) (by assumption) ?_; simp only [Act.put, List.setIfInBounds_toArray, List.set_cons_zero, List.set_cons_succ])
    (refine wpAnyH_take (i := 4) (v := .slice (some ⟨bq, oq, none⟩) ol.length lc) rfl (by kernel_rfl) (by kernel_rfl) (by kernel_rfl) (fun _ _ _ h => h) (Or.inl ⟨by kernel_rfl, fun w hSw => by (try dsimp only at hSw); go_split_ands; go_simp⟩) (by assumption) ?_; simp only [Act.put, List.setIfInBounds_toArray, List.set_cons_zero, List.set_cons_succ])
    (refine wpAnyH_take (i := 5) (v := .int .i64 (ol.length : Int)) rfl (by kernel_rfl) (by kernel_rfl) (by kernel_rfl) (fun _ _ _ h => h) (Or.inl ⟨by kernel_rfl, fun w hSw => by (try dsimp only at hSw); go_split_ands; go_simp⟩) (by assumption) ?_; simp only [Act.put, List.setIfInBounds_toArray, List.set_cons_zero, List.set_cons_succ])
    refine wpAnyH_ready (rs := [6]) (by kernel_rfl) (by simp) (AllReadyH.cons rfl (fun K hK => ?_) AllReadyH.nil)
    go_simp
    go_at_call 78
    refine (l01Next_any W1.heap.size W1.heap.size _ _ (H7.out.1.below ((Below.refl _ _).drew))).mono ?_
    rintro e' wb ⟨y, rfl, ⟨hy0, hy1⟩, hsb, hob⟩
    obtain ⟨k, rfl⟩ : ∃ k : Nat, y = (k : Int) := ⟨y.toNat, by omega⟩
    have hk : k < ol.length := by omega
    have hk1 : ¬ ol.length ≤ k := by omega
    have hob7 : Only W1.heap.size w7 wb := (Only.of_below ((Below.refl w7.heap.size w7).drew)).trans hob
    have hob4 : Only W1.heap.size w4 wb := H7.out.2.1.trans hob7
    have hz5 := H7.out.2.1.size
    have hbb : wb.heap[bq]? = w7.heap[bq]? := hob7.block _ hbql (fun e => by omega)
    clear hsb hob hcM7 hy0 hy1
    have hzb := hob4.size
    have hMb : wb.heap[w3.heap.size]? = w4.heap[w3.heap.size]? := hob4.block _ (by omega) (fun e => by omega)
    have hBb : Below W.heap.size W wb := H4.out.2.1.trans ((hob4.to_below (B := W1.heap.size) (Nat.le_refl _) (by omega)).mono (by omega))
    have hRb := hob4.heap H4.out.2.2.2.1 (fun e => by omega)
    have hub := H4.out.2.2.2.2.1.mono (S' := fun b => W1.heap.size ≤ b) (fun b hb _ => by have hb : w2.heap.size ≤ b := hb; omega) (hob4.keep fun b hb e => by have hb : w2.heap.size ≤ b := hb; omega)
    have hcb := H4.out.2.2.2.2.2.1.mono (S' := fun b => W1.heap.size ≤ b) (fun b hb _ => by have hb : w2.heap.size ≤ b := hb; omega) (hob4.keep fun b hb e => by have hb : w2.heap.size ≤ b := hb; omega)
    have hC := Lib.hid (And.intro hBb (And.intro hRb (And.intro hub (And.intro hcb hMb)))); clear hBb hRb hub hcb
    obtain ⟨b', o', ra, rc, e, _, hcq, hrq⟩ := H7.out.2.2.cell hk
    simp only [Option.some.injEq, Addr.mk.injEq, and_true] at e
    obtain ⟨rfl, rfl⟩ := e
    have hrqb := hrq.mono (S' := fun b => W1.heap.size ≤ b) (fun b hb _ => by have hb : w6.heap.size ≤ b := hb; omega) (hob7.keep fun b hb e => by have hb : w6.heap.size ≤ b := hb; omega)
    have HRq := Lib.hid hrqb; clear hrq hrqb
    dsimp only
    (refine hK.out _ _ (hS2 wb hMb hbb) (fun hHeld => ?_); clear hK K; (try simp only [Act.put, List.setIfInBounds_toArray, List.set_cons_zero, List.set_cons_succ]))
    (refine wpAnyH_take (i := 7) (v := .pointer (some ⟨bq, oq + k, none⟩)) rfl (by kernel_rfl) (by kernel_rfl) (by kernel_rfl) (fun _ _ _ h => h) (Or.inl ⟨by kernel_rfl, fun w hSw => by (try dsimp only at hSw); go_split_ands; go_simp⟩) (by assumption) ?_; simp only [Act.put, List.setIfInBounds_toArray, List.set_cons_zero, List.set_cons_succ])
    (refine wpAnyH_take (i := 8) (v := .slice ra (getl ol k).length rc) rfl (by kernel_rfl) (by kernel_rfl) (by kernel_rfl) (fun _ _ _ h => h) (Or.inl ⟨by kernel_rfl, fun w hSw => by (try dsimp only at hSw); go_split_ands; go_simp⟩) (by assumption) ?_; simp only [Act.put, List.setIfInBounds_toArray, List.set_cons_zero, List.set_cons_succ])
    have hcRz : ∀ o, wb.cell? ⟨W.heap.size, o, none⟩ = (#[.int .i64 0, .int .i64 0, .int .i64 0, .int .i64 0, .int .i64 0, .slice none 0 0] : Array Value)[o]? := fun o => by rw [cell_of_block hC.out.2.1]
    have hfRz := fun o => frozen_of_block hC.out.2.1 o
    (refine wpAnyH_ready (rs := [9]) (by kernel_rfl) (by simp) (AllReadyH.cons rfl (fun K hK => ?_) AllReadyH.nil); go_simp)
    have hdone := putS_new hC.out.1 hC.out.2.1 (.int .i64 m.c) (.int .i64 m.d) (.int .i64 m.s) (.int .i64 m.e) (.int .i64 m.l) (.slice ta T.length tc)
    obtain ⟨wz, hwz⟩ : ∃ wz, wz = putS wb W.heap.size (.int .i64 m.c) (.int .i64 m.d) (.int .i64 m.s) (.int .i64 m.e) (.int .i64 m.l) (.slice ta T.length tc) := ⟨_, rfl⟩
    rw [← hwz] at hdone
    obtain ⟨hd2, hd3, hd4⟩ := hdone
    have hFz : V2 (fun b => W.heap.size ≤ b) wz (.slice ta T.length tc) T := V2.mono (S := fun b => W1.heap.size ≤ b) hC.out.2.2.1 (fun b hb _ => by have hb : W1.heap.size ≤ b := hb; omega) (fun b hb _ => hd4 b (by have hb : W1.heap.size ≤ b := hb; omega))
    have hcz : V2 (fun b => W.heap.size ≤ b) wz (.slice ca cuts.length cc) cuts := V2.mono (S := fun b => W1.heap.size ≤ b) hC.out.2.2.2.1 (fun b hb _ => by have hb : W1.heap.size ≤ b := hb; omega) (fun b hb _ => hd4 b (by have hb : W1.heap.size ≤ b := hb; omega))
    have hz0 : wz.cell? ⟨W.heap.size, 0, none⟩ = some (.int .i64 m.c) := by rw [cell_of_block hd3]; rfl
    have hz1 : wz.cell? ⟨W.heap.size, 1, none⟩ = some (.int .i64 m.d) := by rw [cell_of_block hd3]; rfl
    have hz2 : wz.cell? ⟨W.heap.size, 2, none⟩ = some (.int .i64 m.s) := by rw [cell_of_block hd3]; rfl
    have hz3 : wz.cell? ⟨W.heap.size, 3, none⟩ = some (.int .i64 m.e) := by rw [cell_of_block hd3]; rfl
    have hz4 : wz.cell? ⟨W.heap.size, 4, none⟩ = some (.int .i64 m.l) := by rw [cell_of_block hd3]; rfl
    have hz5 : wz.cell? ⟨W.heap.size, 5, none⟩ = some (.slice ta T.length tc) := by rw [cell_of_block hd3]; rfl
    have HZ := Lib.hid (And.intro hd2 (And.intro hFz (And.intro hcz (And.intro hwz (And.intro hz0 (And.intro hz1 (And.intro hz2 (And.intro hz3 (And.intro hz4 (And.intro hz5 hd4)))))))))); clear hd2 hd3 hd4 hFz hcz hwz hz0 hz1 hz2 hz3 hz4 hz5
    skip
    have hwz := HZ.out.2.2.2.1
    unfold putS putR at hwz
    rw [← hwz]
    clear hwz
    obtain ⟨hd2, hFz, hcz, hwzz, hz0, hz1, hz2, hz3, hz4, hz5, hd4⟩ := HZ.out
    clear hwzz
    have hSz := hS2 wz ((hd4 _ (by omega)).trans hMb) ((hd4 _ (by omega)).trans hbb)
    (refine hK.out _ _ hSz (fun hHeld => ?_); clear hK K; (try simp only [Act.put, List.setIfInBounds_toArray, List.set_cons_zero, List.set_cons_succ]))
    (refine wpAnyH_ready (rs := [10]) (by kernel_rfl) (by simp) (AllReadyH.cons rfl (fun K hK => ?_) AllReadyH.nil); go_simp)
    (refine hK.out _ _ hSz (fun hHeld => ?_); clear hK K; (try simp only [Act.put, List.setIfInBounds_toArray, List.set_cons_zero, List.set_cons_succ]))
    (refine wpAnyH_ready (rs := [11]) (by kernel_rfl) (by simp) (AllReadyH.cons rfl (fun K hK => ?_) AllReadyH.nil); go_simp)
    (refine hK.out _ _ hSz (fun hHeld => ?_); clear hK K; (try simp only [Act.put, List.setIfInBounds_toArray, List.set_cons_zero, List.set_cons_succ]))
    refine wpAnyH_done (by kernel_rfl) (NoPanic.normal ?_) _
    go_wp2_with fail
    have hkz : V1 (fun b => W.heap.size ≤ b) wz (.slice ra (getl ol k).length rc) (getl ol k) := V1.mono (S := fun b => W1.heap.size ≤ b) HRq.out (fun b hb _ => by have hb : W1.heap.size ≤ b := hb; omega) (fun b hb _ => hd4 b (by have hb : W1.heap.size ≤ b := hb; omega))
    exact bodyPost_ret (v := .tuple #[.agg #[.int .i64 m.c, .int .i64 m.d, .int .i64 m.s, .int .i64 m.e, .int .i64 m.l, .slice ta T.length tc], .slice ca cuts.length cc, (.slice ra (getl ol k).length rc)]) (by simp [results, Tryz.results45, go_sem, hz0, hz1, hz2, hz3, hz4, hz5]) rfl ⟨m, _, _, T, cuts, [(.slice ra (getl ol k).length rc)], rfl, ⟨_, _, rfl, hkz⟩, hFz, hcz, hd2⟩
  ·have hqd : (q == 0) = false := by simp [hq]
   clear hq
   go_wp2_with fail
   refine wp_region_noPanic ?_
   refine wp_region_held_drew (S := fun w' => w'.cell? ⟨w3.heap.size, 0, none⟩ = some (.int .i64 m.c) ∧ w'.cell? ⟨w3.heap.size, 1, none⟩ = some (.int .i64 m.d) ∧ w'.cell? ⟨w3.heap.size, 2, none⟩ = some (.int .i64 m.s) ∧ w'.cell? ⟨w3.heap.size, 3, none⟩ = some (.int .i64 m.e) ∧ w'.cell? ⟨w3.heap.size, 4, none⟩ = some (.int .i64 m.l) ∧ w'.cell? ⟨w3.heap.size, 5, none⟩ = some (.slice ta T.length tc)) (by kernel_rfl) (hSk w6.drew (hM6)) (fun hHeld => ?_)
   (refine wpAnyH_take (i := 0) (v := .agg #[.int .i64 m.c, .int .i64 m.d, .int .i64 m.s, .int .i64 m.e, .int .i64 m.l, .slice ta T.length tc]) rfl (by kernel_rfl) (by kernel_rfl) (by kernel_rfl) (fun _ _ _ h => h) (Or.inl ⟨by kernel_rfl, fun w hSw => by (try dsimp only at hSw); go_split_ands; go_simp⟩) (by assumption) ?_; simp only [Act.put, List.setIfInBounds_toArray, List.set_cons_zero, List.set_cons_succ])
   (refine wpAnyH_take (i := 1) (v := .slice ca cuts.length cc) rfl (by kernel_rfl) (by kernel_rfl) (by kernel_rfl) (fun _ _ _ h => h) (Or.inl ⟨by kernel_rfl, fun w hSw => by (try dsimp only at hSw); go_split_ands; go_simp⟩) (by assumption) ?_; simp only [Act.put, List.setIfInBounds_toArray, List.set_cons_zero, List.set_cons_succ])
   (refine wpAnyH_take (i := 2) (v := .pointer (some ⟨W1.heap.size, 0, none⟩)) rfl (by kernel_rfl) (by kernel_rfl) (by kernel_rfl) (fun _ _ _ h => h) (Or.inl ⟨by kernel_rfl, fun w hSw => by (try dsimp only at hSw); go_split_ands; go_simp⟩) (by assumption) ?_; simp only [Act.put, List.setIfInBounds_toArray, List.set_cons_zero, List.set_cons_succ])
   (refine wpAnyH_take (i := 3) (v := .pointer (some ⟨w3.heap.size, 0, none⟩)) rfl (by kernel_rfl) (by kernel_rfl) (by kernel_rfl) (fun _ _ _ h => h) (Or.inl ⟨by kernel_rfl, fun w hSw => by (try dsimp only at hSw); go_split_ands; go_simp⟩) (by assumption) ?_; simp only [Act.put, List.setIfInBounds_toArray, List.set_cons_zero, List.set_cons_succ])
   (refine wpAnyH_take (i := 4) (v := .agg #[.int .i64 m.c, .int .i64 m.d, .int .i64 m.s, .int .i64 m.e, .int .i64 m.l]) rfl (by kernel_rfl) (by kernel_rfl) (by kernel_rfl) (fun _ _ _ h => h) (Or.inl ⟨by kernel_rfl, fun w hSw => by (try dsimp only at hSw); go_split_ands; go_simp⟩) (by assumption) ?_; simp only [Act.put, List.setIfInBounds_toArray, List.set_cons_zero, List.set_cons_succ])
   refine wpAnyH_ready (rs := [5]) (by kernel_rfl) (by simp) (AllReadyH.cons rfl (fun K hK => ?_) AllReadyH.nil)
   go_simp
   go_at_call 108
   refine (l02DrawKey_any W1.heap.size W1.heap.size m H4.out.2.2.2.2.2.2.1 _ (H6.out.1.below ((Below.refl _ _).drew))).mono ?_
   rintro e' wb ⟨kv, key, rfl, hkv, hsb, hob⟩
   have hob4 : Only W1.heap.size w4 wb := H6.out.2.1.trans ((Only.of_below ((Below.refl (w6).heap.size (w6)).drew)).trans hob)
   have hz5 := (H6.out.2.1).size
   obtain ⟨xa, xc, rfl, _⟩ := hkv.form
   have hKV : V1 (fun b => W1.heap.size ≤ b) wb (.slice xa key.length xc) key := hkv.mono (fun b hb _ => by have hb : (w6).heap.size ≤ b := hb; omega) (fun _ _ _ => rfl)
   have HK := Lib.hid hKV; clear hkv hKV hsb hob hcM6
   have hzb := hob4.size
   have hMb : wb.heap[w3.heap.size]? = w4.heap[w3.heap.size]? := hob4.block _ (by omega) (fun e => by omega)
   have hBb : Below W.heap.size W wb := H4.out.2.1.trans ((hob4.to_below (B := W1.heap.size) (Nat.le_refl _) (by omega)).mono (by omega))
   have hRb := hob4.heap H4.out.2.2.2.1 (fun e => by omega)
   have hub := H4.out.2.2.2.2.1.mono (S' := fun b => W1.heap.size ≤ b) (fun b hb _ => by have hb : w2.heap.size ≤ b := hb; omega) (hob4.keep fun b hb e => by have hb : w2.heap.size ≤ b := hb; omega)
   have hcb := H4.out.2.2.2.2.2.1.mono (S' := fun b => W1.heap.size ≤ b) (fun b hb _ => by have hb : w2.heap.size ≤ b := hb; omega) (hob4.keep fun b hb e => by have hb : w2.heap.size ≤ b := hb; omega)
   have hC := Lib.hid (And.intro hBb (And.intro hRb (And.intro hub (And.intro hcb hMb)))); clear hBb hRb hub hcb
   dsimp only
   (refine hK.out _ _ (hSk wb hMb) (fun hHeld => ?_); clear hK K; (try simp only [Act.put, List.setIfInBounds_toArray, List.set_cons_zero, List.set_cons_succ]))
   have hcRz : ∀ o, wb.cell? ⟨W.heap.size, o, none⟩ = (#[.int .i64 0, .int .i64 0, .int .i64 0, .int .i64 0, .int .i64 0, .slice none 0 0] : Array Value)[o]? := fun o => by rw [cell_of_block hC.out.2.1]
   have hfRz := fun o => frozen_of_block hC.out.2.1 o
   (refine wpAnyH_ready (rs := [6]) (by kernel_rfl) (by simp) (AllReadyH.cons rfl (fun K hK => ?_) AllReadyH.nil); go_simp)
   have hdone := putS_new hC.out.1 hC.out.2.1 (.int .i64 m.c) (.int .i64 m.d) (.int .i64 m.s) (.int .i64 m.e) (.int .i64 m.l) (.slice ta T.length tc)
   obtain ⟨wz, hwz⟩ : ∃ wz, wz = putS wb W.heap.size (.int .i64 m.c) (.int .i64 m.d) (.int .i64 m.s) (.int .i64 m.e) (.int .i64 m.l) (.slice ta T.length tc) := ⟨_, rfl⟩
   rw [← hwz] at hdone
   obtain ⟨hd2, hd3, hd4⟩ := hdone
   have hFz : V2 (fun b => W.heap.size ≤ b) wz (.slice ta T.length tc) T := V2.mono (S := fun b => W1.heap.size ≤ b) hC.out.2.2.1 (fun b hb _ => by have hb : W1.heap.size ≤ b := hb; omega) (fun b hb _ => hd4 b (by have hb : W1.heap.size ≤ b := hb; omega))
   have hcz : V2 (fun b => W.heap.size ≤ b) wz (.slice ca cuts.length cc) cuts := V2.mono (S := fun b => W1.heap.size ≤ b) hC.out.2.2.2.1 (fun b hb _ => by have hb : W1.heap.size ≤ b := hb; omega) (fun b hb _ => hd4 b (by have hb : W1.heap.size ≤ b := hb; omega))
   have hz0 : wz.cell? ⟨W.heap.size, 0, none⟩ = some (.int .i64 m.c) := by rw [cell_of_block hd3]; rfl
   have hz1 : wz.cell? ⟨W.heap.size, 1, none⟩ = some (.int .i64 m.d) := by rw [cell_of_block hd3]; rfl
   have hz2 : wz.cell? ⟨W.heap.size, 2, none⟩ = some (.int .i64 m.s) := by rw [cell_of_block hd3]; rfl
   have hz3 : wz.cell? ⟨W.heap.size, 3, none⟩ = some (.int .i64 m.e) := by rw [cell_of_block hd3]; rfl
   have hz4 : wz.cell? ⟨W.heap.size, 4, none⟩ = some (.int .i64 m.l) := by rw [cell_of_block hd3]; rfl
   have hz5 : wz.cell? ⟨W.heap.size, 5, none⟩ = some (.slice ta T.length tc) := by rw [cell_of_block hd3]; rfl
   have HZ := Lib.hid (And.intro hd2 (And.intro hFz (And.intro hcz (And.intro hwz (And.intro hz0 (And.intro hz1 (And.intro hz2 (And.intro hz3 (And.intro hz4 (And.intro hz5 hd4)))))))))); clear hd2 hd3 hd4 hFz hcz hwz hz0 hz1 hz2 hz3 hz4 hz5
   skip
   have hwz := HZ.out.2.2.2.1
   unfold putS putR at hwz
   rw [← hwz]
   clear hwz
   obtain ⟨hd2, hFz, hcz, hwzz, hz0, hz1, hz2, hz3, hz4, hz5, hd4⟩ := HZ.out
   clear hwzz
   have hSz := hSk wz ((hd4 _ (by omega)).trans hMb)
   (refine hK.out _ _ hSz (fun hHeld => ?_); clear hK K; (try simp only [Act.put, List.setIfInBounds_toArray, List.set_cons_zero, List.set_cons_succ]))
   (refine wpAnyH_ready (rs := [7]) (by kernel_rfl) (by simp) (AllReadyH.cons rfl (fun K hK => ?_) AllReadyH.nil); go_simp)
   (refine hK.out _ _ hSz (fun hHeld => ?_); clear hK K; (try simp only [Act.put, List.setIfInBounds_toArray, List.set_cons_zero, List.set_cons_succ]))
   (refine wpAnyH_ready (rs := [8]) (by kernel_rfl) (by simp) (AllReadyH.cons rfl (fun K hK => ?_) AllReadyH.nil); go_simp)
   (refine hK.out _ _ hSz (fun hHeld => ?_); clear hK K; (try simp only [Act.put, List.setIfInBounds_toArray, List.set_cons_zero, List.set_cons_succ]))
   refine wpAnyH_done (by kernel_rfl) (NoPanic.normal ?_) _
   go_wp2_with fail
   have hkz : V1 (fun b => W.heap.size ≤ b) wz (.slice xa key.length xc) key := V1.mono (S := fun b => W1.heap.size ≤ b) HK.out (fun b hb _ => by have hb : W1.heap.size ≤ b := hb; omega) (fun b hb _ => hd4 b (by have hb : W1.heap.size ≤ b := hb; omega))
   exact bodyPost_ret (v := .tuple #[.agg #[.int .i64 m.c, .int .i64 m.d, .int .i64 m.s, .int .i64 m.e, .int .i64 m.l, .slice ta T.length tc], .slice ca cuts.length cc, (.slice xa key.length xc)]) (by simp [results, Tryz.results45, go_sem, hz0, hz1, hz2, hz3, hz4, hz5]) rfl ⟨m, _, _, T, cuts, [(.slice xa key.length xc)], rfl, ⟨_, _, rfl, hkz⟩, hFz, hcz, hd2⟩
/-- As Out2, the rows' values and their blocks named. -/
def Out2x (B : Nat) (w : World) (v : Value) (ls : List (List Int)) (vs : List Value) (bk : Nat → Nat) : Prop :=
 w.ownsRow B 44 1 v ls.length vs ∧ (∀ k, k < ls.length → ∃ rv, vs[k]? = some rv ∧ X1 w rv (getl ls k) (bk k)) ∧
  (∀ k, k < ls.length → getl ls k ≠ [] → B ≤ bk k ∧ v.ownBlock ≠ some (bk k) ∧ ∀ j, j < ls.length → j ≠ k → getl ls j ≠ [] → bk j ≠ bk k)
theorem Out2x.out {B : Nat} {w : World} {v : Value} {ls : List (List Int)} {vs : List Value} {bk : Nat → Nat} (h : Out2x B w v ls vs bk) : Out2 B w v ls := ⟨vs, bk, h.1, h.2.1, h.2.2⟩
theorem Out2x.push {B : Nat} {w w2 w1 : World} {v v1 rv : Value} {ls : List (List Int)} {l : List Int} {b : Nat} {vs : List Value} {bk : Nat → Nat}
  (h : Out2x B w v ls vs bk)
  (hB : B ≤ w.heap.size) (hb : Below w.heap.size w w2) (hx : X1 w2 rv l b) (hbn : l ≠ [] → w.heap.size ≤ b)
  (hown : w1.ownsRow B 44 1 v1 (ls.length + 1) (vs ++ [rv])) (hg : w2.grownBy w1 v.ownBlock) (hblk : v1.ownBlock = v.ownBlock ∨ ∃ g, v1.ownBlock = some g ∧ w2.heap.size ≤ g) : Out2x B w1 v1 (ls ++ [l]) (vs ++ [rv]) (fun k => if k < ls.length then bk k else b) := by
 obtain ⟨h1, h2, h3⟩ := h
 have hvl : ∀ g, v.ownBlock = some g → g < w.heap.size := fun g hgg => (h1.lt g hgg).2
 have hxl : ∀ k, k < ls.length → getl ls k ≠ [] → bk k < w.heap.size := fun k hk hn => by
  obtain ⟨rv, _, h⟩ := h2 k hk; exact h.lt hn
 have hne1 : ∀ c, c < w2.heap.size → v.ownBlock ≠ some c → v1.ownBlock ≠ some c := fun c hc hn e => by
  rcases hblk with e1 | ⟨g, e1, hge⟩
  ·exact hn (e1.symm.trans e)
  ·rw [e] at e1; cases e1; omega
 have hvl1 := h1.1
 refine ⟨by simpa using hown, fun k hk => ?_, fun k hk hn => ?_⟩
 ·by_cases hkl : k < ls.length
  ·obtain ⟨rv', h4, h5⟩ := h2 k hkl
   refine ⟨rv', by rw [List.getElem?_append_left (by omega)]; exact h4, ?_⟩
   rw [getl_app1 hkl]
   simp only [hkl, if_true]
   exact h5.keep fun hn => by
    rw [hg.block _ (Nat.lt_of_lt_of_le (hxl k hkl hn) hb.size) (fun e => (h3 k hkl hn).2.1 e.symm), hb.block _ (hxl k hkl hn)]
  ·have e : k = ls.length := by simp at hk; omega
   subst e
   refine ⟨rv, by rw [List.getElem?_append_right (by omega)]; simp [show ls.length - vs.length = 0 by omega], ?_⟩
   rw [getl_app2]
   simp only [Nat.lt_irrefl, if_false]
   exact hx.keep fun hn => hg.block _ (hx.lt hn) (fun e => by have := hvl b e.symm; have := hbn hn; omega)
 ·by_cases hkl : k < ls.length
  ·rw [getl_app1 hkl] at hn
   simp only [hkl, if_true]
   obtain ⟨h4, h5, h6⟩ := h3 k hkl hn
   refine ⟨h4, hne1 _ (Nat.lt_of_lt_of_le (hxl k hkl hn) hb.size) h5, fun j hj hjk hnj => ?_⟩
   by_cases hjl : j < ls.length
   ·rw [getl_app1 hjl] at hnj
    simp only [hjl, if_true]
    exact h6 j hjl hjk hnj
   ·have e : j = ls.length := by simp at hj; omega
    subst e
    rw [getl_app2] at hnj
    simp only [Nat.lt_irrefl, if_false]
    have := hbn hnj; have := hxl k hkl hn; omega
  ·have e : k = ls.length := by simp at hk; omega
   subst e
   rw [getl_app2] at hn
   simp only [Nat.lt_irrefl, if_false]
   refine ⟨by have := hbn hn; omega, hne1 _ (hx.lt hn) (fun e => by have := hvl b e; have := hbn hn; omega), fun j hj hjk hnj => ?_⟩
   have hjl : j < ls.length := by simp at hj; omega
   rw [getl_app1 hjl] at hnj
   simp only [hjl, if_true]
   have := hbn hn; have := hxl j hjl hnj; omega
/-- The blocks that a list of lists stands in, and the one of the cell that holds it. -/
def OutF (OB : Nat) (v : Value) (ls : List (List Int)) (bk : Nat → Nat) (b : Nat) : Prop := b = OB ∨ v.ownBlock = some b ∨ ∃ k, k < ls.length ∧ getl ls k ≠ [] ∧ b = bk k
theorem Out2x.stay {B OB : Nat} {w w' : World} {v : Value} {ls : List (List Int)} {vs : List Value} {bk : Nat → Nat} (h : Out2x B w v ls vs bk) (hk : ∀ b, OutF OB v ls bk b → w'.heap[b]? = w.heap[b]?) : Out2x B w' v ls vs bk := by
 obtain ⟨h1, h2, h3⟩ := h
 refine ⟨⟨h1.1, ?_⟩, fun k hkl => ?_, h3⟩
 ·rcases h1.2 with h0 | ⟨g, cap, cur, rfl, h4, h5, h6⟩
  ·exact .inl h0
  ·exact .inr ⟨g, cap, cur, rfl, h4, by rw [hk g (.inr (.inl rfl))]; exact h5, h6⟩
 ·obtain ⟨rv, h4, h5⟩ := h2 k hkl
  exact ⟨rv, h4, h5.keep fun hn => hk _ (.inr (.inr ⟨k, hkl, hn, rfl⟩))⟩
theorem Out2x.lt {B OB : Nat} {w : World} {v : Value} {ls : List (List Int)} {vs : List Value} {bk : Nat → Nat} (h : Out2x B w v ls vs bk) (ho : OB < w.heap.size) : ∀ b, OutF OB v ls bk b → b < w.heap.size := by
 rintro b (rfl | h1 | ⟨k, h1, h2, rfl⟩)
 ·exact ho
 ·exact (h.1.lt _ h1).2
 ·obtain ⟨rv, _, h5⟩ := h.2.1 k h1
  exact h5.lt h2
/-- The blocks that a list of lists stands in. -/
def OutG (v : Value) (ls : List (List Int)) (bk : Nat → Nat) (b : Nat) : Prop := v.ownBlock = some b ∨ ∃ k, k < ls.length ∧ getl ls k ≠ [] ∧ b = bk k
theorem Out2x.lo {B : Nat} {w w' : World} {v : Value} {ls : List (List Int)} {vs : List Value} {bk : Nat → Nat} (h : Out2x B w v ls vs bk) (hk : ∀ b, OutG v ls bk b → w'.heap[b]? = w.heap[b]?) : Out2x B w' v ls vs bk := by
 obtain ⟨h1, h2, h3⟩ := h
 refine ⟨⟨h1.1, ?_⟩, fun k hkl => ?_, h3⟩
 ·rcases h1.2 with h0 | ⟨g, cap, cur, rfl, h4, h5, h6⟩
  ·exact .inl h0
  ·exact .inr ⟨g, cap, cur, rfl, h4, by rw [hk g (.inl rfl)]; exact h5, h6⟩
 ·obtain ⟨rv, h4, h5⟩ := h2 k hkl
  exact ⟨rv, h4, h5.keep fun hn => hk _ (.inr ⟨k, hkl, hn, rfl⟩)⟩
theorem OutG.push {b3 z : Nat} {v v' : Value} {ls : List (List Int)} {l : List Int} {bk : Nat → Nat} (hblk : v'.ownBlock = v.ownBlock ∨ ∃ g, v'.ownBlock = some g ∧ z ≤ g) (hb3 : l ≠ [] → z ≤ b3) :
  ∀ b, OutG v' (ls ++ [l]) (fun k => if k < ls.length then bk k else b3) b → OutG v ls bk b ∨ z ≤ b := by
 rintro b (h1 | ⟨k, h1, h2, rfl⟩)
 ·rcases hblk with e | ⟨g, e, hz⟩
  ·exact .inl (.inl (e ▸ h1))
  ·rw [e] at h1; cases h1; exact .inr hz
 ·by_cases hk : k < ls.length
  ·rw [getl_app1 hk] at h2
   simp only [hk, if_true]
   exact .inl (.inr ⟨k, hk, h2, rfl⟩)
  ·have e : k = ls.length := by simp at h1; omega
   subst e
   rw [getl_app2] at h2
   simp only [Nat.lt_irrefl, if_false]
   exact .inr (hb3 h2)
theorem F2.nil0 {B : Nat} {w : World} : F2 B w (.slice none 0 0) [] := ⟨0, fun _ => 0, ⟨none, 0, rfl, Nat.le_refl _, Nat.zero_le _, fun hn => absurd rfl hn, fun k hk => by simp at hk⟩, fun hn => absurd rfl hn, fun k hk => by simp at hk⟩
theorem sel_cnt (locks : List (List (List Int))) (cuts ks : List (List Int)) (D : Nat) : cntL locks (selL locks cuts true ks) 1 D = cntL locks (outsOf cuts ks) 1 D := by
 apply List.ext_getElem (by simp [cntL])
 intro i h1 h2
 simp only [cntL, List.getElem_map, List.getElem_range]
 congr 1
 unfold cntN selL outsOf
 rw [List.countP_filter, List.countP_filter]
 congr 1
 funext k
 unfold selK
 by_cases h : ndoors locks k = 1 + i
 ·have : 0 < 1 + i := by omega
  simp [h, this]
 ·simp [h]
theorem cntL_take {locks : List (List (List Int))} {list : List (List Int)} {i D p : Nat} (hi : i < list.length) (hp : ndoors locks (getl list i) = p + 1) (hD : p < D) :
  (cntL locks (list.take i) 1 D).set p (geti (cntL locks (list.take i) 1 D) p + 1) = cntL locks (list.take (i + 1)) 1 D := by
 have := cntL_set (locks := locks) (ks := list.take i) (k := getl list i) (lo := 1) (n := D) (by omega) (by omega)
 rw [hp, Nat.add_sub_cancel] at this
 rw [this, ← take_getl hi]
set_option maxRecDepth 100000 in
set_option maxHeartbeats 2000000 in
theorem l22Profile_any {S S' : Nat → Prop} (m : Mk) (u v : Value) (t cuts : List (List Int)) (n : Nat) (W : World) (hf : Fits m t cuts) (hn : (n : Int) = m.c) (h : V2 S W u t) (hc : V2 S' W v cuts) :
  Calls Tryz.prog 115 #[.agg #[.int .i64 m.c, .int .i64 m.d, .int .i64 m.s, .int .i64 m.e, .int .i64 m.l, u], v] W fun e' w' => ∃ G : Nat, e' = .returned (.slice (some ⟨G, 0, none⟩) (getl t 0).length (getl t 0).length) ∧
   BlkI w' G (cntL (locksTo n t cuts (getl t 0).length) (outsOf cuts (keysOf m)) 1 (getl t 0).length) ∧ Below W.heap.size W w' := by
 obtain ⟨a, c, rfl, hmx⟩ := h.form
 obtain ⟨a', c', rfl, hmx'⟩ := hc.form
 have hrows := hf.rows
 have hdoors := hf.doors
 have hkl := keysOf_length hf.ok
 have hmk := Mk.ok_iff.1 hf.ok
 have hc0 : 0 ≤ m.c := by omega
 obtain ⟨W1, hW1, hB01, hz01, HZ01, hc01, hh01⟩ := box_facts W #[.int .i64 m.c, .int .i64 m.d, .int .i64 m.s, .int .i64 m.e, .int .i64 m.l, .slice a t.length c] 33
 have hV1 := (h.below hB01).old
 have hC1 := (hc.below hB01).old
 obtain ⟨b0, off0, a0, c0, rfl, _, hcc0, hr0⟩ := hV1.cell (k := 0) (by omega)
 simp only [Nat.add_zero] at hcc0
 have hout := l21Outsiders_any (S := fun _ => True) (S' := fun _ => True) m (.slice (some ⟨b0, off0, none⟩) t.length c) (.slice a' cuts.length c') t cuts n true
 have hdo := fun (kv : Value) (key : List Int) => l16Doors_any (S := fun _ => True) (S' := fun _ => True) (S2 := fun _ => True) m (.slice (some ⟨b0, off0, none⟩) t.length c) (.slice a' cuts.length c') kv t cuts key n
 obtain ⟨locks, hlocks⟩ : ∃ x, x = locksTo n t cuts (getl t 0).length := ⟨_, rfl⟩
 obtain ⟨D, hD⟩ : ∃ D, (getl t 0).length = D := ⟨_, rfl⟩
 have hll : locks.length = D := by rw [hlocks, locksTo_len, hD]
 rw [← hlocks] at hout ⊢
 simp only [← hlocks] at hdo
 rw [hD] at hcc0 hdoors ⊢
 have hsc := sel_cnt locks cuts (keysOf m) D
 obtain ⟨list, hlist⟩ : ∃ x, selL locks cuts true (keysOf m) = x := ⟨_, rfl⟩
 have hlen : list.length ≤ 262144 := by rw [← hlist]; exact Nat.le_trans (selL_length _ _ _ _) hkl
 have hmem : ∀ i, i < list.length → (∃ p, ndoors locks (getl list i) = p + 1 ∧ p < D) ∧ (getl list i).length ≤ n := fun i hi => by
  have h1 := getl_mem hi
  rw [← hlist] at h1
  unfold selL at h1
  rw [List.mem_filter] at h1
  have h2 := (isKey_iff.1 ((mem_keysOf hc0).1 h1.1)).1
  have h3 : 0 < ndoors locks (getl (selL locks cuts true (keysOf m)) i) := by
   have := h1.2
   unfold selK at this
   simp only [Bool.and_eq_true, beq_iff_eq, decide_eq_true_eq] at this
   exact this.1
  rw [hlist] at h3
  have h4 := ndoors_le locks (getl list i)
  have h5 : ((getl list i).length : Int) = m.c := by rw [← hlist]; exact h2
  exact ⟨⟨ndoors locks (getl list i) - 1, by omega, by omega⟩, by omega⟩
 rw [hlist] at hout hsc
 have Hmem := Lib.hid (And.intro hmem hsc); clear hmem hsc
 have HD := Lib.hid (And.intro hD (And.intro hlocks (And.intro hll (And.intro hlist hcc0)))); clear hD hlocks hll hlist hkl hmk hc0 hcc0 hr0
 have Hf := Lib.hid (And.intro hf (And.intro hn (And.intro hout hdo))); clear hf hn hout hdo
 go_enter Tryz.func115, Tryz.ntmps115
 go_wp2_with fail
 rw [← hW1]
 refine (Hf.out.2.2.1 _ Hf.out.1 Hf.out.2.1 hV1.any hC1.any).mono ?_
 rintro e' wS ⟨lv, rfl, hlv, hbS⟩
 have hxS : ∀ o, wS.cell? ⟨W.heap.size, o, none⟩ = (#[.int .i64 m.c, .int .i64 m.d, .int .i64 m.s, .int .i64 m.e, .int .i64 m.l, .slice (some ⟨b0, off0, none⟩) t.length c] : Array Value)[o]? := fun o => by rw [(bcell hbS).1 _ _ hz01, hc01]
 have hccS := cell_keep HD.out.2.2.2.2 (hbS.block _ (lt_of_cell HD.out.2.2.2.2))
 obtain ⟨la, lc, rfl, hlm⟩ := hlv.form
 have hzS := hbS.size
 have HW1 := Lib.hid hW1; clear hW1 hh01
 have Hc01 := Lib.hid hc01; clear hc01
 go_wp2_with (at_make; refine wp_mk _ rfl _ _ 44 rfl 2 (.int .i64 0) 1 8 Tryz.underlying44 inf_int D rfl rfl (by omega) (by omega) ?_; intro w2 cs0 hh0 hs0 ht0 hB0 hsz0)
 have hblk := blk_made hh0 ht0
 rw [← cntL_nil locks 1 D] at hblk
 have hb12 := hbS.trans (hB0.mono hzS)
 have hne : ∀ b, b < wS.heap.size → b ≠ wS.heap.size := fun b hb e => by omega
 have hV2 : V2 (fun b => b ≠ wS.heap.size) w2 (.slice (some ⟨b0, off0, none⟩) t.length c) t := ((hV1.below hbS).below hB0).mono (fun b h1 h2 => hne b (by have h1' : b < W1.heap.size := h1; omega)) (fun _ _ _ => rfl)
 have hC2 : V2 (fun b => b ≠ wS.heap.size) w2 (.slice a' cuts.length c') cuts := ((hC1.below hbS).below hB0).mono (fun b h1 h2 => hne b (by have h1' : b < W1.heap.size := h1; omega)) (fun _ _ _ => rfl)
 have hL2 : V2 (fun b => b ≠ wS.heap.size) w2 (.slice la list.length lc) list := (hlv.below hB0).mono (fun b h1 h2 => hne b h1) (fun _ _ _ => rfl)
 clear hxS hccS
 have HB := Lib.hid hblk; clear hblk hh0 ht0
 go_loopw [7] (fun i wr => ∃ k : Nat, k ≤ list.length ∧ i = .int .i64 (k : Int) ∧ BlkI wr wS.heap.size (cntL locks (list.take k) 1 D) ∧ Chg (fun b => b = wS.heap.size) w2 wr) (fun i _ => list.length - (intOf i).toNat)
 case atStart => exact ⟨0, Nat.zero_le _, rfl, HB.out, Chg.refl _ _⟩
 case round =>
  obtain ⟨k, hk, rfl, hblk, hch⟩ := hrel
  have hzr := hch.size
  have hz12 := hb12.size
  by_cases hkk : k < list.length
  ·obtain ⟨⟨p, hp, hpD⟩, hkn⟩ := Hmem.out.1 k hkk
   obtain ⟨b1, off1, a1, c1, rfl, _, hc1, hr1⟩ := (hL2.mono (S' := fun _ => True) (fun _ _ _ => trivial) (hch.keep fun b hb => hb)).cell hkk
   have hVr := hV2.mono (S' := fun _ => True) (fun _ _ _ => trivial) (hch.keep fun b hb => hb)
   have hCr := hC2.mono (S' := fun _ => True) (fun _ _ _ => trivial) (hch.keep fun b hb => hb)
   have hxr : ∀ o, wr.cell? ⟨W.heap.size, o, none⟩ = (#[.int .i64 m.c, .int .i64 m.d, .int .i64 m.s, .int .i64 m.e, .int .i64 m.l, .slice (some ⟨b0, off0, none⟩) t.length c] : Array Value)[o]? := fun o => by
    rw [hch.cell (by omega) (by omega), (bcell hb12).1 _ _ hz01, Hc01.out]
   have hdr : Below wr.heap.size wr wr.drew := (Below.refl _ _).drew
   have hlk := cntL_len locks (list.take k) 1 D
   have hge := cntL_get (locks := locks) (ks := list.take k) (lo := 1) (n := D) (j := p) hpD
   have hcn := cntN_le locks (list.take k) (1 + p)
   have htl : (list.take k).length ≤ k := List.length_take_le _ _
   obtain ⟨x, hx⟩ : ∃ x, geti (cntL locks (list.take k) 1 D) p = x := ⟨_, rfl⟩
   have hxb : 0 ≤ x ∧ x ≤ 262144 := by omega
   have hcell := hblk.cell (k := p) (by omega)
   rw [hx] at hcell
   have hst := cntL_take hkk hp hpD
   rw [hx] at hst
   have Hst := Lib.hid (And.intro hst (And.intro hp hblk)); clear hst hp hblk hx hge hcn
   have hw1 : IntKind.i64.wrap (p : Int) = (p : Int) := IntWalk.i64_in _ (by omega)
   have hw2 : IntKind.i64.wrap (x + 1) = x + 1 := IntWalk.i64_in _ (by omega)
   have hp0 : (0 : Int) ≤ (p : Int) := by omega
   have hpD2 : (p : Int) < (D : Int) := by omega
   have hGr : wS.heap.size < wr.heap.size := by omega
   have hzw : W.heap.size < wr.heap.size := by omega
   go_wp2_with fail
   go_region_law? (go_simp; go_at_call 55; refine (Hf.out.2.2.2 _ (getl list k) _ Hf.out.1 Hf.out.2.1 hkn (hVr.below hdr) (hCr.below hdr) ((hr1.any).below hdr)).mono ?_; rintro e' wq ⟨vq, rfl, hFq, hbq⟩; obtain ⟨aq, cq, rfl, hqm⟩ := hFq.v1.form; rw [show (doorsOf locks (getl list k)).length = p + 1 from Hst.out.2.1]; have hb0q : Below wr.heap.size wr wq := hdr.trans (hbq.mono (Nat.le_refl _)); have hcq : wq.cell? ⟨wS.heap.size, p, none⟩ = some (.int .i64 x) := cell_keep hcell (hb0q.block _ (lt_of_cell hcell)); have hbk : BlkI wq wS.heap.size (cntL locks (list.take k) 1 D) := Hst.out.2.2.keep (hb0q.block _ hGr); have hfq := hbk.frozen p; (try dsimp only))
   all_goals go_wp2
   all_goals go_roundw
   all_goals first
    | (show _ ∨ _; exact .inl (by simp [intOf]; omega))
    | exact ⟨k + 1, by omega, by go_num, by rw [← Hst.out.1]; exact hbk.set p (x + 1), (hch.then_below hb0q).setCell (.inl rfl) _⟩
    | (simp [intOf]; omega)
  ·obtain rfl : k = list.length := by omega
   rw [List.take_length, Hmem.out.2] at hblk
   have Hb := Lib.hid hblk; clear hblk
   go_wp2_with fail
   go_ret
   exact ⟨_, rfl, Hb.out, hB01.trans ((hb12.trans (hch.to_below (fun i hi => by omega) hb12.size)).mono (by omega))⟩
end Go.Proofs.YtmjplkbmhdkggaaGreat
