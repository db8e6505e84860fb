/- More draws of the laws on designs: numbers and keys beside a system and its cuts. No conditions. -/
import Derived.Test.YtmfgdoflddhngaaGreatMFindO
namespace Go.Proofs.YtmfgdoflddhngaaGreat
open Go.RowKit
set_option linter.unusedVariables false
set_option linter.unusedSimpArgs false

def DrawCi (W : World) : Ending → World → Prop := DrawC W fun _ _ _ _ vs => ∃ n : Int, vs = [.int .i64 n]
def DrawCk (W : World) : Ending → World → Prop := DrawC W fun _ _ _ w' vs => ∃ kv key, vs = [kv] ∧ V1 (fun b => W.heap.size ≤ b) w' kv key
def DrawCkw (W : World) : Ending → World → Prop := DrawC W fun _ _ _ w' vs => ∃ kv key x y, vs = [kv, .int .i64 x, .int .i64 y] ∧ V1 (fun b => W.heap.size ≤ b) w' kv key
theorem DrawCi.open {W w' : World} {e : Ending} (h : DrawCi W e w') : ∃ (m : Mk) (u cv : Value) (T cuts : List (List Int)) (n : Int), e = .returned (.tuple #[.agg #[.int .i64 m.c, .int .i64 m.d, .int .i64 m.s, .int .i64 m.e, .int .i64 m.l, u], cv, .int .i64 n]) ∧ V2 (fun b => W.heap.size ≤ b) w' u T ∧ V2 (fun b => W.heap.size ≤ b) w' cv cuts ∧ Below W.heap.size W w' := by
  obtain ⟨m, u, cv, T, cuts, vs, rfl, ⟨n, rfl⟩, h1, h2, h3⟩ := h
  exact ⟨m, u, cv, T, cuts, n, rfl, h1, h2, h3⟩
theorem DrawCk.open {W w' : World} {e : Ending} (h : DrawCk W e w') : ∃ (m : Mk) (u cv : Value) (T cuts : List (List Int)) (kv : Value) (key : List Int), e = .returned (.tuple #[.agg #[.int .i64 m.c, .int .i64 m.d, .int .i64 m.s, .int .i64 m.e, .int .i64 m.l, u], cv, kv]) ∧ V1 (fun b => W.heap.size ≤ b) w' kv key ∧ V2 (fun b => W.heap.size ≤ b) w' u T ∧ V2 (fun b => W.heap.size ≤ b) w' cv cuts ∧ Below W.heap.size W w' := by
  obtain ⟨m, u, cv, T, cuts, vs, rfl, ⟨kv, key, rfl, h0⟩, h1, h2, h3⟩ := h
  exact ⟨m, u, cv, T, cuts, kv, key, rfl, h0, h1, h2, h3⟩
theorem DrawCkw.open {W w' : World} {e : Ending} (h : DrawCkw W e w') : ∃ (m : Mk) (u cv : Value) (T cuts : List (List Int)) (kv : Value) (key : List Int) (x y : Int), e = .returned (.tuple #[.agg #[.int .i64 m.c, .int .i64 m.d, .int .i64 m.s, .int .i64 m.e, .int .i64 m.l, u], cv, kv, .int .i64 x, .int .i64 y]) ∧ V1 (fun b => W.heap.size ≤ b) w' kv key ∧ V2 (fun b => W.heap.size ≤ b) w' u T ∧ V2 (fun b => W.heap.size ≤ b) w' cv cuts ∧ Below W.heap.size W w' := by
  obtain ⟨m, u, cv, T, cuts, vs, rfl, ⟨kv, key, x, y, rfl, h0⟩, h1, h2, h3⟩ := h
  exact ⟨m, u, cv, T, cuts, kv, key, x, y, rfl, h0, h1, h2, h3⟩
set_option maxRecDepth 100000 in
set_option maxHeartbeats 2000000 in
theorem DrawSystemGhosts_any {S : Nat → Prop} (v : Value) (l : List Int) (W : World) (h : VB S W v l) :
    Calls Tryz.prog 65 #[v] W (DrawCi W) := by
  obtain ⟨a, c, rfl, hm⟩ := h.form
  obtain ⟨W1, hW1, hB01, hz01, HZ01, _, hh01⟩ := box_facts W #[.int .i64 0, .int .i64 0, .int .i64 0, .int .i64 0, .int .i64 0, .slice none 0 0] 28
  have hz1e := HZ01.out
  have hz1l : W1.heap.size ≤ W.heap.size + 1 := by omega
  have HL := Lib.hid (And.intro (h.below hB01) (And.intro hB01 (And.intro hh01 hW1))); clear h hh01 hB01 hz1e
  go_enter Tryz.func65, Tryz.ntmps65
  go_wp2_with fail
  rw [← HL.out.2.2.2]
  clear hW1
  refine (l01From_any _ l W1 HL.out.1).mono ?_
  rintro e' w2 ⟨rfl, hs2, hb2⟩
  have hz2 := hb2.size
  have H2 := Lib.hid (And.intro hs2 (And.intro hb2 ((hb2.block _ hz01).trans HL.out.2.2.1))); clear hs2 hb2
  go_wp2_with fail
  refine (l21Draw_any W1.heap.size W1.heap.size w2 H2.out.1).mono ?_
  rintro e' w3 ⟨m, u, cv, T, cuts, rfl, hsm, hu, hcv, hs3, ho3⟩
  have hz3 := ho3.size
  have hz23 : W1.heap.size < w2.heap.size := H2.out.1.lt
  obtain ⟨ta, tc, rfl, _⟩ := hu.form
  obtain ⟨ca, cc, rfl, _⟩ := hcv.form
  have hRw := ho3.heap H2.out.2.2 (fun e => by omega)
  have hBw : Below W.heap.size W w3 := HL.out.2.1.trans ((H2.out.2.1.trans (ho3.to_below (Nat.le_refl _) (by omega))).mono (by omega))
  obtain ⟨w4, hw4⟩ : ∃ w4, w4 = w3.alloc (.cells #[.int .i64 m.c, .int .i64 m.d, .int .i64 m.s, .int .i64 m.e, .int .i64 m.l, .slice ta T.length tc] 28) := ⟨_, rfl⟩
  have hb34 : Below w3.heap.size w3 w4 := by rw [hw4]; exact (Below.refl _ _).alloc (Nat.le_refl _) _
  have hM4 : w4.heap[w3.heap.size]? = some (.cells #[.int .i64 m.c, .int .i64 m.d, .int .i64 m.s, .int .i64 m.e, .int .i64 m.l, .slice ta T.length tc] 28 (0, 0)) := by rw [hw4]; exact heap_alloc_self _ _
  have hz4 : w3.heap.size < w4.heap.size := lt_of_heap hM4
  have H4 := Lib.hid (And.intro (hs3.below hb34) (And.intro (hBw.trans (hb34.mono (by omega))) (And.intro hM4 (And.intro ((hb34.block _ (by omega)).trans hRw) (And.intro (hu.below hb34) (And.intro (hcv.below hb34) (And.intro hsm hw4))))))); clear hs3 ho3 hRw hBw hb34 hM4 hu hcv hsm hw4
  have hcM : ∀ o, w4.cell? ⟨w3.heap.size, o, none⟩ = (#[.int .i64 m.c, .int .i64 m.d, .int .i64 m.s, .int .i64 m.e, .int .i64 m.l, .slice ta T.length tc] : Array Value)[o]? := fun o => by rw [cell_of_block H4.out.2.2.1]
  have hSk : ∀ w' : World, w'.heap[w3.heap.size]? = w4.heap[w3.heap.size]? → w'.cell? ⟨w3.heap.size, 0, none⟩ = some (.int .i64 m.c) ∧ w'.cell? ⟨w3.heap.size, 1, none⟩ = some (.int .i64 m.d) ∧ w'.cell? ⟨w3.heap.size, 2, none⟩ = some (.int .i64 m.s) ∧ w'.cell? ⟨w3.heap.size, 3, none⟩ = some (.int .i64 m.e) ∧ w'.cell? ⟨w3.heap.size, 4, none⟩ = some (.int .i64 m.l) ∧ w'.cell? ⟨w3.heap.size, 5, none⟩ = some (.slice ta T.length tc) := fun w' hw => by
    refine ⟨?_, ?_, ?_, ?_, ?_, ?_⟩ <;> exact cell_keep (hcM _) hw
  go_wp2_with fail
  rw [← H4.out.2.2.2.2.2.2.2]
  go_wp2_with fail
  refine wp_region_noPanic ?_
  refine wp_region_held_drew (S := fun w' => w'.cell? ⟨w3.heap.size, 0, none⟩ = some (.int .i64 m.c) ∧ w'.cell? ⟨w3.heap.size, 1, none⟩ = some (.int .i64 m.d) ∧ w'.cell? ⟨w3.heap.size, 2, none⟩ = some (.int .i64 m.s) ∧ w'.cell? ⟨w3.heap.size, 3, none⟩ = some (.int .i64 m.e) ∧ w'.cell? ⟨w3.heap.size, 4, none⟩ = some (.int .i64 m.l) ∧ w'.cell? ⟨w3.heap.size, 5, none⟩ = some (.slice ta T.length tc)) (by kernel_rfl) (hSk w4.drew rfl) (fun hHeld => ?_)
  (refine wpAnyH_take (i := 0) (v := .agg #[.int .i64 m.c, .int .i64 m.d, .int .i64 m.s, .int .i64 m.e, .int .i64 m.l, .slice ta T.length tc]) rfl (by kernel_rfl) (by kernel_rfl) (by kernel_rfl) (fun _ _ _ h => h) (Or.inl ⟨by kernel_rfl, fun w hSw => by (try dsimp only at hSw); go_split_ands; go_simp⟩) (by assumption) ?_; simp only [Act.put, List.setIfInBounds_toArray, List.set_cons_zero, List.set_cons_succ])
  (refine wpAnyH_take (i := 1) (v := .slice ca cuts.length cc) rfl (by kernel_rfl) (by kernel_rfl) (by kernel_rfl) (fun _ _ _ h => h) (Or.inl ⟨by kernel_rfl, fun w hSw => by (try dsimp only at hSw); go_split_ands; go_simp⟩) (by assumption) ?_; simp only [Act.put, List.setIfInBounds_toArray, List.set_cons_zero, List.set_cons_succ])
  (refine wpAnyH_take (i := 2) (v := .pointer (some ⟨W1.heap.size, 0, none⟩)) rfl (by kernel_rfl) (by kernel_rfl) (by kernel_rfl) (fun _ _ _ h => h) (Or.inl ⟨by kernel_rfl, fun w hSw => by (try dsimp only at hSw); go_split_ands; go_simp⟩) (by assumption) ?_; simp only [Act.put, List.setIfInBounds_toArray, List.set_cons_zero, List.set_cons_succ])
  have hL := lit_V1 w4 2 [0, 1, 3, 20, 300, 301, -1] (by simp)
  have hbi : Below w4.heap.size w4 (w4.alloc (.cells #[.int .i64 0, .int .i64 1, .int .i64 3, .int .i64 20, .int .i64 300, .int .i64 301, .int .i64 (-1)] 2)).drew := ((Below.refl w4.heap.size w4).alloc (Nat.le_refl _) _).drew
  obtain ⟨wa, hwa⟩ : ∃ wa, wa = (w4.alloc (.cells #[.int .i64 0, .int .i64 1, .int .i64 3, .int .i64 20, .int .i64 300, .int .i64 301, .int .i64 (-1)] 2)).drew := ⟨_, rfl⟩
  have hL : V1 (fun b => b = w4.heap.size) wa (.slice (some ⟨w4.heap.size, 0, none⟩) 7 7) [0, 1, 3, 20, 300, 301, -1] := by rw [hwa]; exact hL
  rw [← hwa] at hbi
  have hMa := hbi.block _ hz4
  have HA := Lib.hid (And.intro hL (And.intro hbi (And.intro (H4.out.1.below hbi) hwa))); clear hL hbi hwa
  refine wpAnyH_ready (rs := [3]) (by kernel_rfl) (by simp) (AllReadyH.cons rfl (fun K hK => ?_) AllReadyH.nil)
  go_simp
  rw [← HA.out.2.2.2]
  (refine hK.out _ _ (hSk wa hMa) (fun hHeld => ?_); clear hK K; (try simp only [Act.put, List.setIfInBounds_toArray, List.set_cons_zero, List.set_cons_succ]))
  refine wpAnyH_ready (rs := [4]) (by kernel_rfl) (by simp) (AllReadyH.cons rfl (fun K hK => ?_) AllReadyH.nil)
  go_simp
  go_at_call 167
  refine (l01Pick_any W1.heap.size W1.heap.size _ [0, 1, 3, 20, 300, 301, -1] wa HA.out.2.2.1 HA.out.1 (fun b hb => by omega) (by simp)).mono ?_
  rintro e' wb ⟨y, rfl, hy, hsb, hob⟩
  have hob4 : Only W1.heap.size w4 wb := (Only.of_below HA.out.2.1).trans hob
  clear hy hsb hob hMa hcM
  -- at world wb (Only the source since w4): facts behind the last call of a region that returns
  have hzb := hob4.size
  have hMb : wb.heap[w3.heap.size]? = w4.heap[w3.heap.size]? := hob4.block _ (by omega) (fun e => by omega)
  have hBb : Below W.heap.size W wb := H4.out.2.1.trans ((hob4.to_below (B := W1.heap.size) (Nat.le_refl _) (by omega)).mono (by omega))
  have hRb := hob4.heap H4.out.2.2.2.1 (fun e => by omega)
  have hub := H4.out.2.2.2.2.1.mono (S' := fun b => W1.heap.size ≤ b) (fun b hb _ => by have hb : w2.heap.size ≤ b := hb; omega) (hob4.keep fun b hb e => by have hb : w2.heap.size ≤ b := hb; omega)
  have hcb := H4.out.2.2.2.2.2.1.mono (S' := fun b => W1.heap.size ≤ b) (fun b hb _ => by have hb : w2.heap.size ≤ b := hb; omega) (hob4.keep fun b hb e => by have hb : w2.heap.size ≤ b := hb; omega)
  have hC := Lib.hid (And.intro hBb (And.intro hRb (And.intro hub (And.intro hcb hMb)))); clear hBb hRb hub hcb
  dsimp only
  (refine hK.out _ _ (hSk wb hMb) (fun hHeld => ?_); clear hK K; (try simp only [Act.put, List.setIfInBounds_toArray, List.set_cons_zero, List.set_cons_succ]))
  -- the store into the result's cell (operation 5) of a region whose calls are done, at wb
  have hcRz : ∀ o, wb.cell? ⟨W.heap.size, o, none⟩ = (#[.int .i64 0, .int .i64 0, .int .i64 0, .int .i64 0, .int .i64 0, .slice none 0 0] : Array Value)[o]? := fun o => by rw [cell_of_block hC.out.2.1]
  have hfRz := fun o => frozen_of_block hC.out.2.1 o
  (refine wpAnyH_ready (rs := [5]) (by kernel_rfl) (by simp) (AllReadyH.cons rfl (fun K hK => ?_) AllReadyH.nil); go_simp)
  -- the system goes into the result's cell: from world wb to wz
  have hdone := putS_new hC.out.1 hC.out.2.1 (.int .i64 m.c) (.int .i64 m.d) (.int .i64 m.s) (.int .i64 m.e) (.int .i64 m.l) (.slice ta T.length tc)
  obtain ⟨wz, hwz⟩ : ∃ wz, wz = putS wb W.heap.size (.int .i64 m.c) (.int .i64 m.d) (.int .i64 m.s) (.int .i64 m.e) (.int .i64 m.l) (.slice ta T.length tc) := ⟨_, rfl⟩
  rw [← hwz] at hdone
  obtain ⟨hd2, hd3, hd4⟩ := hdone
  have hFz : V2 (fun b => W.heap.size ≤ b) wz (.slice ta T.length tc) T := V2.mono (S := fun b => W1.heap.size ≤ b) hC.out.2.2.1 (fun b hb _ => by have hb : W1.heap.size ≤ b := hb; omega) (fun b hb _ => hd4 b (by have hb : W1.heap.size ≤ b := hb; omega))
  have hcz : V2 (fun b => W.heap.size ≤ b) wz (.slice ca cuts.length cc) cuts := V2.mono (S := fun b => W1.heap.size ≤ b) hC.out.2.2.2.1 (fun b hb _ => by have hb : W1.heap.size ≤ b := hb; omega) (fun b hb _ => hd4 b (by have hb : W1.heap.size ≤ b := hb; omega))
  have hz0 : wz.cell? ⟨W.heap.size, 0, none⟩ = some (.int .i64 m.c) := by rw [cell_of_block hd3]; rfl
  have hz1 : wz.cell? ⟨W.heap.size, 1, none⟩ = some (.int .i64 m.d) := by rw [cell_of_block hd3]; rfl
  have hz2 : wz.cell? ⟨W.heap.size, 2, none⟩ = some (.int .i64 m.s) := by rw [cell_of_block hd3]; rfl
  have hz3 : wz.cell? ⟨W.heap.size, 3, none⟩ = some (.int .i64 m.e) := by rw [cell_of_block hd3]; rfl
  have hz4 : wz.cell? ⟨W.heap.size, 4, none⟩ = some (.int .i64 m.l) := by rw [cell_of_block hd3]; rfl
  have hz5 : wz.cell? ⟨W.heap.size, 5, none⟩ = some (.slice ta T.length tc) := by rw [cell_of_block hd3]; rfl
  have HZ := Lib.hid (And.intro hd2 (And.intro hFz (And.intro hcz (And.intro hwz (And.intro hz0 (And.intro hz1 (And.intro hz2 (And.intro hz3 (And.intro hz4 (And.intro hz5 hd4)))))))))); clear hd2 hd3 hd4 hFz hcz hwz hz0 hz1 hz2 hz3 hz4 hz5
  skip
  have hwz := HZ.out.2.2.2.1
  unfold putS putR at hwz
  rw [← hwz]
  clear hwz
  obtain ⟨hd2, hFz, hcz, hwzz, hz0, hz1, hz2, hz3, hz4, hz5, hd4⟩ := HZ.out
  clear hwzz
  have hSz := hSk wz ((hd4 _ (by omega)).trans hMb)
  (refine hK.out _ _ hSz (fun hHeld => ?_); clear hK K; (try simp only [Act.put, List.setIfInBounds_toArray, List.set_cons_zero, List.set_cons_succ]))
  (refine wpAnyH_ready (rs := [6]) (by kernel_rfl) (by simp) (AllReadyH.cons rfl (fun K hK => ?_) AllReadyH.nil); go_simp)
  (refine hK.out _ _ hSz (fun hHeld => ?_); clear hK K; (try simp only [Act.put, List.setIfInBounds_toArray, List.set_cons_zero, List.set_cons_succ]))
  (refine wpAnyH_ready (rs := [7]) (by kernel_rfl) (by simp) (AllReadyH.cons rfl (fun K hK => ?_) AllReadyH.nil); go_simp)
  (refine hK.out _ _ hSz (fun hHeld => ?_); clear hK K; (try simp only [Act.put, List.setIfInBounds_toArray, List.set_cons_zero, List.set_cons_succ]))
  refine wpAnyH_done (by kernel_rfl) (NoPanic.normal ?_) _
  go_wp2_with fail
  exact bodyPost_ret (v := .tuple #[.agg #[.int .i64 m.c, .int .i64 m.d, .int .i64 m.s, .int .i64 m.e, .int .i64 m.l, .slice ta T.length tc], .slice ca cuts.length cc, .int .i64 (y)]) (by simp [results, Tryz.results65, go_sem, hz0, hz1, hz2, hz3, hz4, hz5]) rfl ⟨m, _, _, T, cuts, [.int .i64 (y)], rfl, ⟨_, rfl⟩, hFz, hcz, hd2⟩
set_option maxRecDepth 100000 in
set_option maxHeartbeats 2000000 in
theorem DrawDoorGhosts_any {S : Nat → Prop} (v : Value) (l : List Int) (W : World) (h : VB S W v l) :
    Calls Tryz.prog 49 #[v] W (DrawCi W) := by
  obtain ⟨a, c, rfl, hm⟩ := h.form
  obtain ⟨W1, hW1, hB01, hz01, HZ01, _, hh01⟩ := box_facts W #[.int .i64 0, .int .i64 0, .int .i64 0, .int .i64 0, .int .i64 0, .slice none 0 0] 28
  have hz1e := HZ01.out
  have hz1l : W1.heap.size ≤ W.heap.size + 1 := by omega
  have HL := Lib.hid (And.intro (h.below hB01) (And.intro hB01 (And.intro hh01 hW1))); clear h hh01 hB01 hz1e
  go_enter Tryz.func49, Tryz.ntmps49
  go_wp2_with fail
  rw [← HL.out.2.2.2]
  clear hW1
  refine (l01From_any _ l W1 HL.out.1).mono ?_
  rintro e' w2 ⟨rfl, hs2, hb2⟩
  have hz2 := hb2.size
  have H2 := Lib.hid (And.intro hs2 (And.intro hb2 ((hb2.block _ hz01).trans HL.out.2.2.1))); clear hs2 hb2
  go_wp2_with fail
  refine (l21Draw_any W1.heap.size W1.heap.size w2 H2.out.1).mono ?_
  rintro e' w3 ⟨m, u, cv, T, cuts, rfl, hsm, hu, hcv, hs3, ho3⟩
  have hz3 := ho3.size
  have hz23 : W1.heap.size < w2.heap.size := H2.out.1.lt
  obtain ⟨ta, tc, rfl, _⟩ := hu.form
  obtain ⟨ca, cc, rfl, _⟩ := hcv.form
  have hRw := ho3.heap H2.out.2.2 (fun e => by omega)
  have hBw : Below W.heap.size W w3 := HL.out.2.1.trans ((H2.out.2.1.trans (ho3.to_below (Nat.le_refl _) (by omega))).mono (by omega))
  obtain ⟨w4, hw4⟩ : ∃ w4, w4 = w3.alloc (.cells #[.int .i64 m.c, .int .i64 m.d, .int .i64 m.s, .int .i64 m.e, .int .i64 m.l, .slice ta T.length tc] 28) := ⟨_, rfl⟩
  have hb34 : Below w3.heap.size w3 w4 := by rw [hw4]; exact (Below.refl _ _).alloc (Nat.le_refl _) _
  have hM4 : w4.heap[w3.heap.size]? = some (.cells #[.int .i64 m.c, .int .i64 m.d, .int .i64 m.s, .int .i64 m.e, .int .i64 m.l, .slice ta T.length tc] 28 (0, 0)) := by rw [hw4]; exact heap_alloc_self _ _
  have hz4 : w3.heap.size < w4.heap.size := lt_of_heap hM4
  have H4 := Lib.hid (And.intro (hs3.below hb34) (And.intro (hBw.trans (hb34.mono (by omega))) (And.intro hM4 (And.intro ((hb34.block _ (by omega)).trans hRw) (And.intro (hu.below hb34) (And.intro (hcv.below hb34) (And.intro hsm hw4))))))); clear hs3 ho3 hRw hBw hb34 hM4 hu hcv hsm hw4
  have hcM : ∀ o, w4.cell? ⟨w3.heap.size, o, none⟩ = (#[.int .i64 m.c, .int .i64 m.d, .int .i64 m.s, .int .i64 m.e, .int .i64 m.l, .slice ta T.length tc] : Array Value)[o]? := fun o => by rw [cell_of_block H4.out.2.2.1]
  have hSk : ∀ w' : World, w'.heap[w3.heap.size]? = w4.heap[w3.heap.size]? → w'.cell? ⟨w3.heap.size, 0, none⟩ = some (.int .i64 m.c) ∧ w'.cell? ⟨w3.heap.size, 1, none⟩ = some (.int .i64 m.d) ∧ w'.cell? ⟨w3.heap.size, 2, none⟩ = some (.int .i64 m.s) ∧ w'.cell? ⟨w3.heap.size, 3, none⟩ = some (.int .i64 m.e) ∧ w'.cell? ⟨w3.heap.size, 4, none⟩ = some (.int .i64 m.l) ∧ w'.cell? ⟨w3.heap.size, 5, none⟩ = some (.slice ta T.length tc) := fun w' hw => by
    refine ⟨?_, ?_, ?_, ?_, ?_, ?_⟩ <;> exact cell_keep (hcM _) hw
  go_wp2_with fail
  rw [← H4.out.2.2.2.2.2.2.2]
  go_wp2_with fail
  refine wp_region_noPanic ?_
  refine wp_region_held_drew (S := fun w' => w'.cell? ⟨w3.heap.size, 0, none⟩ = some (.int .i64 m.c) ∧ w'.cell? ⟨w3.heap.size, 1, none⟩ = some (.int .i64 m.d) ∧ w'.cell? ⟨w3.heap.size, 2, none⟩ = some (.int .i64 m.s) ∧ w'.cell? ⟨w3.heap.size, 3, none⟩ = some (.int .i64 m.e) ∧ w'.cell? ⟨w3.heap.size, 4, none⟩ = some (.int .i64 m.l) ∧ w'.cell? ⟨w3.heap.size, 5, none⟩ = some (.slice ta T.length tc)) (by kernel_rfl) (hSk w4.drew rfl) (fun hHeld => ?_)
  (refine wpAnyH_take (i := 0) (v := .agg #[.int .i64 m.c, .int .i64 m.d, .int .i64 m.s, .int .i64 m.e, .int .i64 m.l, .slice ta T.length tc]) rfl (by kernel_rfl) (by kernel_rfl) (by kernel_rfl) (fun _ _ _ h => h) (Or.inl ⟨by kernel_rfl, fun w hSw => by (try dsimp only at hSw); go_split_ands; go_simp⟩) (by assumption) ?_; simp only [Act.put, List.setIfInBounds_toArray, List.set_cons_zero, List.set_cons_succ])
  (refine wpAnyH_take (i := 1) (v := .slice ca cuts.length cc) rfl (by kernel_rfl) (by kernel_rfl) (by kernel_rfl) (fun _ _ _ h => h) (Or.inl ⟨by kernel_rfl, fun w hSw => by (try dsimp only at hSw); go_split_ands; go_simp⟩) (by assumption) ?_; simp only [Act.put, List.setIfInBounds_toArray, List.set_cons_zero, List.set_cons_succ])
  (refine wpAnyH_take (i := 2) (v := .pointer (some ⟨W1.heap.size, 0, none⟩)) rfl (by kernel_rfl) (by kernel_rfl) (by kernel_rfl) (fun _ _ _ h => h) (Or.inl ⟨by kernel_rfl, fun w hSw => by (try dsimp only at hSw); go_split_ands; go_simp⟩) (by assumption) ?_; simp only [Act.put, List.setIfInBounds_toArray, List.set_cons_zero, List.set_cons_succ])
  (refine wpAnyH_take (i := 4) (v := .pointer (some ⟨W1.heap.size, 0, none⟩)) rfl (by kernel_rfl) (by kernel_rfl) (by kernel_rfl) (fun _ _ _ h => h) (Or.inl ⟨by kernel_rfl, fun w hSw => by (try dsimp only at hSw); go_split_ands; go_simp⟩) (by assumption) ?_; simp only [Act.put, List.setIfInBounds_toArray, List.set_cons_zero, List.set_cons_succ])
  have hbD : Below w4.heap.size w4 w4.drew := (Below.refl _ _).drew
  refine wpAnyH_ready (rs := [3]) (by kernel_rfl) (by simp) (AllReadyH.cons rfl (fun K hK => ?_) AllReadyH.nil)
  go_simp
  go_at_call 114
  refine (l01Next_any W1.heap.size W1.heap.size 5 _ (H4.out.1.below hbD)).mono ?_
  rintro e' wa ⟨x, rfl, _, hsa, hoa⟩
  have hoa4 : Only W1.heap.size w4 wa := (Only.of_below hbD).trans hoa
  have hMa : wa.heap[w3.heap.size]? = w4.heap[w3.heap.size]? := hoa4.block _ (by omega) (fun e => by omega)
  have HA := Lib.hid (And.intro hsa hoa4); clear hsa hoa hoa4 hbD
  dsimp only
  (refine hK.out _ _ (hSk wa hMa) (fun hHeld => ?_); clear hK K; (try simp only [Act.put, List.setIfInBounds_toArray, List.set_cons_zero, List.set_cons_succ]))
  refine wpAnyH_ready (rs := [5]) (by kernel_rfl) (by simp) (AllReadyH.cons rfl (fun K hK => ?_) AllReadyH.nil)
  go_simp
  go_at_call 114
  refine (l01Next_any W1.heap.size W1.heap.size 20 _ HA.out.1).mono ?_
  rintro e' wb ⟨y, rfl, _, hsb, hob⟩
  have hob4 : Only W1.heap.size w4 wb := HA.out.2.trans hob
  clear hsb hob hMa hcM
  -- at world wb (Only the source since w4): facts behind the last call of a region that returns
  have hzb := hob4.size
  have hMb : wb.heap[w3.heap.size]? = w4.heap[w3.heap.size]? := hob4.block _ (by omega) (fun e => by omega)
  have hBb : Below W.heap.size W wb := H4.out.2.1.trans ((hob4.to_below (B := W1.heap.size) (Nat.le_refl _) (by omega)).mono (by omega))
  have hRb := hob4.heap H4.out.2.2.2.1 (fun e => by omega)
  have hub := H4.out.2.2.2.2.1.mono (S' := fun b => W1.heap.size ≤ b) (fun b hb _ => by have hb : w2.heap.size ≤ b := hb; omega) (hob4.keep fun b hb e => by have hb : w2.heap.size ≤ b := hb; omega)
  have hcb := H4.out.2.2.2.2.2.1.mono (S' := fun b => W1.heap.size ≤ b) (fun b hb _ => by have hb : w2.heap.size ≤ b := hb; omega) (hob4.keep fun b hb e => by have hb : w2.heap.size ≤ b := hb; omega)
  have hC := Lib.hid (And.intro hBb (And.intro hRb (And.intro hub (And.intro hcb hMb)))); clear hBb hRb hub hcb
  dsimp only
  (refine hK.out _ _ (hSk wb hMb) (fun hHeld => ?_); clear hK K; (try simp only [Act.put, List.setIfInBounds_toArray, List.set_cons_zero, List.set_cons_succ]))
  (refine wpAnyH_take (i := 6) (v := .int .i64 (IntKind.i64.wrap (y.tdiv 19))) rfl (by kernel_rfl) (by kernel_rfl) (by kernel_rfl) (fun _ _ _ h => h) (Or.inl ⟨by kernel_rfl, fun w hSw => by (try dsimp only at hSw); go_split_ands; go_simp⟩) (by assumption) ?_; simp only [Act.put, List.setIfInBounds_toArray, List.set_cons_zero, List.set_cons_succ])
  (refine wpAnyH_take (i := 7) (v := .int .i64 (IntKind.i64.wrap (x - IntKind.i64.wrap (y.tdiv 19)))) rfl (by kernel_rfl) (by kernel_rfl) (by kernel_rfl) (fun _ _ _ h => h) (Or.inl ⟨by kernel_rfl, fun w hSw => by (try dsimp only at hSw); go_split_ands; go_simp⟩) (by assumption) ?_; simp only [Act.put, List.setIfInBounds_toArray, List.set_cons_zero, List.set_cons_succ])
  -- the store into the result's cell (operation 8) of a region whose calls are done, at wb
  have hcRz : ∀ o, wb.cell? ⟨W.heap.size, o, none⟩ = (#[.int .i64 0, .int .i64 0, .int .i64 0, .int .i64 0, .int .i64 0, .slice none 0 0] : Array Value)[o]? := fun o => by rw [cell_of_block hC.out.2.1]
  have hfRz := fun o => frozen_of_block hC.out.2.1 o
  (refine wpAnyH_ready (rs := [8]) (by kernel_rfl) (by simp) (AllReadyH.cons rfl (fun K hK => ?_) AllReadyH.nil); go_simp)
  -- the system goes into the result's cell: from world wb to wz
  have hdone := putS_new hC.out.1 hC.out.2.1 (.int .i64 m.c) (.int .i64 m.d) (.int .i64 m.s) (.int .i64 m.e) (.int .i64 m.l) (.slice ta T.length tc)
  obtain ⟨wz, hwz⟩ : ∃ wz, wz = putS wb W.heap.size (.int .i64 m.c) (.int .i64 m.d) (.int .i64 m.s) (.int .i64 m.e) (.int .i64 m.l) (.slice ta T.length tc) := ⟨_, rfl⟩
  rw [← hwz] at hdone
  obtain ⟨hd2, hd3, hd4⟩ := hdone
  have hFz : V2 (fun b => W.heap.size ≤ b) wz (.slice ta T.length tc) T := V2.mono (S := fun b => W1.heap.size ≤ b) hC.out.2.2.1 (fun b hb _ => by have hb : W1.heap.size ≤ b := hb; omega) (fun b hb _ => hd4 b (by have hb : W1.heap.size ≤ b := hb; omega))
  have hcz : V2 (fun b => W.heap.size ≤ b) wz (.slice ca cuts.length cc) cuts := V2.mono (S := fun b => W1.heap.size ≤ b) hC.out.2.2.2.1 (fun b hb _ => by have hb : W1.heap.size ≤ b := hb; omega) (fun b hb _ => hd4 b (by have hb : W1.heap.size ≤ b := hb; omega))
  have hz0 : wz.cell? ⟨W.heap.size, 0, none⟩ = some (.int .i64 m.c) := by rw [cell_of_block hd3]; rfl
  have hz1 : wz.cell? ⟨W.heap.size, 1, none⟩ = some (.int .i64 m.d) := by rw [cell_of_block hd3]; rfl
  have hz2 : wz.cell? ⟨W.heap.size, 2, none⟩ = some (.int .i64 m.s) := by rw [cell_of_block hd3]; rfl
  have hz3 : wz.cell? ⟨W.heap.size, 3, none⟩ = some (.int .i64 m.e) := by rw [cell_of_block hd3]; rfl
  have hz4 : wz.cell? ⟨W.heap.size, 4, none⟩ = some (.int .i64 m.l) := by rw [cell_of_block hd3]; rfl
  have hz5 : wz.cell? ⟨W.heap.size, 5, none⟩ = some (.slice ta T.length tc) := by rw [cell_of_block hd3]; rfl
  have HZ := Lib.hid (And.intro hd2 (And.intro hFz (And.intro hcz (And.intro hwz (And.intro hz0 (And.intro hz1 (And.intro hz2 (And.intro hz3 (And.intro hz4 (And.intro hz5 hd4)))))))))); clear hd2 hd3 hd4 hFz hcz hwz hz0 hz1 hz2 hz3 hz4 hz5
  skip
  have hwz := HZ.out.2.2.2.1
  unfold putS putR at hwz
  rw [← hwz]
  clear hwz
  obtain ⟨hd2, hFz, hcz, hwzz, hz0, hz1, hz2, hz3, hz4, hz5, hd4⟩ := HZ.out
  clear hwzz
  have hSz := hSk wz ((hd4 _ (by omega)).trans hMb)
  (refine hK.out _ _ hSz (fun hHeld => ?_); clear hK K; (try simp only [Act.put, List.setIfInBounds_toArray, List.set_cons_zero, List.set_cons_succ]))
  (refine wpAnyH_ready (rs := [9]) (by kernel_rfl) (by simp) (AllReadyH.cons rfl (fun K hK => ?_) AllReadyH.nil); go_simp)
  (refine hK.out _ _ hSz (fun hHeld => ?_); clear hK K; (try simp only [Act.put, List.setIfInBounds_toArray, List.set_cons_zero, List.set_cons_succ]))
  (refine wpAnyH_ready (rs := [10]) (by kernel_rfl) (by simp) (AllReadyH.cons rfl (fun K hK => ?_) AllReadyH.nil); go_simp)
  (refine hK.out _ _ hSz (fun hHeld => ?_); clear hK K; (try simp only [Act.put, List.setIfInBounds_toArray, List.set_cons_zero, List.set_cons_succ]))
  refine wpAnyH_done (by kernel_rfl) (NoPanic.normal ?_) _
  go_wp2_with fail
  exact bodyPost_ret (v := .tuple #[.agg #[.int .i64 m.c, .int .i64 m.d, .int .i64 m.s, .int .i64 m.e, .int .i64 m.l, .slice ta T.length tc], .slice ca cuts.length cc, .int .i64 (IntKind.i64.wrap (x - IntKind.i64.wrap (y.tdiv 19)))]) (by simp [results, Tryz.results49, go_sem, hz0, hz1, hz2, hz3, hz4, hz5]) rfl ⟨m, _, _, T, cuts, [.int .i64 (IntKind.i64.wrap (x - IntKind.i64.wrap (y.tdiv 19)))], rfl, ⟨_, rfl⟩, hFz, hcz, hd2⟩
set_option maxRecDepth 100000 in
set_option maxHeartbeats 2000000 in
theorem DrawIsCalm_any {S : Nat → Prop} (v : Value) (l : List Int) (W : World) (h : VB S W v l) :
    Calls Tryz.prog 24 #[v] W (DrawCi W) := by
  obtain ⟨a, c, rfl, hm⟩ := h.form
  obtain ⟨W1, hW1, hB01, hz01, HZ01, _, hh01⟩ := box_facts W #[.int .i64 0, .int .i64 0, .int .i64 0, .int .i64 0, .int .i64 0, .slice none 0 0] 28
  have hz1e := HZ01.out
  have hz1l : W1.heap.size ≤ W.heap.size + 1 := by omega
  have HL := Lib.hid (And.intro (h.below hB01) (And.intro hB01 (And.intro hh01 hW1))); clear h hh01 hB01 hz1e
  go_enter Tryz.func24, Tryz.ntmps24
  go_wp2_with fail
  rw [← HL.out.2.2.2]
  clear hW1
  refine (l01From_any _ l W1 HL.out.1).mono ?_
  rintro e' w2 ⟨rfl, hs2, hb2⟩
  have hz2 := hb2.size
  have H2 := Lib.hid (And.intro hs2 (And.intro hb2 ((hb2.block _ hz01).trans HL.out.2.2.1))); clear hs2 hb2
  go_wp2_with fail
  refine (l21Draw_any W1.heap.size W1.heap.size w2 H2.out.1).mono ?_
  rintro e' w3 ⟨m, u, cv, T, cuts, rfl, hsm, hu, hcv, hs3, ho3⟩
  have hz3 := ho3.size
  have hz23 : W1.heap.size < w2.heap.size := H2.out.1.lt
  obtain ⟨ta, tc, rfl, _⟩ := hu.form
  obtain ⟨ca, cc, rfl, _⟩ := hcv.form
  have hRw := ho3.heap H2.out.2.2 (fun e => by omega)
  have hBw : Below W.heap.size W w3 := HL.out.2.1.trans ((H2.out.2.1.trans (ho3.to_below (Nat.le_refl _) (by omega))).mono (by omega))
  obtain ⟨w4, hw4⟩ : ∃ w4, w4 = w3.alloc (.cells #[.int .i64 m.c, .int .i64 m.d, .int .i64 m.s, .int .i64 m.e, .int .i64 m.l, .slice ta T.length tc] 28) := ⟨_, rfl⟩
  have hb34 : Below w3.heap.size w3 w4 := by rw [hw4]; exact (Below.refl _ _).alloc (Nat.le_refl _) _
  have hM4 : w4.heap[w3.heap.size]? = some (.cells #[.int .i64 m.c, .int .i64 m.d, .int .i64 m.s, .int .i64 m.e, .int .i64 m.l, .slice ta T.length tc] 28 (0, 0)) := by rw [hw4]; exact heap_alloc_self _ _
  have hz4 : w3.heap.size < w4.heap.size := lt_of_heap hM4
  have H4 := Lib.hid (And.intro (hs3.below hb34) (And.intro (hBw.trans (hb34.mono (by omega))) (And.intro hM4 (And.intro ((hb34.block _ (by omega)).trans hRw) (And.intro (hu.below hb34) (And.intro (hcv.below hb34) (And.intro hsm hw4))))))); clear hs3 ho3 hRw hBw hb34 hM4 hu hcv hsm hw4
  have hcM : ∀ o, w4.cell? ⟨w3.heap.size, o, none⟩ = (#[.int .i64 m.c, .int .i64 m.d, .int .i64 m.s, .int .i64 m.e, .int .i64 m.l, .slice ta T.length tc] : Array Value)[o]? := fun o => by rw [cell_of_block H4.out.2.2.1]
  have hSk : ∀ w' : World, w'.heap[w3.heap.size]? = w4.heap[w3.heap.size]? → w'.cell? ⟨w3.heap.size, 0, none⟩ = some (.int .i64 m.c) ∧ w'.cell? ⟨w3.heap.size, 1, none⟩ = some (.int .i64 m.d) ∧ w'.cell? ⟨w3.heap.size, 2, none⟩ = some (.int .i64 m.s) ∧ w'.cell? ⟨w3.heap.size, 3, none⟩ = some (.int .i64 m.e) ∧ w'.cell? ⟨w3.heap.size, 4, none⟩ = some (.int .i64 m.l) ∧ w'.cell? ⟨w3.heap.size, 5, none⟩ = some (.slice ta T.length tc) := fun w' hw => by
    refine ⟨?_, ?_, ?_, ?_, ?_, ?_⟩ <;> exact cell_keep (hcM _) hw
  go_wp2_with fail
  rw [← H4.out.2.2.2.2.2.2.2]
  go_wp2_with fail
  refine wp_region_noPanic ?_
  refine wp_region_held_drew (S := fun w' => w'.cell? ⟨w3.heap.size, 0, none⟩ = some (.int .i64 m.c) ∧ w'.cell? ⟨w3.heap.size, 1, none⟩ = some (.int .i64 m.d) ∧ w'.cell? ⟨w3.heap.size, 2, none⟩ = some (.int .i64 m.s) ∧ w'.cell? ⟨w3.heap.size, 3, none⟩ = some (.int .i64 m.e) ∧ w'.cell? ⟨w3.heap.size, 4, none⟩ = some (.int .i64 m.l) ∧ w'.cell? ⟨w3.heap.size, 5, none⟩ = some (.slice ta T.length tc)) (by kernel_rfl) (hSk w4.drew rfl) (fun hHeld => ?_)
  (refine wpAnyH_take (i := 0) (v := .agg #[.int .i64 m.c, .int .i64 m.d, .int .i64 m.s, .int .i64 m.e, .int .i64 m.l, .slice ta T.length tc]) rfl (by kernel_rfl) (by kernel_rfl) (by kernel_rfl) (fun _ _ _ h => h) (Or.inl ⟨by kernel_rfl, fun w hSw => by (try dsimp only at hSw); go_split_ands; go_simp⟩) (by assumption) ?_; simp only [Act.put, List.setIfInBounds_toArray, List.set_cons_zero, List.set_cons_succ])
  (refine wpAnyH_take (i := 1) (v := .slice ca cuts.length cc) rfl (by kernel_rfl) (by kernel_rfl) (by kernel_rfl) (fun _ _ _ h => h) (Or.inl ⟨by kernel_rfl, fun w hSw => by (try dsimp only at hSw); go_split_ands; go_simp⟩) (by assumption) ?_; simp only [Act.put, List.setIfInBounds_toArray, List.set_cons_zero, List.set_cons_succ])
  (refine wpAnyH_take (i := 2) (v := .pointer (some ⟨W1.heap.size, 0, none⟩)) rfl (by kernel_rfl) (by kernel_rfl) (by kernel_rfl) (fun _ _ _ h => h) (Or.inl ⟨by kernel_rfl, fun w hSw => by (try dsimp only at hSw); go_split_ands; go_simp⟩) (by assumption) ?_; simp only [Act.put, List.setIfInBounds_toArray, List.set_cons_zero, List.set_cons_succ])
  (refine wpAnyH_take (i := 4) (v := .pointer (some ⟨W1.heap.size, 0, none⟩)) rfl (by kernel_rfl) (by kernel_rfl) (by kernel_rfl) (fun _ _ _ h => h) (Or.inl ⟨by kernel_rfl, fun w hSw => by (try dsimp only at hSw); go_split_ands; go_simp⟩) (by assumption) ?_; simp only [Act.put, List.setIfInBounds_toArray, List.set_cons_zero, List.set_cons_succ])
  have hbD : Below w4.heap.size w4 w4.drew := (Below.refl _ _).drew
  refine wpAnyH_ready (rs := [3]) (by kernel_rfl) (by simp) (AllReadyH.cons rfl (fun K hK => ?_) AllReadyH.nil)
  go_simp
  go_at_call 114
  refine (l01Next_any W1.heap.size W1.heap.size 6 _ (H4.out.1.below hbD)).mono ?_
  rintro e' wa ⟨x, rfl, _, hsa, hoa⟩
  have hoa4 : Only W1.heap.size w4 wa := (Only.of_below hbD).trans hoa
  have hMa : wa.heap[w3.heap.size]? = w4.heap[w3.heap.size]? := hoa4.block _ (by omega) (fun e => by omega)
  have HA := Lib.hid (And.intro hsa hoa4); clear hsa hoa hoa4 hbD
  dsimp only
  (refine hK.out _ _ (hSk wa hMa) (fun hHeld => ?_); clear hK K; (try simp only [Act.put, List.setIfInBounds_toArray, List.set_cons_zero, List.set_cons_succ]))
  refine wpAnyH_ready (rs := [5]) (by kernel_rfl) (by simp) (AllReadyH.cons rfl (fun K hK => ?_) AllReadyH.nil)
  go_simp
  go_at_call 114
  refine (l01Next_any W1.heap.size W1.heap.size 20 _ HA.out.1).mono ?_
  rintro e' wb ⟨y, rfl, _, hsb, hob⟩
  have hob4 : Only W1.heap.size w4 wb := HA.out.2.trans hob
  clear hsb hob hMa hcM
  -- at world wb (Only the source since w4): facts behind the last call of a region that returns
  have hzb := hob4.size
  have hMb : wb.heap[w3.heap.size]? = w4.heap[w3.heap.size]? := hob4.block _ (by omega) (fun e => by omega)
  have hBb : Below W.heap.size W wb := H4.out.2.1.trans ((hob4.to_below (B := W1.heap.size) (Nat.le_refl _) (by omega)).mono (by omega))
  have hRb := hob4.heap H4.out.2.2.2.1 (fun e => by omega)
  have hub := H4.out.2.2.2.2.1.mono (S' := fun b => W1.heap.size ≤ b) (fun b hb _ => by have hb : w2.heap.size ≤ b := hb; omega) (hob4.keep fun b hb e => by have hb : w2.heap.size ≤ b := hb; omega)
  have hcb := H4.out.2.2.2.2.2.1.mono (S' := fun b => W1.heap.size ≤ b) (fun b hb _ => by have hb : w2.heap.size ≤ b := hb; omega) (hob4.keep fun b hb e => by have hb : w2.heap.size ≤ b := hb; omega)
  have hC := Lib.hid (And.intro hBb (And.intro hRb (And.intro hub (And.intro hcb hMb)))); clear hBb hRb hub hcb
  dsimp only
  (refine hK.out _ _ (hSk wb hMb) (fun hHeld => ?_); clear hK K; (try simp only [Act.put, List.setIfInBounds_toArray, List.set_cons_zero, List.set_cons_succ]))
  (refine wpAnyH_take (i := 6) (v := .int .i64 (IntKind.i64.wrap (y.tdiv 19))) rfl (by kernel_rfl) (by kernel_rfl) (by kernel_rfl) (fun _ _ _ h => h) (Or.inl ⟨by kernel_rfl, fun w hSw => by (try dsimp only at hSw); go_split_ands; go_simp⟩) (by assumption) ?_; simp only [Act.put, List.setIfInBounds_toArray, List.set_cons_zero, List.set_cons_succ])
  (refine wpAnyH_take (i := 7) (v := .int .i64 (IntKind.i64.wrap (x - IntKind.i64.wrap (y.tdiv 19)))) rfl (by kernel_rfl) (by kernel_rfl) (by kernel_rfl) (fun _ _ _ h => h) (Or.inl ⟨by kernel_rfl, fun w hSw => by (try dsimp only at hSw); go_split_ands; go_simp⟩) (by assumption) ?_; simp only [Act.put, List.setIfInBounds_toArray, List.set_cons_zero, List.set_cons_succ])
  -- the store into the result's cell (operation 8) of a region whose calls are done, at wb
  have hcRz : ∀ o, wb.cell? ⟨W.heap.size, o, none⟩ = (#[.int .i64 0, .int .i64 0, .int .i64 0, .int .i64 0, .int .i64 0, .slice none 0 0] : Array Value)[o]? := fun o => by rw [cell_of_block hC.out.2.1]
  have hfRz := fun o => frozen_of_block hC.out.2.1 o
  (refine wpAnyH_ready (rs := [8]) (by kernel_rfl) (by simp) (AllReadyH.cons rfl (fun K hK => ?_) AllReadyH.nil); go_simp)
  -- the system goes into the result's cell: from world wb to wz
  have hdone := putS_new hC.out.1 hC.out.2.1 (.int .i64 m.c) (.int .i64 m.d) (.int .i64 m.s) (.int .i64 m.e) (.int .i64 m.l) (.slice ta T.length tc)
  obtain ⟨wz, hwz⟩ : ∃ wz, wz = putS wb W.heap.size (.int .i64 m.c) (.int .i64 m.d) (.int .i64 m.s) (.int .i64 m.e) (.int .i64 m.l) (.slice ta T.length tc) := ⟨_, rfl⟩
  rw [← hwz] at hdone
  obtain ⟨hd2, hd3, hd4⟩ := hdone
  have hFz : V2 (fun b => W.heap.size ≤ b) wz (.slice ta T.length tc) T := V2.mono (S := fun b => W1.heap.size ≤ b) hC.out.2.2.1 (fun b hb _ => by have hb : W1.heap.size ≤ b := hb; omega) (fun b hb _ => hd4 b (by have hb : W1.heap.size ≤ b := hb; omega))
  have hcz : V2 (fun b => W.heap.size ≤ b) wz (.slice ca cuts.length cc) cuts := V2.mono (S := fun b => W1.heap.size ≤ b) hC.out.2.2.2.1 (fun b hb _ => by have hb : W1.heap.size ≤ b := hb; omega) (fun b hb _ => hd4 b (by have hb : W1.heap.size ≤ b := hb; omega))
  have hz0 : wz.cell? ⟨W.heap.size, 0, none⟩ = some (.int .i64 m.c) := by rw [cell_of_block hd3]; rfl
  have hz1 : wz.cell? ⟨W.heap.size, 1, none⟩ = some (.int .i64 m.d) := by rw [cell_of_block hd3]; rfl
  have hz2 : wz.cell? ⟨W.heap.size, 2, none⟩ = some (.int .i64 m.s) := by rw [cell_of_block hd3]; rfl
  have hz3 : wz.cell? ⟨W.heap.size, 3, none⟩ = some (.int .i64 m.e) := by rw [cell_of_block hd3]; rfl
  have hz4 : wz.cell? ⟨W.heap.size, 4, none⟩ = some (.int .i64 m.l) := by rw [cell_of_block hd3]; rfl
  have hz5 : wz.cell? ⟨W.heap.size, 5, none⟩ = some (.slice ta T.length tc) := by rw [cell_of_block hd3]; rfl
  have HZ := Lib.hid (And.intro hd2 (And.intro hFz (And.intro hcz (And.intro hwz (And.intro hz0 (And.intro hz1 (And.intro hz2 (And.intro hz3 (And.intro hz4 (And.intro hz5 hd4)))))))))); clear hd2 hd3 hd4 hFz hcz hwz hz0 hz1 hz2 hz3 hz4 hz5
  skip
  have hwz := HZ.out.2.2.2.1
  unfold putS putR at hwz
  rw [← hwz]
  clear hwz
  obtain ⟨hd2, hFz, hcz, hwzz, hz0, hz1, hz2, hz3, hz4, hz5, hd4⟩ := HZ.out
  clear hwzz
  have hSz := hSk wz ((hd4 _ (by omega)).trans hMb)
  (refine hK.out _ _ hSz (fun hHeld => ?_); clear hK K; (try simp only [Act.put, List.setIfInBounds_toArray, List.set_cons_zero, List.set_cons_succ]))
  (refine wpAnyH_ready (rs := [9]) (by kernel_rfl) (by simp) (AllReadyH.cons rfl (fun K hK => ?_) AllReadyH.nil); go_simp)
  (refine hK.out _ _ hSz (fun hHeld => ?_); clear hK K; (try simp only [Act.put, List.setIfInBounds_toArray, List.set_cons_zero, List.set_cons_succ]))
  (refine wpAnyH_ready (rs := [10]) (by kernel_rfl) (by simp) (AllReadyH.cons rfl (fun K hK => ?_) AllReadyH.nil); go_simp)
  (refine hK.out _ _ hSz (fun hHeld => ?_); clear hK K; (try simp only [Act.put, List.setIfInBounds_toArray, List.set_cons_zero, List.set_cons_succ]))
  refine wpAnyH_done (by kernel_rfl) (NoPanic.normal ?_) _
  go_wp2_with fail
  exact bodyPost_ret (v := .tuple #[.agg #[.int .i64 m.c, .int .i64 m.d, .int .i64 m.s, .int .i64 m.e, .int .i64 m.l, .slice ta T.length tc], .slice ca cuts.length cc, .int .i64 (IntKind.i64.wrap (x - IntKind.i64.wrap (y.tdiv 19)))]) (by simp [results, Tryz.results24, go_sem, hz0, hz1, hz2, hz3, hz4, hz5]) rfl ⟨m, _, _, T, cuts, [.int .i64 (IntKind.i64.wrap (x - IntKind.i64.wrap (y.tdiv 19)))], rfl, ⟨_, rfl⟩, hFz, hcz, hd2⟩
set_option maxRecDepth 100000 in
set_option maxHeartbeats 2000000 in
theorem DrawSafeKeys_any {S : Nat → Prop} (v : Value) (l : List Int) (W : World) (h : VB S W v l) :
    Calls Tryz.prog 76 #[v] W (DrawCi W) := by
  obtain ⟨a, c, rfl, hm⟩ := h.form
  obtain ⟨W1, hW1, hB01, hz01, HZ01, _, hh01⟩ := box_facts W #[.int .i64 0, .int .i64 0, .int .i64 0, .int .i64 0, .int .i64 0, .slice none 0 0] 28
  have hz1e := HZ01.out
  have hz1l : W1.heap.size ≤ W.heap.size + 1 := by omega
  have HL := Lib.hid (And.intro (h.below hB01) (And.intro hB01 (And.intro hh01 hW1))); clear h hh01 hB01 hz1e
  go_enter Tryz.func76, Tryz.ntmps76
  go_wp2_with fail
  rw [← HL.out.2.2.2]
  clear hW1
  refine (DrawSystemGhosts_any _ l W1 HL.out.1).mono ?_
  rintro e' w2 hD
  obtain ⟨m, u, cv, T, cuts, n, rfl, hu, hcv, hb2⟩ := hD.open
  obtain ⟨ta, tc, rfl, _⟩ := hu.form
  obtain ⟨ca, cc, rfl, _⟩ := hcv.form
  have hz2 := hb2.size
  have H3 := Lib.hid (And.intro (HL.out.2.1.trans (hb2.mono (by omega))) (And.intro ((hb2.block _ hz01).trans HL.out.2.2.1) (And.intro hu hcv))); clear hb2 hu hcv
  have hcRz : ∀ o, w2.cell? ⟨W.heap.size, o, none⟩ = (#[.int .i64 0, .int .i64 0, .int .i64 0, .int .i64 0, .int .i64 0, .slice none 0 0] : Array Value)[o]? := fun o => by rw [cell_of_block H3.out.2.1]
  have hfRz := fun o => frozen_of_block H3.out.2.1 o
  -- the system goes into the result's cell: from world w2 to wz
  have hdone := putS_new H3.out.1 H3.out.2.1 (.int .i64 m.c) (.int .i64 m.d) (.int .i64 m.s) (.int .i64 m.e) (.int .i64 m.l) (.slice ta T.length tc)
  obtain ⟨wz, hwz⟩ : ∃ wz, wz = putS w2 W.heap.size (.int .i64 m.c) (.int .i64 m.d) (.int .i64 m.s) (.int .i64 m.e) (.int .i64 m.l) (.slice ta T.length tc) := ⟨_, rfl⟩
  rw [← hwz] at hdone
  obtain ⟨hd2, hd3, hd4⟩ := hdone
  have hFz : V2 (fun b => W.heap.size ≤ b) wz (.slice ta T.length tc) T := V2.mono (S := fun b => W1.heap.size ≤ b) H3.out.2.2.1 (fun b hb _ => by have hb : W1.heap.size ≤ b := hb; omega) (fun b hb _ => hd4 b (by have hb : W1.heap.size ≤ b := hb; omega))
  have hcz : V2 (fun b => W.heap.size ≤ b) wz (.slice ca cuts.length cc) cuts := V2.mono (S := fun b => W1.heap.size ≤ b) H3.out.2.2.2 (fun b hb _ => by have hb : W1.heap.size ≤ b := hb; omega) (fun b hb _ => hd4 b (by have hb : W1.heap.size ≤ b := hb; omega))
  have hz0 : wz.cell? ⟨W.heap.size, 0, none⟩ = some (.int .i64 m.c) := by rw [cell_of_block hd3]; rfl
  have hz1 : wz.cell? ⟨W.heap.size, 1, none⟩ = some (.int .i64 m.d) := by rw [cell_of_block hd3]; rfl
  have hz2 : wz.cell? ⟨W.heap.size, 2, none⟩ = some (.int .i64 m.s) := by rw [cell_of_block hd3]; rfl
  have hz3 : wz.cell? ⟨W.heap.size, 3, none⟩ = some (.int .i64 m.e) := by rw [cell_of_block hd3]; rfl
  have hz4 : wz.cell? ⟨W.heap.size, 4, none⟩ = some (.int .i64 m.l) := by rw [cell_of_block hd3]; rfl
  have hz5 : wz.cell? ⟨W.heap.size, 5, none⟩ = some (.slice ta T.length tc) := by rw [cell_of_block hd3]; rfl
  have HZ := Lib.hid (And.intro hd2 (And.intro hFz (And.intro hcz (And.intro hwz (And.intro hz0 (And.intro hz1 (And.intro hz2 (And.intro hz3 (And.intro hz4 (And.intro hz5 hd4)))))))))); clear hd2 hd3 hd4 hFz hcz hwz hz0 hz1 hz2 hz3 hz4 hz5
  go_wp2_with fail
  have hwz := HZ.out.2.2.2.1
  unfold putS putR at hwz
  rw [← hwz]
  clear hwz
  obtain ⟨hd2, hFz, hcz, hwzz, hz0, hz1, hz2, hz3, hz4, hz5, hd4⟩ := HZ.out
  clear hwzz
  exact bodyPost_ret (v := .tuple #[.agg #[.int .i64 m.c, .int .i64 m.d, .int .i64 m.s, .int .i64 m.e, .int .i64 m.l, .slice ta T.length tc], .slice ca cuts.length cc, .int .i64 (n)]) (by simp [results, Tryz.results76, go_sem, hz0, hz1, hz2, hz3, hz4, hz5]) rfl ⟨m, _, _, T, cuts, [.int .i64 (n)], rfl, ⟨_, rfl⟩, hFz, hcz, hd2⟩
end Go.Proofs.YtmfgdoflddhngaaGreat
