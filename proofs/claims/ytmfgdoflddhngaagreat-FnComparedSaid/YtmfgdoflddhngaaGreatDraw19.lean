/- More draws of the laws on designs: keys beside a system and its cuts, wear and tolerance. No conditions. -/
import Derived.Test.YtmfgdoflddhngaaGreatDraw18
namespace Go.Proofs.YtmfgdoflddhngaaGreat
open Go.RowKit
set_option linter.unusedVariables false
set_option linter.unusedSimpArgs false

theorem isMakerR_b (m : Mk) (W : World) (r : Bool) (hr : m.ok = r) :
    Calls Tryz.prog 222 #[.agg #[.int .i64 m.c, .int .i64 m.d, .int .i64 m.s, .int .i64 m.e, .int .i64 m.l]] W fun e' w' => e' = .returned (.bool r) ∧ Below W.heap.size W w' := by subst hr; exact isMakerR_any m.c m.d m.s m.e m.l W
set_option maxRecDepth 100000 in
set_option maxHeartbeats 1000000 in
theorem l02DrawKey_any (B0 SB : Nat) (m : Mk) (hm : SmallM m) (W : World) (h : Src B0 SB W) :
    Calls Tryz.prog 148 #[.pointer (some ⟨SB, 0, none⟩), .agg #[.int .i64 m.c, .int .i64 m.d, .int .i64 m.s, .int .i64 m.e, .int .i64 m.l]] W fun e w' => ∃ v l, e = .returned v ∧ V1 (fun b => W.heap.size ≤ b) w' v l ∧ Src B0 SB w' ∧ Only SB W w' := by
  have hSl := h.lt
  have hB0 : B0 ≤ SB := h.1
  obtain ⟨W1, hW1, hB01, hz01, HZ01, hc01, hh01⟩ := box_facts W #[.int .i64 m.c, .int .i64 m.d, .int .i64 m.s, .int .i64 m.e, .int .i64 m.l] 25
  have HL := Lib.hid (And.intro (h.below hB01) (And.intro hm (And.intro hh01 (And.intro (Only.of_below (SB := SB) hB01) hW1)))); clear h hm hh01 hB01
  have hc01' := hc01
  go_enter Tryz.func148, Tryz.ntmps148
  go_wp2_with fail
  rw [← HL.out.2.2.2.2]
  clear hW1
  refine (l02DrawCuts_any B0 SB m HL.out.2.1 _ HL.out.1).mono ?_
  rintro e' w2 ⟨rv, l, rfl, ⟨hrv, hl9⟩, hs2, ho2⟩
  have hz2 := ho2.size
  have hh2 := ho2.heap HL.out.2.2.1 (fun e => by omega)
  have hc2 : ∀ o, w2.cell? ⟨W.heap.size, o, none⟩ = (#[.int .i64 m.c, .int .i64 m.d, .int .i64 m.s, .int .i64 m.e, .int .i64 m.l] : Array Value)[o]? := fun o => by rw [cell_of_block hh2]
  obtain ⟨ra, rc, rfl, _⟩ := hrv.v1.form
  have H2 := Lib.hid (And.intro hs2 (And.intro (HL.out.2.2.2.1.trans ho2) (And.intro hh2 hrv.v1))); clear hs2 ho2 hh2 hrv hc01 hc01'
  go_wp2_with fail
  cases hok : m.ok
  · have Hok := Lib.hid hok; clear hok
    refine (isMakerR_b m _ false Hok.out).mono ?_
    rintro e' w3 ⟨rfl, hb3⟩
    have H3 := Lib.hid (And.intro (H2.out.1.below hb3) (And.intro (H2.out.2.1.then_below hb3) ((H2.out.2.2.2.below hb3).mono (S' := fun b => W.heap.size ≤ b) (fun b hb _ => by have hb : W1.heap.size ≤ b := hb; omega) (fun _ _ _ => rfl)))); clear hb3 hc2
    go_wp2_with fail
    go_ret
    exact ⟨_, l, rfl, H3.out.2.2, H3.out.1, H3.out.2.1⟩
  · have Hok := Lib.hid hok; clear hok
    refine (isMakerR_b m _ true Hok.out).mono ?_
    rintro e' w3 ⟨rfl, hb3⟩
    have hz3 := hb3.size
    have hh3 := heap_below H2.out.2.2.1 hb3 (by omega)
    have H3 := Lib.hid (And.intro (H2.out.1.below hb3) (And.intro (H2.out.2.1.then_below hb3) (And.intro (H2.out.2.2.2.below hb3) hh3))); clear hb3 hc2 hh3
    go_wp2_with fail
    refine (l01Next_any B0 SB 12 _ H3.out.1).mono ?_
    rintro e' w4 ⟨x, rfl, _, hs4, ho4⟩
    have hz4 := ho4.size
    have hh4 := ho4.heap H3.out.2.2.2 (fun e => by omega)
    have hc4 : ∀ o, w4.cell? ⟨W.heap.size, o, none⟩ = (#[.int .i64 m.c, .int .i64 m.d, .int .i64 m.s, .int .i64 m.e, .int .i64 m.l] : Array Value)[o]? := fun o => by rw [cell_of_block hh4]
    have hV4 : V1 (fun b => W.heap.size ≤ b) w4 (.slice ra l.length rc) l := H3.out.2.2.1.mono (fun b hb _ => by have hb : W1.heap.size ≤ b := hb; omega) (ho4.keep fun b hb e => by have hb : W1.heap.size ≤ b := hb; omega)
    have H4 := Lib.hid (And.intro hs4 (And.intro (H3.out.2.1.trans ho4) hV4)); clear hs4 ho4 hh4 hV4
    by_cases hx : x = 0
    · subst hx
      clear hc4
      go_wp2_with fail
      go_ret
      exact ⟨_, l, rfl, H4.out.2.2, H4.out.1, H4.out.2.1⟩
    · have hxd : (x == 0) = false := by simp [hx]
      clear hx
      go_wp2_with fail
      refine (l02Some_any B0 SB m Hok.out _ H4.out.1).mono ?_
      rintro e' w5 ⟨kv, key, rfl, ⟨hkv, _⟩, hs5, ho5⟩
      have H5 := Lib.hid (And.intro (hkv.mono (S' := fun b => W.heap.size ≤ b) (fun b hb _ => by have hb : w4.heap.size ≤ b := hb; omega) (fun _ _ _ => rfl)) (And.intro hs5 (H4.out.2.1.trans ho5))); clear hkv hs5 ho5 hc4
      go_wp2_with fail
      go_ret
      exact ⟨_, key, rfl, H5.out.1, H5.out.2.1, H5.out.2.2⟩
set_option maxRecDepth 100000 in
set_option maxHeartbeats 1000000 in
theorem l08DrawNumbers_any (B0 SB : Nat) (W : World) (h : Src B0 SB W) :
    Calls Tryz.prog 123 #[.pointer (some ⟨SB, 0, none⟩)] W fun e w' => ∃ x y : Int, e = .returned (.tuple #[.int .i64 x, .int .i64 y]) ∧ Src B0 SB w' ∧ Only SB W w' := by
  have hSl := h.lt
  have HL := Lib.hid h; clear h
  go_enter Tryz.func123, Tryz.ntmps123
  go_wp2_with fail
  refine (l01Next_any B0 SB 20 _ HL.out).mono ?_
  rintro e' w2 ⟨x, rfl, _, hs2, ho2⟩
  have hz2 := ho2.size
  have H2 := Lib.hid (And.intro hs2 ho2); clear hs2 ho2
  -- picks one of [0, 3, 6, 10, 14, 19, x] (cells #[.int .i64 0, .int .i64 3, .int .i64 6, .int .i64 10, .int .i64 14, .int .i64 19, .int .i64 x], 7 of them) at world w2 (source fact H2.out.1, change fact H2.out.2): answer y at w3
  have hL := lit_V1 w2 2 [0, 3, 6, 10, 14, 19, x] (by simp)
  obtain ⟨wa, hwa⟩ : ∃ wa, wa = World.alloc w2 (.cells #[.int .i64 0, .int .i64 3, .int .i64 6, .int .i64 10, .int .i64 14, .int .i64 19, .int .i64 x] 2) := ⟨_, rfl⟩
  have hbi : Below (w2).heap.size w2 wa := by rw [hwa]; exact (Below.refl _ _).alloc (Nat.le_refl _) _
  have hL : V1 (fun b => b = (w2).heap.size) wa (.slice (some ⟨(w2).heap.size, 0, none⟩) 7 7) [0, 3, 6, 10, 14, 19, x] := by rw [hwa]; exact hL
  have hza := hbi.size
  have HA := Lib.hid (And.intro hL (And.intro (H2.out.1.below hbi) (And.intro (H2.out.2.then_below hbi) hwa))); clear hL hbi hwa
  go_wp2_with fail
  rw [← HA.out.2.2.2]
  refine (l01Pick_any B0 SB _ [0, 3, 6, 10, 14, 19, x] wa HA.out.2.1 HA.out.1 (fun b hb => by omega) (by simp)).mono ?_
  rintro e' w3 ⟨y, rfl, _, hs, ho⟩
  have hzp := ho.size
  have HP := Lib.hid (And.intro hs (HA.out.2.2.1.trans ho)); clear hs ho HA
  go_wp2_with fail
  refine (l01Next_any B0 SB 5 _ HP.out.1).mono ?_
  rintro e' w4 ⟨z, rfl, _, hs4, ho4⟩
  have hz4 := ho4.size
  have H4 := Lib.hid (And.intro hs4 (HP.out.2.trans ho4)); clear hs4 ho4
  go_wp2_with fail
  refine (l01Next_any B0 SB 24 _ H4.out.1).mono ?_
  rintro e' w5 ⟨q, rfl, ⟨hq0, hq1⟩, hs5, ho5⟩
  have hz5 := ho5.size
  have H5 := Lib.hid (And.intro hs5 (H4.out.2.trans ho5)); clear hs5 ho5 HP
  by_cases hq : q = 0
  · subst hq
    -- picks one of [-1, 20] (cells #[.int .i64 (-1), .int .i64 20], 2 of them) at world w5 (source fact H5.out.1, change fact H5.out.2): answer y at w6
    have hL := lit_V1 w5 2 [-1, 20] (by simp)
    obtain ⟨wa, hwa⟩ : ∃ wa, wa = World.alloc w5 (.cells #[.int .i64 (-1), .int .i64 20] 2) := ⟨_, rfl⟩
    have hbi : Below (w5).heap.size w5 wa := by rw [hwa]; exact (Below.refl _ _).alloc (Nat.le_refl _) _
    have hL : V1 (fun b => b = (w5).heap.size) wa (.slice (some ⟨(w5).heap.size, 0, none⟩) 2 2) [-1, 20] := by rw [hwa]; exact hL
    have hza := hbi.size
    have HA := Lib.hid (And.intro hL (And.intro (H5.out.1.below hbi) (And.intro (H5.out.2.then_below hbi) hwa))); clear hL hbi hwa
    go_wp2_with fail
    rw [← HA.out.2.2.2]
    refine (l01Pick_any B0 SB _ [-1, 20] wa HA.out.2.1 HA.out.1 (fun b hb => by omega) (by simp)).mono ?_
    rintro e' w6 ⟨y2, rfl, _, hs, ho⟩
    have hzp := ho.size
    have HP := Lib.hid (And.intro hs (HA.out.2.2.1.trans ho)); clear hs ho HA
    go_wp2_with fail
    go_ret2
    exact ⟨_, _, rfl, HP.out.1, HP.out.2⟩
  · have hqd : (q == 0) = false := by simp [hq]
    by_cases hq2 : q = 1
    · subst hq2
      -- picks one of [-1, 5] (cells #[.int .i64 (-1), .int .i64 5], 2 of them) at world w5 (source fact H5.out.1, change fact H5.out.2): answer y at w6
      have hL := lit_V1 w5 2 [-1, 5] (by simp)
      obtain ⟨wa, hwa⟩ : ∃ wa, wa = World.alloc w5 (.cells #[.int .i64 (-1), .int .i64 5] 2) := ⟨_, rfl⟩
      have hbi : Below (w5).heap.size w5 wa := by rw [hwa]; exact (Below.refl _ _).alloc (Nat.le_refl _) _
      have hL : V1 (fun b => b = (w5).heap.size) wa (.slice (some ⟨(w5).heap.size, 0, none⟩) 2 2) [-1, 5] := by rw [hwa]; exact hL
      have hza := hbi.size
      have HA := Lib.hid (And.intro hL (And.intro (H5.out.1.below hbi) (And.intro (H5.out.2.then_below hbi) hwa))); clear hL hbi hwa
      go_wp2_with fail
      rw [← HA.out.2.2.2]
      refine (l01Pick_any B0 SB _ [-1, 5] wa HA.out.2.1 HA.out.1 (fun b hb => by omega) (by simp)).mono ?_
      rintro e' w6 ⟨y2, rfl, _, hs, ho⟩
      have hzp := ho.size
      have HP := Lib.hid (And.intro hs (HA.out.2.2.1.trans ho)); clear hs ho HA
      go_wp2_with fail
      go_ret2
      exact ⟨_, _, rfl, HP.out.1, HP.out.2⟩
    · have hqd2 : (q == 1) = false := by simp [hq2]
      clear hq hq2
      go_wp2_with fail
      go_ret2
      exact ⟨_, _, rfl, H5.out.1, H5.out.2⟩
set_option maxRecDepth 100000 in
set_option maxHeartbeats 4000000 in
theorem DrawDoorsOpened_any {S : Nat → Prop} (v : Value) (l : List Int) (W : World) (h : VB S W v l) :
    Calls Tryz.prog 51 #[v] W (DrawCk W) := by
  obtain ⟨a, c, rfl, hm⟩ := h.form
  obtain ⟨W1, hW1, hB01, hz01, HZ01, _, hh01⟩ := box_facts W #[.int .i64 0, .int .i64 0, .int .i64 0, .int .i64 0, .int .i64 0, .slice none 0 0] 28
  have hz1e := HZ01.out
  have hz1l : W1.heap.size ≤ W.heap.size + 1 := by omega
  have HL := Lib.hid (And.intro (h.below hB01) (And.intro hB01 (And.intro hh01 hW1))); clear h hh01 hB01 hz1e
  go_enter Tryz.func51, Tryz.ntmps51
  go_wp2_with fail
  rw [← HL.out.2.2.2]
  clear hW1
  refine (l01From_any _ l W1 HL.out.1).mono ?_
  rintro e' w2 ⟨rfl, hs2, hb2⟩
  have hz2 := hb2.size
  have H2 := Lib.hid (And.intro hs2 (And.intro hb2 ((hb2.block _ hz01).trans HL.out.2.2.1))); clear hs2 hb2
  go_wp2_with fail
  refine (l21Draw_any W1.heap.size W1.heap.size w2 H2.out.1).mono ?_
  rintro e' w3 ⟨m, u, cv, T, cuts, rfl, hsm, hu, hcv, hs3, ho3⟩
  have hz3 := ho3.size
  have hz23 : W1.heap.size < w2.heap.size := H2.out.1.lt
  obtain ⟨ta, tc, rfl, _⟩ := hu.form
  obtain ⟨ca, cc, rfl, _⟩ := hcv.form
  by_cases hcl : cuts.length = 0
  · have hcd : decide ((0 : Int) < (cuts.length : Int)) = false := decide_eq_false (by omega)
    have hcd2 : decide (0 < cuts.length) = false := decide_eq_false (by omega)
    have Hcl := Lib.hid hcl; clear hcl
    have hRw := ho3.heap H2.out.2.2 (fun e => by omega)
    have hBw : Below W.heap.size W w3 := HL.out.2.1.trans ((H2.out.2.1.trans (ho3.to_below (Nat.le_refl _) (by omega))).mono (by omega))
    obtain ⟨w4, hw4⟩ : ∃ w4, w4 = w3.alloc (.cells #[.int .i64 m.c, .int .i64 m.d, .int .i64 m.s, .int .i64 m.e, .int .i64 m.l, .slice ta T.length tc] 28) := ⟨_, rfl⟩
    have hb34 : Below w3.heap.size w3 w4 := by rw [hw4]; exact (Below.refl _ _).alloc (Nat.le_refl _) _
    have hM4 : w4.heap[w3.heap.size]? = some (.cells #[.int .i64 m.c, .int .i64 m.d, .int .i64 m.s, .int .i64 m.e, .int .i64 m.l, .slice ta T.length tc] 28 (0, 0)) := by rw [hw4]; exact heap_alloc_self _ _
    have hz4 : w3.heap.size < w4.heap.size := lt_of_heap hM4
    have H4 := Lib.hid (And.intro (hs3.below hb34) (And.intro (hBw.trans (hb34.mono (by omega))) (And.intro hM4 (And.intro ((hb34.block _ (by omega)).trans hRw) (And.intro (hu.below hb34) (And.intro (hcv.below hb34) (And.intro hsm hw4))))))); clear hs3 ho3 hRw hBw hb34 hM4 hu hcv hsm hw4
    have hcM : ∀ o, w4.cell? ⟨w3.heap.size, o, none⟩ = (#[.int .i64 m.c, .int .i64 m.d, .int .i64 m.s, .int .i64 m.e, .int .i64 m.l, .slice ta T.length tc] : Array Value)[o]? := fun o => by rw [cell_of_block H4.out.2.2.1]
    have hSk : ∀ w' : World, w'.heap[w3.heap.size]? = w4.heap[w3.heap.size]? → w'.cell? ⟨w3.heap.size, 0, none⟩ = some (.int .i64 m.c) ∧ w'.cell? ⟨w3.heap.size, 1, none⟩ = some (.int .i64 m.d) ∧ w'.cell? ⟨w3.heap.size, 2, none⟩ = some (.int .i64 m.s) ∧ w'.cell? ⟨w3.heap.size, 3, none⟩ = some (.int .i64 m.e) ∧ w'.cell? ⟨w3.heap.size, 4, none⟩ = some (.int .i64 m.l) ∧ w'.cell? ⟨w3.heap.size, 5, none⟩ = some (.slice ta T.length tc) := fun w' hw => by
      refine ⟨?_, ?_, ?_, ?_, ?_, ?_⟩ <;> exact cell_keep (hcM _) hw
    go_wp2_with fail
    rw [← H4.out.2.2.2.2.2.2.2]
    go_wp2_with fail
    -- the key is drawn (region 5), at world w5
    have hSk5 : ∀ w' : World, w'.heap[w3.heap.size]? = w4.heap[w3.heap.size]? → w'.cell? ⟨w3.heap.size, 0, none⟩ = some (.int .i64 m.c) ∧ w'.cell? ⟨w3.heap.size, 1, none⟩ = some (.int .i64 m.d) ∧ w'.cell? ⟨w3.heap.size, 2, none⟩ = some (.int .i64 m.s) ∧ w'.cell? ⟨w3.heap.size, 3, none⟩ = some (.int .i64 m.e) ∧ w'.cell? ⟨w3.heap.size, 4, none⟩ = some (.int .i64 m.l) ∧ w'.cell? ⟨w3.heap.size, 5, none⟩ = some (.slice ta T.length tc) := hSk
    refine wp_region_noPanic ?_
    refine wp_region_held_drew (S := fun w' => w'.cell? ⟨w3.heap.size, 0, none⟩ = some (.int .i64 m.c) ∧ w'.cell? ⟨w3.heap.size, 1, none⟩ = some (.int .i64 m.d) ∧ w'.cell? ⟨w3.heap.size, 2, none⟩ = some (.int .i64 m.s) ∧ w'.cell? ⟨w3.heap.size, 3, none⟩ = some (.int .i64 m.e) ∧ w'.cell? ⟨w3.heap.size, 4, none⟩ = some (.int .i64 m.l) ∧ w'.cell? ⟨w3.heap.size, 5, none⟩ = some (.slice ta T.length tc)) (by kernel_rfl) (hSk w4.drew (rfl)) (fun hHeld => ?_)
    (refine wpAnyH_take (i := 0) (v := .agg #[.int .i64 m.c, .int .i64 m.d, .int .i64 m.s, .int .i64 m.e, .int .i64 m.l, .slice ta T.length tc]) rfl (by kernel_rfl) (by kernel_rfl) (by kernel_rfl) (fun _ _ _ h => h) (Or.inl ⟨by kernel_rfl, fun w hSw => by (try dsimp only at hSw); go_split_ands; go_simp⟩) (by assumption) ?_; simp only [Act.put, List.setIfInBounds_toArray, List.set_cons_zero, List.set_cons_succ])
    (refine wpAnyH_take (i := 1) (v := .slice ca cuts.length cc) rfl (by kernel_rfl) (by kernel_rfl) (by kernel_rfl) (fun _ _ _ h => h) (Or.inl ⟨by kernel_rfl, fun w hSw => by (try dsimp only at hSw); go_split_ands; go_simp⟩) (by assumption) ?_; simp only [Act.put, List.setIfInBounds_toArray, List.set_cons_zero, List.set_cons_succ])
    (refine wpAnyH_take (i := 2) (v := .pointer (some ⟨W1.heap.size, 0, none⟩)) rfl (by kernel_rfl) (by kernel_rfl) (by kernel_rfl) (fun _ _ _ h => h) (Or.inl ⟨by kernel_rfl, fun w hSw => by (try dsimp only at hSw); go_split_ands; go_simp⟩) (by assumption) ?_; simp only [Act.put, List.setIfInBounds_toArray, List.set_cons_zero, List.set_cons_succ])
    (refine wpAnyH_take (i := 3) (v := .pointer (some ⟨w3.heap.size, 0, none⟩)) rfl (by kernel_rfl) (by kernel_rfl) (by kernel_rfl) (fun _ _ _ h => h) (Or.inl ⟨by kernel_rfl, fun w hSw => by (try dsimp only at hSw); go_split_ands; go_simp⟩) (by assumption) ?_; simp only [Act.put, List.setIfInBounds_toArray, List.set_cons_zero, List.set_cons_succ])
    (refine wpAnyH_take (i := 4) (v := .agg #[.int .i64 m.c, .int .i64 m.d, .int .i64 m.s, .int .i64 m.e, .int .i64 m.l]) rfl (by kernel_rfl) (by kernel_rfl) (by kernel_rfl) (fun _ _ _ h => h) (Or.inl ⟨by kernel_rfl, fun w hSw => by (try dsimp only at hSw); go_split_ands; go_simp⟩) (by assumption) ?_; simp only [Act.put, List.setIfInBounds_toArray, List.set_cons_zero, List.set_cons_succ])
    refine wpAnyH_ready (rs := [5]) (by kernel_rfl) (by simp) (AllReadyH.cons rfl (fun K hK => ?_) AllReadyH.nil)
    go_simp
    go_at_call 148
    refine (l02DrawKey_any W1.heap.size W1.heap.size m H4.out.2.2.2.2.2.2.1 _ (H4.out.1.below ((Below.refl _ _).drew))).mono ?_
    rintro e' wb ⟨kv, key, rfl, hkv, hsb, hob⟩
    have hob4 : Only W1.heap.size w4 wb := (Only.refl W1.heap.size w4).trans ((Only.of_below ((Below.refl (w4).heap.size (w4)).drew)).trans hob)
    have hz5 := ((Only.refl W1.heap.size w4)).size
    obtain ⟨xa, xc, rfl, _⟩ := hkv.form
    have hKV : V1 (fun b => W1.heap.size ≤ b) wb (.slice xa key.length xc) key := hkv.mono (fun b hb _ => by have hb : (w4).heap.size ≤ b := hb; omega) (fun _ _ _ => rfl)
    have HK := Lib.hid hKV; clear hkv hKV hsb hob hcM
    -- at world wb (Only the source since w4): facts behind the last call of a region that returns
    have hzb := hob4.size
    have hMb : wb.heap[w3.heap.size]? = w4.heap[w3.heap.size]? := hob4.block _ (by omega) (fun e => by omega)
    have hBb : Below W.heap.size W wb := H4.out.2.1.trans ((hob4.to_below (B := W1.heap.size) (Nat.le_refl _) (by omega)).mono (by omega))
    have hRb := hob4.heap H4.out.2.2.2.1 (fun e => by omega)
    have hub := H4.out.2.2.2.2.1.mono (S' := fun b => W1.heap.size ≤ b) (fun b hb _ => by have hb : w2.heap.size ≤ b := hb; omega) (hob4.keep fun b hb e => by have hb : w2.heap.size ≤ b := hb; omega)
    have hcb := H4.out.2.2.2.2.2.1.mono (S' := fun b => W1.heap.size ≤ b) (fun b hb _ => by have hb : w2.heap.size ≤ b := hb; omega) (hob4.keep fun b hb e => by have hb : w2.heap.size ≤ b := hb; omega)
    have hC := Lib.hid (And.intro hBb (And.intro hRb (And.intro hub (And.intro hcb hMb)))); clear hBb hRb hub hcb
    dsimp only
    (refine hK.out _ _ (hSk wb hMb) (fun hHeld => ?_); clear hK K; (try simp only [Act.put, List.setIfInBounds_toArray, List.set_cons_zero, List.set_cons_succ]))
    -- the store into the result's cell (operation 6) of a region whose calls are done, at wb
    have hcRz : ∀ o, wb.cell? ⟨W.heap.size, o, none⟩ = (#[.int .i64 0, .int .i64 0, .int .i64 0, .int .i64 0, .int .i64 0, .slice none 0 0] : Array Value)[o]? := fun o => by rw [cell_of_block hC.out.2.1]
    have hfRz := fun o => frozen_of_block hC.out.2.1 o
    (refine wpAnyH_ready (rs := [6]) (by kernel_rfl) (by simp) (AllReadyH.cons rfl (fun K hK => ?_) AllReadyH.nil); go_simp)
    -- the system goes into the result's cell: from world wb to wz
    have hdone := putS_new hC.out.1 hC.out.2.1 (.int .i64 m.c) (.int .i64 m.d) (.int .i64 m.s) (.int .i64 m.e) (.int .i64 m.l) (.slice ta T.length tc)
    obtain ⟨wz, hwz⟩ : ∃ wz, wz = putS wb W.heap.size (.int .i64 m.c) (.int .i64 m.d) (.int .i64 m.s) (.int .i64 m.e) (.int .i64 m.l) (.slice ta T.length tc) := ⟨_, rfl⟩
    rw [← hwz] at hdone
    obtain ⟨hd2, hd3, hd4⟩ := hdone
    have hFz : V2 (fun b => W.heap.size ≤ b) wz (.slice ta T.length tc) T := V2.mono (S := fun b => W1.heap.size ≤ b) hC.out.2.2.1 (fun b hb _ => by have hb : W1.heap.size ≤ b := hb; omega) (fun b hb _ => hd4 b (by have hb : W1.heap.size ≤ b := hb; omega))
    have hcz : V2 (fun b => W.heap.size ≤ b) wz (.slice ca cuts.length cc) cuts := V2.mono (S := fun b => W1.heap.size ≤ b) hC.out.2.2.2.1 (fun b hb _ => by have hb : W1.heap.size ≤ b := hb; omega) (fun b hb _ => hd4 b (by have hb : W1.heap.size ≤ b := hb; omega))
    have hz0 : wz.cell? ⟨W.heap.size, 0, none⟩ = some (.int .i64 m.c) := by rw [cell_of_block hd3]; rfl
    have hz1 : wz.cell? ⟨W.heap.size, 1, none⟩ = some (.int .i64 m.d) := by rw [cell_of_block hd3]; rfl
    have hz2 : wz.cell? ⟨W.heap.size, 2, none⟩ = some (.int .i64 m.s) := by rw [cell_of_block hd3]; rfl
    have hz3 : wz.cell? ⟨W.heap.size, 3, none⟩ = some (.int .i64 m.e) := by rw [cell_of_block hd3]; rfl
    have hz4 : wz.cell? ⟨W.heap.size, 4, none⟩ = some (.int .i64 m.l) := by rw [cell_of_block hd3]; rfl
    have hz5 : wz.cell? ⟨W.heap.size, 5, none⟩ = some (.slice ta T.length tc) := by rw [cell_of_block hd3]; rfl
    have HZ := Lib.hid (And.intro hd2 (And.intro hFz (And.intro hcz (And.intro hwz (And.intro hz0 (And.intro hz1 (And.intro hz2 (And.intro hz3 (And.intro hz4 (And.intro hz5 hd4)))))))))); clear hd2 hd3 hd4 hFz hcz hwz hz0 hz1 hz2 hz3 hz4 hz5
    skip
    have hwz := HZ.out.2.2.2.1
    unfold putS putR at hwz
    rw [← hwz]
    clear hwz
    obtain ⟨hd2, hFz, hcz, hwzz, hz0, hz1, hz2, hz3, hz4, hz5, hd4⟩ := HZ.out
    clear hwzz
    have hSz := hSk wz ((hd4 _ (by omega)).trans hMb)
    (refine hK.out _ _ hSz (fun hHeld => ?_); clear hK K; (try simp only [Act.put, List.setIfInBounds_toArray, List.set_cons_zero, List.set_cons_succ]))
    (refine wpAnyH_ready (rs := [7]) (by kernel_rfl) (by simp) (AllReadyH.cons rfl (fun K hK => ?_) AllReadyH.nil); go_simp)
    (refine hK.out _ _ hSz (fun hHeld => ?_); clear hK K; (try simp only [Act.put, List.setIfInBounds_toArray, List.set_cons_zero, List.set_cons_succ]))
    (refine wpAnyH_ready (rs := [8]) (by kernel_rfl) (by simp) (AllReadyH.cons rfl (fun K hK => ?_) AllReadyH.nil); go_simp)
    (refine hK.out _ _ hSz (fun hHeld => ?_); clear hK K; (try simp only [Act.put, List.setIfInBounds_toArray, List.set_cons_zero, List.set_cons_succ]))
    refine wpAnyH_done (by kernel_rfl) (NoPanic.normal ?_) _
    go_wp2_with fail
    have hkz : V1 (fun b => W.heap.size ≤ b) wz (.slice xa key.length xc) key := V1.mono (S := fun b => W1.heap.size ≤ b) HK.out (fun b hb _ => by have hb : W1.heap.size ≤ b := hb; omega) (fun b hb _ => hd4 b (by have hb : W1.heap.size ≤ b := hb; omega))
    exact bodyPost_ret (v := .tuple #[.agg #[.int .i64 m.c, .int .i64 m.d, .int .i64 m.s, .int .i64 m.e, .int .i64 m.l, .slice ta T.length tc], .slice ca cuts.length cc, (.slice xa key.length xc)]) (by simp [results, Tryz.results51, go_sem, hz0, hz1, hz2, hz3, hz4, hz5]) rfl ⟨m, _, _, T, cuts, [(.slice xa key.length xc)], rfl, ⟨_, _, rfl, hkz⟩, hFz, hcz, hd2⟩
  · have hcd : decide ((0 : Int) < (cuts.length : Int)) = true := decide_eq_true (by omega)
    have hcd2 : decide (0 < cuts.length) = true := decide_eq_true (by omega)
    have hcn : ¬ cuts = [] := fun e => hcl (by rw [e]; rfl)
    have hRw := ho3.heap H2.out.2.2 (fun e => by omega)
    have hBw : Below W.heap.size W w3 := HL.out.2.1.trans ((H2.out.2.1.trans (ho3.to_below (Nat.le_refl _) (by omega))).mono (by omega))
    obtain ⟨w4, hw4⟩ : ∃ w4, w4 = w3.alloc (.cells #[.int .i64 m.c, .int .i64 m.d, .int .i64 m.s, .int .i64 m.e, .int .i64 m.l, .slice ta T.length tc] 28) := ⟨_, rfl⟩
    have hb34 : Below w3.heap.size w3 w4 := by rw [hw4]; exact (Below.refl _ _).alloc (Nat.le_refl _) _
    have hM4 : w4.heap[w3.heap.size]? = some (.cells #[.int .i64 m.c, .int .i64 m.d, .int .i64 m.s, .int .i64 m.e, .int .i64 m.l, .slice ta T.length tc] 28 (0, 0)) := by rw [hw4]; exact heap_alloc_self _ _
    have hz4 : w3.heap.size < w4.heap.size := lt_of_heap hM4
    have H4 := Lib.hid (And.intro (hs3.below hb34) (And.intro (hBw.trans (hb34.mono (by omega))) (And.intro hM4 (And.intro ((hb34.block _ (by omega)).trans hRw) (And.intro (hu.below hb34) (And.intro (hcv.below hb34) (And.intro hsm hw4))))))); clear hs3 ho3 hRw hBw hb34 hM4 hu hcv hsm hw4
    have hcM : ∀ o, w4.cell? ⟨w3.heap.size, o, none⟩ = (#[.int .i64 m.c, .int .i64 m.d, .int .i64 m.s, .int .i64 m.e, .int .i64 m.l, .slice ta T.length tc] : Array Value)[o]? := fun o => by rw [cell_of_block H4.out.2.2.1]
    have hSk : ∀ w' : World, w'.heap[w3.heap.size]? = w4.heap[w3.heap.size]? → w'.cell? ⟨w3.heap.size, 0, none⟩ = some (.int .i64 m.c) ∧ w'.cell? ⟨w3.heap.size, 1, none⟩ = some (.int .i64 m.d) ∧ w'.cell? ⟨w3.heap.size, 2, none⟩ = some (.int .i64 m.s) ∧ w'.cell? ⟨w3.heap.size, 3, none⟩ = some (.int .i64 m.e) ∧ w'.cell? ⟨w3.heap.size, 4, none⟩ = some (.int .i64 m.l) ∧ w'.cell? ⟨w3.heap.size, 5, none⟩ = some (.slice ta T.length tc) := fun w' hw => by
      refine ⟨?_, ?_, ?_, ?_, ?_, ?_⟩ <;> exact cell_keep (hcM _) hw
    go_wp2_with fail
    rw [← H4.out.2.2.2.2.2.2.2]
    clear hcn
    (try go_wp2_with fail)
    refine (l01Next_any W1.heap.size W1.heap.size 3 _ H4.out.1).mono ?_
    rintro e' w5 ⟨q, rfl, _, hs5, ho5⟩
    have hz5' := ho5.size
    have hM5 : w5.heap[w3.heap.size]? = w4.heap[w3.heap.size]? := ho5.block _ (by omega) (fun e => by omega)
    have hcM5 : ∀ o, w5.cell? ⟨w3.heap.size, o, none⟩ = (#[.int .i64 m.c, .int .i64 m.d, .int .i64 m.s, .int .i64 m.e, .int .i64 m.l, .slice ta T.length tc] : Array Value)[o]? := fun o => by rw [World.cell?_of_block (w := w4) (a := ⟨w3.heap.size, o, none⟩) hM5]; exact hcM o
    have H5 := Lib.hid (And.intro hs5 ho5); clear hs5 ho5 hcM
    by_cases hq : q = 0
    · subst hq
      go_wp2_with fail
      obtain ⟨bq, oq, _, _, hcae, hbq, _, _⟩ := H4.out.2.2.2.2.2.1.cell (k := 0) (by omega)
      have Hcae := Lib.hid hcae; clear hcae
      have hbql : bq < w4.heap.size ∧ W1.heap.size ≤ bq := by
        obtain ⟨b', o', a', c', e, h1, h2, _⟩ := H4.out.2.2.2.2.2.1.cell (k := 0) (by omega)
        rw [Hcae.out] at e
        simp only [Option.some.injEq, Addr.mk.injEq, and_true] at e
        obtain ⟨rfl, rfl⟩ := e
        have h3 : bq < w4.heap.size := lt_of_cell h2
        have h4 : w2.heap.size ≤ bq := h1
        exact ⟨h3, by omega⟩
      have hS2 : ∀ w' : World, w'.heap[w3.heap.size]? = w4.heap[w3.heap.size]? → w'.heap[bq]? = w4.heap[bq]? → (w'.cell? ⟨w3.heap.size, 0, none⟩ = some (.int .i64 m.c) ∧ w'.cell? ⟨w3.heap.size, 1, none⟩ = some (.int .i64 m.d) ∧ w'.cell? ⟨w3.heap.size, 2, none⟩ = some (.int .i64 m.s) ∧ w'.cell? ⟨w3.heap.size, 3, none⟩ = some (.int .i64 m.e) ∧ w'.cell? ⟨w3.heap.size, 4, none⟩ = some (.int .i64 m.l) ∧ w'.cell? ⟨w3.heap.size, 5, none⟩ = some (.slice ta T.length tc)) ∧ ∀ i, w'.cell? ⟨bq, i, none⟩ = w4.cell? ⟨bq, i, none⟩ := fun w' h1 h2 => ⟨hSk w' h1, fun i => World.cell?_of_block (w := w4) (a := ⟨bq, i, none⟩) h2⟩
      have hb5 : w5.heap[bq]? = w4.heap[bq]? := H5.out.2.block _ hbql.1 (fun e => by omega)
      refine wp_region_noPanic ?_
      refine wp_region_held_drew (S := fun w' => (w'.cell? ⟨w3.heap.size, 0, none⟩ = some (.int .i64 m.c) ∧ w'.cell? ⟨w3.heap.size, 1, none⟩ = some (.int .i64 m.d) ∧ w'.cell? ⟨w3.heap.size, 2, none⟩ = some (.int .i64 m.s) ∧ w'.cell? ⟨w3.heap.size, 3, none⟩ = some (.int .i64 m.e) ∧ w'.cell? ⟨w3.heap.size, 4, none⟩ = some (.int .i64 m.l) ∧ w'.cell? ⟨w3.heap.size, 5, none⟩ = some (.slice ta T.length tc)) ∧ ∀ i, w'.cell? ⟨bq, i, none⟩ = w4.cell? ⟨bq, i, none⟩) (by kernel_rfl) (hS2 w5.drew hM5 hb5) (fun hHeld => ?_)
      (refine wpAnyH_take (i := 0) (v := .agg #[.int .i64 m.c, .int .i64 m.d, .int .i64 m.s, .int .i64 m.e, .int .i64 m.l, .slice ta T.length tc]) rfl (by kernel_rfl) (by kernel_rfl) (by kernel_rfl) (fun _ _ _ h => h) (Or.inl ⟨by kernel_rfl, fun w hSw => by (try dsimp only at hSw); go_split_ands; go_simp⟩) (by assumption) ?_; simp only [Act.put, List.setIfInBounds_toArray, List.set_cons_zero, List.set_cons_succ])
      (refine wpAnyH_take (i := 1) (v := .slice ca cuts.length cc) rfl (by kernel_rfl) (by kernel_rfl) (by kernel_rfl) (fun _ _ _ h => h) (Or.inl ⟨by kernel_rfl, fun w hSw => by (try dsimp only at hSw); go_split_ands; go_simp⟩) (by assumption) ?_; simp only [Act.put, List.setIfInBounds_toArray, List.set_cons_zero, List.set_cons_succ])
      (refine wpAnyH_take (i := 2) (v := .slice ca cuts.length cc) rfl (by kernel_rfl) (by kernel_rfl) (by kernel_rfl) (fun _ _ _ h => h) (Or.inl ⟨by kernel_rfl, fun w hSw => by (try dsimp only at hSw); go_split_ands; go_simp⟩) (by assumption) ?_; simp only [Act.put, List.setIfInBounds_toArray, List.set_cons_zero, List.set_cons_succ])
      (refine wpAnyH_take (i := 3) (v := .pointer (some ⟨W1.heap.size, 0, none⟩)) rfl (by kernel_rfl) (by kernel_rfl) (by kernel_rfl) (fun _ _ _ h => h) (Or.inl ⟨by kernel_rfl, fun w hSw => by (try dsimp only at hSw); go_split_ands; go_simp⟩) (by assumption) ?_; simp only [Act.put, List.setIfInBounds_toArray, List.set_cons_zero, List.set_cons_succ])
      (refine wpAnyH_take (i := 4) (v := .slice ca cuts.length cc) rfl (by kernel_rfl) (by kernel_rfl) (by kernel_rfl) (fun _ _ _ h => h) (Or.inl ⟨by kernel_rfl, fun w hSw => by (try dsimp only at hSw); go_split_ands; go_simp⟩) (by assumption) ?_; simp only [Act.put, List.setIfInBounds_toArray, List.set_cons_zero, List.set_cons_succ])
      (refine wpAnyH_take (i := 5) (v := .int .i64 (cuts.length : Int)) rfl (by kernel_rfl) (by kernel_rfl) (by kernel_rfl) (fun _ _ _ h => h) (Or.inl ⟨by kernel_rfl, fun w hSw => by (try dsimp only at hSw); go_split_ands; go_simp⟩) (by assumption) ?_; simp only [Act.put, List.setIfInBounds_toArray, List.set_cons_zero, List.set_cons_succ])
      refine wpAnyH_ready (rs := [6]) (by kernel_rfl) (by simp) (AllReadyH.cons rfl (fun K hK => ?_) AllReadyH.nil)
      go_simp
      go_at_call 114
      refine (l01Next_any W1.heap.size W1.heap.size _ _ (H5.out.1.below ((Below.refl _ _).drew))).mono ?_
      rintro e' wb ⟨y, rfl, ⟨hy0, hy1⟩, hsb, hob⟩
      obtain ⟨k, rfl⟩ : ∃ k : Nat, y = (k : Int) := ⟨y.toNat, by omega⟩
      have hk : k < cuts.length := by omega
      have hk1 : ¬ cuts.length ≤ k := by omega
      have hob4 : Only W1.heap.size w4 wb := H5.out.2.trans ((Only.of_below ((Below.refl w5.heap.size w5).drew)).trans hob)
      have hz5 := H5.out.2.size
      have hbb : wb.heap[bq]? = w4.heap[bq]? := hob4.block _ hbql.1 (fun e => by omega)
      clear hsb hob hcM5 hy0 hy1
      -- at world wb (Only the source since w4): facts behind the last call of a region that returns
      have hzb := hob4.size
      have hMb : wb.heap[w3.heap.size]? = w4.heap[w3.heap.size]? := hob4.block _ (by omega) (fun e => by omega)
      have hBb : Below W.heap.size W wb := H4.out.2.1.trans ((hob4.to_below (B := W1.heap.size) (Nat.le_refl _) (by omega)).mono (by omega))
      have hRb := hob4.heap H4.out.2.2.2.1 (fun e => by omega)
      have hub := H4.out.2.2.2.2.1.mono (S' := fun b => W1.heap.size ≤ b) (fun b hb _ => by have hb : w2.heap.size ≤ b := hb; omega) (hob4.keep fun b hb e => by have hb : w2.heap.size ≤ b := hb; omega)
      have hcb := H4.out.2.2.2.2.2.1.mono (S' := fun b => W1.heap.size ≤ b) (fun b hb _ => by have hb : w2.heap.size ≤ b := hb; omega) (hob4.keep fun b hb e => by have hb : w2.heap.size ≤ b := hb; omega)
      have hC := Lib.hid (And.intro hBb (And.intro hRb (And.intro hub (And.intro hcb hMb)))); clear hBb hRb hub hcb
      obtain ⟨b', o', ra, rc, e, _, hcq, hrq⟩ := H4.out.2.2.2.2.2.1.cell hk
      rw [Hcae.out] at e
      simp only [Option.some.injEq, Addr.mk.injEq, and_true] at e
      obtain ⟨rfl, rfl⟩ := e
      have hrqb := hrq.mono (S' := fun b => W1.heap.size ≤ b) (fun b hb _ => by have hb : w2.heap.size ≤ b := hb; omega) (hob4.keep fun b hb e => by have hb : w2.heap.size ≤ b := hb; omega)
      have HRq := Lib.hid hrqb; clear hrq hrqb
      have hcl9 : ¬ cuts.length ≤ k := hk1
      dsimp only
      (refine hK.out _ _ (hS2 wb hMb hbb) (fun hHeld => ?_); clear hK K; (try simp only [Act.put, List.setIfInBounds_toArray, List.set_cons_zero, List.set_cons_succ]))
      (refine wpAnyH_take (i := 7) (v := .pointer (some ⟨bq, oq + k, none⟩)) rfl (by kernel_rfl) (by kernel_rfl) (by kernel_rfl) (fun _ _ _ h => h) (Or.inl ⟨by kernel_rfl, fun w hSw => by (try dsimp only at hSw); have hcae := Hcae.out; subst hcae; go_split_ands; go_simp⟩) (by assumption) ?_; simp only [Act.put, List.setIfInBounds_toArray, List.set_cons_zero, List.set_cons_succ])
      (refine wpAnyH_take (i := 8) (v := .slice ra (getl cuts k).length rc) rfl (by kernel_rfl) (by kernel_rfl) (by kernel_rfl) (fun _ _ _ h => h) (Or.inl ⟨by kernel_rfl, fun w hSw => by (try dsimp only at hSw); have hcae := Hcae.out; subst hcae; go_split_ands; go_simp⟩) (by assumption) ?_; simp only [Act.put, List.setIfInBounds_toArray, List.set_cons_zero, List.set_cons_succ])
      have hcRz : ∀ o, wb.cell? ⟨W.heap.size, o, none⟩ = (#[.int .i64 0, .int .i64 0, .int .i64 0, .int .i64 0, .int .i64 0, .slice none 0 0] : Array Value)[o]? := fun o => by rw [cell_of_block hC.out.2.1]
      have hfRz := fun o => frozen_of_block hC.out.2.1 o
      (refine wpAnyH_ready (rs := [9]) (by kernel_rfl) (by simp) (AllReadyH.cons rfl (fun K hK => ?_) AllReadyH.nil); go_simp)
      -- the system goes into the result's cell: from world wb to wz
      have hdone := putS_new hC.out.1 hC.out.2.1 (.int .i64 m.c) (.int .i64 m.d) (.int .i64 m.s) (.int .i64 m.e) (.int .i64 m.l) (.slice ta T.length tc)
      obtain ⟨wz, hwz⟩ : ∃ wz, wz = putS wb W.heap.size (.int .i64 m.c) (.int .i64 m.d) (.int .i64 m.s) (.int .i64 m.e) (.int .i64 m.l) (.slice ta T.length tc) := ⟨_, rfl⟩
      rw [← hwz] at hdone
      obtain ⟨hd2, hd3, hd4⟩ := hdone
      have hFz : V2 (fun b => W.heap.size ≤ b) wz (.slice ta T.length tc) T := V2.mono (S := fun b => W1.heap.size ≤ b) hC.out.2.2.1 (fun b hb _ => by have hb : W1.heap.size ≤ b := hb; omega) (fun b hb _ => hd4 b (by have hb : W1.heap.size ≤ b := hb; omega))
      have hcz : V2 (fun b => W.heap.size ≤ b) wz (.slice ca cuts.length cc) cuts := V2.mono (S := fun b => W1.heap.size ≤ b) hC.out.2.2.2.1 (fun b hb _ => by have hb : W1.heap.size ≤ b := hb; omega) (fun b hb _ => hd4 b (by have hb : W1.heap.size ≤ b := hb; omega))
      have hz0 : wz.cell? ⟨W.heap.size, 0, none⟩ = some (.int .i64 m.c) := by rw [cell_of_block hd3]; rfl
      have hz1 : wz.cell? ⟨W.heap.size, 1, none⟩ = some (.int .i64 m.d) := by rw [cell_of_block hd3]; rfl
      have hz2 : wz.cell? ⟨W.heap.size, 2, none⟩ = some (.int .i64 m.s) := by rw [cell_of_block hd3]; rfl
      have hz3 : wz.cell? ⟨W.heap.size, 3, none⟩ = some (.int .i64 m.e) := by rw [cell_of_block hd3]; rfl
      have hz4 : wz.cell? ⟨W.heap.size, 4, none⟩ = some (.int .i64 m.l) := by rw [cell_of_block hd3]; rfl
      have hz5 : wz.cell? ⟨W.heap.size, 5, none⟩ = some (.slice ta T.length tc) := by rw [cell_of_block hd3]; rfl
      have HZ := Lib.hid (And.intro hd2 (And.intro hFz (And.intro hcz (And.intro hwz (And.intro hz0 (And.intro hz1 (And.intro hz2 (And.intro hz3 (And.intro hz4 (And.intro hz5 hd4)))))))))); clear hd2 hd3 hd4 hFz hcz hwz hz0 hz1 hz2 hz3 hz4 hz5
      skip
      have hwz := HZ.out.2.2.2.1
      unfold putS putR at hwz
      rw [← hwz]
      clear hwz
      obtain ⟨hd2, hFz, hcz, hwzz, hz0, hz1, hz2, hz3, hz4, hz5, hd4⟩ := HZ.out
      clear hwzz
      have hSz := hS2 wz ((hd4 _ (by omega)).trans hMb) ((hd4 _ (by omega)).trans hbb)
      (refine hK.out _ _ hSz (fun hHeld => ?_); clear hK K; (try simp only [Act.put, List.setIfInBounds_toArray, List.set_cons_zero, List.set_cons_succ]))
      (refine wpAnyH_ready (rs := [10]) (by kernel_rfl) (by simp) (AllReadyH.cons rfl (fun K hK => ?_) AllReadyH.nil); go_simp)
      (refine hK.out _ _ hSz (fun hHeld => ?_); clear hK K; (try simp only [Act.put, List.setIfInBounds_toArray, List.set_cons_zero, List.set_cons_succ]))
      (refine wpAnyH_ready (rs := [11]) (by kernel_rfl) (by simp) (AllReadyH.cons rfl (fun K hK => ?_) AllReadyH.nil); go_simp)
      (refine hK.out _ _ hSz (fun hHeld => ?_); clear hK K; (try simp only [Act.put, List.setIfInBounds_toArray, List.set_cons_zero, List.set_cons_succ]))
      refine wpAnyH_done (by kernel_rfl) (NoPanic.normal ?_) _
      go_wp2_with fail
      have hkz : V1 (fun b => W.heap.size ≤ b) wz (.slice ra (getl cuts k).length rc) (getl cuts k) := V1.mono (S := fun b => W1.heap.size ≤ b) HRq.out (fun b hb _ => by have hb : W1.heap.size ≤ b := hb; omega) (fun b hb _ => hd4 b (by have hb : W1.heap.size ≤ b := hb; omega))
      exact bodyPost_ret (v := .tuple #[.agg #[.int .i64 m.c, .int .i64 m.d, .int .i64 m.s, .int .i64 m.e, .int .i64 m.l, .slice ta T.length tc], .slice ca cuts.length cc, (.slice ra (getl cuts k).length rc)]) (by simp [results, Tryz.results51, go_sem, hz0, hz1, hz2, hz3, hz4, hz5]) rfl ⟨m, _, _, T, cuts, [(.slice ra (getl cuts k).length rc)], rfl, ⟨_, _, rfl, hkz⟩, hFz, hcz, hd2⟩
    · have hqd : (q == 0) = false := by simp [hq]
      clear hq
      go_wp2_with fail
      -- the key is drawn (region 5), at world w5
      have hSk5 : ∀ w' : World, w'.heap[w3.heap.size]? = w4.heap[w3.heap.size]? → w'.cell? ⟨w3.heap.size, 0, none⟩ = some (.int .i64 m.c) ∧ w'.cell? ⟨w3.heap.size, 1, none⟩ = some (.int .i64 m.d) ∧ w'.cell? ⟨w3.heap.size, 2, none⟩ = some (.int .i64 m.s) ∧ w'.cell? ⟨w3.heap.size, 3, none⟩ = some (.int .i64 m.e) ∧ w'.cell? ⟨w3.heap.size, 4, none⟩ = some (.int .i64 m.l) ∧ w'.cell? ⟨w3.heap.size, 5, none⟩ = some (.slice ta T.length tc) := hSk
      refine wp_region_noPanic ?_
      refine wp_region_held_drew (S := fun w' => w'.cell? ⟨w3.heap.size, 0, none⟩ = some (.int .i64 m.c) ∧ w'.cell? ⟨w3.heap.size, 1, none⟩ = some (.int .i64 m.d) ∧ w'.cell? ⟨w3.heap.size, 2, none⟩ = some (.int .i64 m.s) ∧ w'.cell? ⟨w3.heap.size, 3, none⟩ = some (.int .i64 m.e) ∧ w'.cell? ⟨w3.heap.size, 4, none⟩ = some (.int .i64 m.l) ∧ w'.cell? ⟨w3.heap.size, 5, none⟩ = some (.slice ta T.length tc)) (by kernel_rfl) (hSk w5.drew (hM5)) (fun hHeld => ?_)
      (refine wpAnyH_take (i := 0) (v := .agg #[.int .i64 m.c, .int .i64 m.d, .int .i64 m.s, .int .i64 m.e, .int .i64 m.l, .slice ta T.length tc]) rfl (by kernel_rfl) (by kernel_rfl) (by kernel_rfl) (fun _ _ _ h => h) (Or.inl ⟨by kernel_rfl, fun w hSw => by (try dsimp only at hSw); go_split_ands; go_simp⟩) (by assumption) ?_; simp only [Act.put, List.setIfInBounds_toArray, List.set_cons_zero, List.set_cons_succ])
      (refine wpAnyH_take (i := 1) (v := .slice ca cuts.length cc) rfl (by kernel_rfl) (by kernel_rfl) (by kernel_rfl) (fun _ _ _ h => h) (Or.inl ⟨by kernel_rfl, fun w hSw => by (try dsimp only at hSw); go_split_ands; go_simp⟩) (by assumption) ?_; simp only [Act.put, List.setIfInBounds_toArray, List.set_cons_zero, List.set_cons_succ])
      (refine wpAnyH_take (i := 2) (v := .pointer (some ⟨W1.heap.size, 0, none⟩)) rfl (by kernel_rfl) (by kernel_rfl) (by kernel_rfl) (fun _ _ _ h => h) (Or.inl ⟨by kernel_rfl, fun w hSw => by (try dsimp only at hSw); go_split_ands; go_simp⟩) (by assumption) ?_; simp only [Act.put, List.setIfInBounds_toArray, List.set_cons_zero, List.set_cons_succ])
      (refine wpAnyH_take (i := 3) (v := .pointer (some ⟨w3.heap.size, 0, none⟩)) rfl (by kernel_rfl) (by kernel_rfl) (by kernel_rfl) (fun _ _ _ h => h) (Or.inl ⟨by kernel_rfl, fun w hSw => by (try dsimp only at hSw); go_split_ands; go_simp⟩) (by assumption) ?_; simp only [Act.put, List.setIfInBounds_toArray, List.set_cons_zero, List.set_cons_succ])
      (refine wpAnyH_take (i := 4) (v := .agg #[.int .i64 m.c, .int .i64 m.d, .int .i64 m.s, .int .i64 m.e, .int .i64 m.l]) rfl (by kernel_rfl) (by kernel_rfl) (by kernel_rfl) (fun _ _ _ h => h) (Or.inl ⟨by kernel_rfl, fun w hSw => by (try dsimp only at hSw); go_split_ands; go_simp⟩) (by assumption) ?_; simp only [Act.put, List.setIfInBounds_toArray, List.set_cons_zero, List.set_cons_succ])
      refine wpAnyH_ready (rs := [5]) (by kernel_rfl) (by simp) (AllReadyH.cons rfl (fun K hK => ?_) AllReadyH.nil)
      go_simp
      go_at_call 148
      refine (l02DrawKey_any W1.heap.size W1.heap.size m H4.out.2.2.2.2.2.2.1 _ (H5.out.1.below ((Below.refl _ _).drew))).mono ?_
      rintro e' wb ⟨kv, key, rfl, hkv, hsb, hob⟩
      have hob4 : Only W1.heap.size w4 wb := H5.out.2.trans ((Only.of_below ((Below.refl (w5).heap.size (w5)).drew)).trans hob)
      have hz5 := (H5.out.2).size
      obtain ⟨xa, xc, rfl, _⟩ := hkv.form
      have hKV : V1 (fun b => W1.heap.size ≤ b) wb (.slice xa key.length xc) key := hkv.mono (fun b hb _ => by have hb : (w5).heap.size ≤ b := hb; omega) (fun _ _ _ => rfl)
      have HK := Lib.hid hKV; clear hkv hKV hsb hob hcM5
      -- at world wb (Only the source since w4): facts behind the last call of a region that returns
      have hzb := hob4.size
      have hMb : wb.heap[w3.heap.size]? = w4.heap[w3.heap.size]? := hob4.block _ (by omega) (fun e => by omega)
      have hBb : Below W.heap.size W wb := H4.out.2.1.trans ((hob4.to_below (B := W1.heap.size) (Nat.le_refl _) (by omega)).mono (by omega))
      have hRb := hob4.heap H4.out.2.2.2.1 (fun e => by omega)
      have hub := H4.out.2.2.2.2.1.mono (S' := fun b => W1.heap.size ≤ b) (fun b hb _ => by have hb : w2.heap.size ≤ b := hb; omega) (hob4.keep fun b hb e => by have hb : w2.heap.size ≤ b := hb; omega)
      have hcb := H4.out.2.2.2.2.2.1.mono (S' := fun b => W1.heap.size ≤ b) (fun b hb _ => by have hb : w2.heap.size ≤ b := hb; omega) (hob4.keep fun b hb e => by have hb : w2.heap.size ≤ b := hb; omega)
      have hC := Lib.hid (And.intro hBb (And.intro hRb (And.intro hub (And.intro hcb hMb)))); clear hBb hRb hub hcb
      dsimp only
      (refine hK.out _ _ (hSk wb hMb) (fun hHeld => ?_); clear hK K; (try simp only [Act.put, List.setIfInBounds_toArray, List.set_cons_zero, List.set_cons_succ]))
      -- the store into the result's cell (operation 6) of a region whose calls are done, at wb
      have hcRz : ∀ o, wb.cell? ⟨W.heap.size, o, none⟩ = (#[.int .i64 0, .int .i64 0, .int .i64 0, .int .i64 0, .int .i64 0, .slice none 0 0] : Array Value)[o]? := fun o => by rw [cell_of_block hC.out.2.1]
      have hfRz := fun o => frozen_of_block hC.out.2.1 o
      (refine wpAnyH_ready (rs := [6]) (by kernel_rfl) (by simp) (AllReadyH.cons rfl (fun K hK => ?_) AllReadyH.nil); go_simp)
      -- the system goes into the result's cell: from world wb to wz
      have hdone := putS_new hC.out.1 hC.out.2.1 (.int .i64 m.c) (.int .i64 m.d) (.int .i64 m.s) (.int .i64 m.e) (.int .i64 m.l) (.slice ta T.length tc)
      obtain ⟨wz, hwz⟩ : ∃ wz, wz = putS wb W.heap.size (.int .i64 m.c) (.int .i64 m.d) (.int .i64 m.s) (.int .i64 m.e) (.int .i64 m.l) (.slice ta T.length tc) := ⟨_, rfl⟩
      rw [← hwz] at hdone
      obtain ⟨hd2, hd3, hd4⟩ := hdone
      have hFz : V2 (fun b => W.heap.size ≤ b) wz (.slice ta T.length tc) T := V2.mono (S := fun b => W1.heap.size ≤ b) hC.out.2.2.1 (fun b hb _ => by have hb : W1.heap.size ≤ b := hb; omega) (fun b hb _ => hd4 b (by have hb : W1.heap.size ≤ b := hb; omega))
      have hcz : V2 (fun b => W.heap.size ≤ b) wz (.slice ca cuts.length cc) cuts := V2.mono (S := fun b => W1.heap.size ≤ b) hC.out.2.2.2.1 (fun b hb _ => by have hb : W1.heap.size ≤ b := hb; omega) (fun b hb _ => hd4 b (by have hb : W1.heap.size ≤ b := hb; omega))
      have hz0 : wz.cell? ⟨W.heap.size, 0, none⟩ = some (.int .i64 m.c) := by rw [cell_of_block hd3]; rfl
      have hz1 : wz.cell? ⟨W.heap.size, 1, none⟩ = some (.int .i64 m.d) := by rw [cell_of_block hd3]; rfl
      have hz2 : wz.cell? ⟨W.heap.size, 2, none⟩ = some (.int .i64 m.s) := by rw [cell_of_block hd3]; rfl
      have hz3 : wz.cell? ⟨W.heap.size, 3, none⟩ = some (.int .i64 m.e) := by rw [cell_of_block hd3]; rfl
      have hz4 : wz.cell? ⟨W.heap.size, 4, none⟩ = some (.int .i64 m.l) := by rw [cell_of_block hd3]; rfl
      have hz5 : wz.cell? ⟨W.heap.size, 5, none⟩ = some (.slice ta T.length tc) := by rw [cell_of_block hd3]; rfl
      have HZ := Lib.hid (And.intro hd2 (And.intro hFz (And.intro hcz (And.intro hwz (And.intro hz0 (And.intro hz1 (And.intro hz2 (And.intro hz3 (And.intro hz4 (And.intro hz5 hd4)))))))))); clear hd2 hd3 hd4 hFz hcz hwz hz0 hz1 hz2 hz3 hz4 hz5
      skip
      have hwz := HZ.out.2.2.2.1
      unfold putS putR at hwz
      rw [← hwz]
      clear hwz
      obtain ⟨hd2, hFz, hcz, hwzz, hz0, hz1, hz2, hz3, hz4, hz5, hd4⟩ := HZ.out
      clear hwzz
      have hSz := hSk wz ((hd4 _ (by omega)).trans hMb)
      (refine hK.out _ _ hSz (fun hHeld => ?_); clear hK K; (try simp only [Act.put, List.setIfInBounds_toArray, List.set_cons_zero, List.set_cons_succ]))
      (refine wpAnyH_ready (rs := [7]) (by kernel_rfl) (by simp) (AllReadyH.cons rfl (fun K hK => ?_) AllReadyH.nil); go_simp)
      (refine hK.out _ _ hSz (fun hHeld => ?_); clear hK K; (try simp only [Act.put, List.setIfInBounds_toArray, List.set_cons_zero, List.set_cons_succ]))
      (refine wpAnyH_ready (rs := [8]) (by kernel_rfl) (by simp) (AllReadyH.cons rfl (fun K hK => ?_) AllReadyH.nil); go_simp)
      (refine hK.out _ _ hSz (fun hHeld => ?_); clear hK K; (try simp only [Act.put, List.setIfInBounds_toArray, List.set_cons_zero, List.set_cons_succ]))
      refine wpAnyH_done (by kernel_rfl) (NoPanic.normal ?_) _
      go_wp2_with fail
      have hkz : V1 (fun b => W.heap.size ≤ b) wz (.slice xa key.length xc) key := V1.mono (S := fun b => W1.heap.size ≤ b) HK.out (fun b hb _ => by have hb : W1.heap.size ≤ b := hb; omega) (fun b hb _ => hd4 b (by have hb : W1.heap.size ≤ b := hb; omega))
      exact bodyPost_ret (v := .tuple #[.agg #[.int .i64 m.c, .int .i64 m.d, .int .i64 m.s, .int .i64 m.e, .int .i64 m.l, .slice ta T.length tc], .slice ca cuts.length cc, (.slice xa key.length xc)]) (by simp [results, Tryz.results51, go_sem, hz0, hz1, hz2, hz3, hz4, hz5]) rfl ⟨m, _, _, T, cuts, [(.slice xa key.length xc)], rfl, ⟨_, _, rfl, hkz⟩, hFz, hcz, hd2⟩
set_option maxRecDepth 100000 in
set_option maxHeartbeats 2000000 in
theorem DrawWornDoors_any {S : Nat → Prop} (v : Value) (l : List Int) (W : World) (h : VB S W v l) :
    Calls Tryz.prog 28 #[v] W (DrawCkw W) := by
  obtain ⟨a, c, rfl, hm⟩ := h.form
  obtain ⟨W1, hW1, hB01, hz01, HZ01, _, hh01⟩ := box_facts W #[.int .i64 0, .int .i64 0, .int .i64 0, .int .i64 0, .int .i64 0, .slice none 0 0] 28
  have hz1e := HZ01.out
  have hz1l : W1.heap.size ≤ W.heap.size + 1 := by omega
  have HL := Lib.hid (And.intro (h.below hB01) (And.intro hB01 (And.intro hh01 hW1))); clear h hh01 hB01 hz1e
  go_enter Tryz.func28, Tryz.ntmps28
  go_wp2_with fail
  rw [← HL.out.2.2.2]
  clear hW1
  refine (l01From_any _ l W1 HL.out.1).mono ?_
  rintro e' w2 ⟨rfl, hs2, hb2⟩
  have hz2 := hb2.size
  have hz23 : W1.heap.size < w2.heap.size := hs2.lt
  have H2 := Lib.hid (And.intro hs2 (And.intro (HL.out.2.1.trans (hb2.mono (by omega))) (And.intro ((hb2.block _ hz01).trans HL.out.2.2.1) (HL.out.1.below hb2)))); clear hs2 hb2
  go_wp2_with fail
  refine (DrawDoorsOpened_any _ l w2 H2.out.2.2.2).mono ?_
  rintro e' w3 hD
  obtain ⟨m, u, cv, T, cuts, kv, key, rfl, hkv, hu, hcv, hb3⟩ := hD.open
  obtain ⟨ta, tc, rfl, _⟩ := hu.form
  obtain ⟨ca, cc, rfl, _⟩ := hcv.form
  obtain ⟨xa, xc, rfl, _⟩ := hkv.form
  have hz3 := hb3.size
  obtain ⟨w4, hw4⟩ : ∃ w4, w4 = w3.alloc (.cells #[.int .i64 m.c, .int .i64 m.d, .int .i64 m.s, .int .i64 m.e, .int .i64 m.l, .slice ta T.length tc] 28) := ⟨_, rfl⟩
  have hb34 : Below w3.heap.size w3 w4 := by rw [hw4]; exact (Below.refl _ _).alloc (Nat.le_refl _) _
  have hM4 : w4.heap[w3.heap.size]? = some (.cells #[.int .i64 m.c, .int .i64 m.d, .int .i64 m.s, .int .i64 m.e, .int .i64 m.l, .slice ta T.length tc] 28 (0, 0)) := by rw [hw4]; exact heap_alloc_self _ _
  have hz4 : w3.heap.size < w4.heap.size := lt_of_heap hM4
  have hb24 : Below w2.heap.size w2 w4 := hb3.trans (hb34.mono hz3)
  have H4 := Lib.hid (And.intro (H2.out.1.below hb24) (And.intro (H2.out.2.1.trans (hb24.mono (by omega))) (And.intro hM4 (And.intro ((hb24.block _ (by omega)).trans H2.out.2.2.1) (And.intro (hu.below hb34) (And.intro (hcv.below hb34) (And.intro (hkv.below hb34) hw4))))))); clear hb3 hb34 hM4 hb24 hu hcv hkv hw4
  have hcM : ∀ o, w4.cell? ⟨w3.heap.size, o, none⟩ = (#[.int .i64 m.c, .int .i64 m.d, .int .i64 m.s, .int .i64 m.e, .int .i64 m.l, .slice ta T.length tc] : Array Value)[o]? := fun o => by rw [cell_of_block H4.out.2.2.1]
  go_wp2_with fail
  rw [← H4.out.2.2.2.2.2.2.2]
  refine (l08DrawNumbers_any W1.heap.size W1.heap.size _ H4.out.1).mono ?_
  rintro e' w5 ⟨x, y, rfl, hs5, ho5⟩
  have hz5 := ho5.size
  have hM5 := ho5.heap H4.out.2.2.1 (fun e => by omega)
  have hcM5 : ∀ o, w5.cell? ⟨w3.heap.size, o, none⟩ = (#[.int .i64 m.c, .int .i64 m.d, .int .i64 m.s, .int .i64 m.e, .int .i64 m.l, .slice ta T.length tc] : Array Value)[o]? := fun o => by rw [cell_of_block hM5]
  have hkp : Keep (fun b => w2.heap.size ≤ b) w4 w5 := ho5.keep fun b hb e => by have hb : w2.heap.size ≤ b := hb; omega
  have hup : ∀ b, w2.heap.size ≤ b → b < w4.heap.size → W1.heap.size ≤ b := fun b hb _ => by omega
  have H5 := Lib.hid (And.intro (H4.out.2.1.trans ((ho5.to_below (B := W1.heap.size) (Nat.le_refl _) (by omega)).mono (by omega))) (And.intro (ho5.heap H4.out.2.2.2.1 (fun e => by omega)) (And.intro (V2.mono (S' := fun b => W1.heap.size ≤ b) H4.out.2.2.2.2.1 hup hkp) (And.intro (V2.mono (S' := fun b => W1.heap.size ≤ b) H4.out.2.2.2.2.2.1 hup hkp) (V1.mono (S' := fun b => W1.heap.size ≤ b) H4.out.2.2.2.2.2.2.1 hup hkp))))); clear hs5 ho5 hM5 hkp hup hcM
  have hcRz : ∀ o, w5.cell? ⟨W.heap.size, o, none⟩ = (#[.int .i64 0, .int .i64 0, .int .i64 0, .int .i64 0, .int .i64 0, .slice none 0 0] : Array Value)[o]? := fun o => by rw [cell_of_block H5.out.2.1]
  have hfRz := fun o => frozen_of_block H5.out.2.1 o
  -- the system goes into the result's cell: from world w5 to wz
  have hdone := putS_new H5.out.1 H5.out.2.1 (.int .i64 m.c) (.int .i64 m.d) (.int .i64 m.s) (.int .i64 m.e) (.int .i64 m.l) (.slice ta T.length tc)
  obtain ⟨wz, hwz⟩ : ∃ wz, wz = putS w5 W.heap.size (.int .i64 m.c) (.int .i64 m.d) (.int .i64 m.s) (.int .i64 m.e) (.int .i64 m.l) (.slice ta T.length tc) := ⟨_, rfl⟩
  rw [← hwz] at hdone
  obtain ⟨hd2, hd3, hd4⟩ := hdone
  have hFz : V2 (fun b => W.heap.size ≤ b) wz (.slice ta T.length tc) T := V2.mono (S := fun b => W1.heap.size ≤ b) H5.out.2.2.1 (fun b hb _ => by have hb : W1.heap.size ≤ b := hb; omega) (fun b hb _ => hd4 b (by have hb : W1.heap.size ≤ b := hb; omega))
  have hcz : V2 (fun b => W.heap.size ≤ b) wz (.slice ca cuts.length cc) cuts := V2.mono (S := fun b => W1.heap.size ≤ b) H5.out.2.2.2.1 (fun b hb _ => by have hb : W1.heap.size ≤ b := hb; omega) (fun b hb _ => hd4 b (by have hb : W1.heap.size ≤ b := hb; omega))
  have hz0 : wz.cell? ⟨W.heap.size, 0, none⟩ = some (.int .i64 m.c) := by rw [cell_of_block hd3]; rfl
  have hz1 : wz.cell? ⟨W.heap.size, 1, none⟩ = some (.int .i64 m.d) := by rw [cell_of_block hd3]; rfl
  have hz2 : wz.cell? ⟨W.heap.size, 2, none⟩ = some (.int .i64 m.s) := by rw [cell_of_block hd3]; rfl
  have hz3 : wz.cell? ⟨W.heap.size, 3, none⟩ = some (.int .i64 m.e) := by rw [cell_of_block hd3]; rfl
  have hz4 : wz.cell? ⟨W.heap.size, 4, none⟩ = some (.int .i64 m.l) := by rw [cell_of_block hd3]; rfl
  have hz5 : wz.cell? ⟨W.heap.size, 5, none⟩ = some (.slice ta T.length tc) := by rw [cell_of_block hd3]; rfl
  have HZ := Lib.hid (And.intro hd2 (And.intro hFz (And.intro hcz (And.intro hwz (And.intro hz0 (And.intro hz1 (And.intro hz2 (And.intro hz3 (And.intro hz4 (And.intro hz5 hd4)))))))))); clear hd2 hd3 hd4 hFz hcz hwz hz0 hz1 hz2 hz3 hz4 hz5
  go_wp2_with fail
  have hwz := HZ.out.2.2.2.1
  unfold putS putR at hwz
  rw [← hwz]
  clear hwz
  obtain ⟨hd2, hFz, hcz, hwzz, hz0, hz1, hz2, hz3, hz4, hz5, hd4⟩ := HZ.out
  clear hwzz
  have hkz : V1 (fun b => W.heap.size ≤ b) wz (.slice xa key.length xc) key := V1.mono (S := fun b => W1.heap.size ≤ b) H5.out.2.2.2.2 (fun b hb _ => by have hb : W1.heap.size ≤ b := hb; omega) (fun b hb _ => hd4 b (by have hb : W1.heap.size ≤ b := hb; omega))
  exact bodyPost_ret (v := .tuple #[.agg #[.int .i64 m.c, .int .i64 m.d, .int .i64 m.s, .int .i64 m.e, .int .i64 m.l, .slice ta T.length tc], .slice ca cuts.length cc, .slice xa key.length xc, .int .i64 x, .int .i64 y]) (by simp [results, Tryz.results28, go_sem, hz0, hz1, hz2, hz3, hz4, hz5]) rfl ⟨m, _, _, T, cuts, [.slice xa key.length xc, .int .i64 x, .int .i64 y], rfl, ⟨_, _, x, y, rfl, hkz⟩, hFz, hcz, hd2⟩
end Go.Proofs.YtmfgdoflddhngaaGreat
