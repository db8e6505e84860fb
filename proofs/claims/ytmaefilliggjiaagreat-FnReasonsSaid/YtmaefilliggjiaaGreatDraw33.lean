/- Draws of a system, cuts, a row and a door from a code. No conditions. -/
import Derived.Test.YtmaefilliggjiaaGreatMDraw27
import Derived.Test.YtmaefilliggjiaaGreatMShortP
import Derived.Test.YtmaefilliggjiaaGreatMLocksR
namespace Go.Proofs.YtmaefilliggjiaaGreat
open Go.RowKit
set_option linter.unusedVariables false
set_option linter.unusedSimpArgs false
/-- A system in a box, cuts beside it, while more is drawn. -/
structure KdAt (B0 SB : Nat) (W w3 : World) (m : Mk) (tv : Value) (T : List (List Int)) (cv : Value) (cuts : List (List Int)) (w : World) : Prop where
 src : Src B0 SB w
 only : Only SB W w
 hm : w.heap[w3.heap.size]? = some (.cells #[.int .i64 m.c, .int .i64 m.d, .int .i64 m.s, .int .i64 m.e, .int .i64 m.l, tv] 28 (0, 0))
 hr : w.heap[W.heap.size]? = some (.cells #[.int .i64 0, .int .i64 0, .int .i64 0, .int .i64 0, .int .i64 0, .slice none 0 0] 28 (0, 0))
 tab : V2 (fun b => W.heap.size < b ∧ b ≠ w3.heap.size) w tv T
 cut : V2 (fun b => W.heap.size < b ∧ b ≠ w3.heap.size) w cv cuts
theorem KdAt.step {B0 SB : Nat} {W w3 w w' : World} {m : Mk} {tv cv : Value} {T cuts : List (List Int)} (h : KdAt B0 SB W w3 m tv T cv cuts w) (hs : Src B0 SB w') (ho : Only SB w w') (h1 : SB < W.heap.size) (h3 : W.heap.size < w3.heap.size) : KdAt B0 SB W w3 m tv T cv cuts w' :=
 ⟨hs, h.only.trans ho, ho.heap h.hm (fun e => by omega), ho.heap h.hr (fun e => by omega), h.tab.mono (fun _ h _ => h) (fun b hb hlt => ho.block b hlt (fun e => by have := hb.1; omega)), h.cut.mono (fun _ h _ => h) (fun b hb hlt => ho.block b hlt (fun e => by have := hb.1; omega))⟩
/-- What a draw of a system, cuts, a row and a door answers. -/
def DrawKs (B0 SB : Nat) (W : World) (e : Ending) (w' : World) : Prop :=
 ∃ (m : Mk) (u cv : Value) (T cuts : List (List Int)) (key door : Int), e = .returned (.tuple #[.agg #[.int .i64 m.c, .int .i64 m.d, .int .i64 m.s, .int .i64 m.e, .int .i64 m.l, u], cv, .int .i64 key, .int .i64 door]) ∧ V2 (fun b => W.heap.size < b) w' u T ∧ V2 (fun b => W.heap.size < b) w' cv cuts ∧ Src B0 SB w' ∧ Only SB W w'
def DrawKd (W : World) (e : Ending) (w' : World) : Prop :=
 ∃ (m : Mk) (u cv : Value) (T cuts : List (List Int)) (key door : Int), e = .returned (.tuple #[.agg #[.int .i64 m.c, .int .i64 m.d, .int .i64 m.s, .int .i64 m.e, .int .i64 m.l, u], cv, .int .i64 key, .int .i64 door]) ∧ V2 (fun b => W.heap.size ≤ b) w' u T ∧ V2 (fun b => W.heap.size ≤ b) w' cv cuts ∧ Below W.heap.size W w'
theorem DrawKd.open {W w' : World} {e : Ending} (h : DrawKd W e w') : ∃ (m : Mk) (u cv : Value) (T cuts : List (List Int)) (key door : Int), e = .returned (.tuple #[.agg #[.int .i64 m.c, .int .i64 m.d, .int .i64 m.s, .int .i64 m.e, .int .i64 m.l, u], cv, .int .i64 key, .int .i64 door]) ∧ V2 (fun b => W.heap.size ≤ b) w' u T ∧ V2 (fun b => W.heap.size ≤ b) w' cv cuts ∧ Below W.heap.size W w' := h
def DrawKdr (W : World) (e : Ending) (w' : World) : Prop :=
 ∃ (m : Mk) (u cv : Value) (T cuts : List (List Int)) (key door : Int) (kv : Value) (rs : List Int), e = .returned (.tuple #[.agg #[.int .i64 m.c, .int .i64 m.d, .int .i64 m.s, .int .i64 m.e, .int .i64 m.l, u], cv, .int .i64 key, .int .i64 door, kv]) ∧ V1 (fun b => W.heap.size ≤ b) w' kv rs ∧ V2 (fun b => W.heap.size ≤ b) w' u T ∧ V2 (fun b => W.heap.size ≤ b) w' cv cuts ∧ Below W.heap.size W w'
theorem DrawKdr.open {W w' : World} {e : Ending} (h : DrawKdr W e w') : ∃ (m : Mk) (u cv : Value) (T cuts : List (List Int)) (key door : Int) (kv : Value) (rs : List Int), e = .returned (.tuple #[.agg #[.int .i64 m.c, .int .i64 m.d, .int .i64 m.s, .int .i64 m.e, .int .i64 m.l, u], cv, .int .i64 key, .int .i64 door, kv]) ∧ V1 (fun b => W.heap.size ≤ b) w' kv rs ∧ V2 (fun b => W.heap.size ≤ b) w' u T ∧ V2 (fun b => W.heap.size ≤ b) w' cv cuts ∧ Below W.heap.size W w' := h
set_option maxRecDepth 100000 in
set_option maxHeartbeats 4000000 in
theorem l18Draw_any (B0 SB : Nat) (W : World) (h : Src B0 SB W) :
  Calls Tryz.prog 114 #[.pointer (some ⟨SB, 0, none⟩)] W (DrawKs B0 SB W) := by
 have hSl := h.lt
 have hB0 : B0 ≤ SB := h.1
 obtain ⟨W1, hW1, hB01, hz01, HZ01, _, hh01⟩ := box_facts W #[.int .i64 0, .int .i64 0, .int .i64 0, .int .i64 0, .int .i64 0, .slice none 0 0] 28
 have hz1e := HZ01.out
 have hz1l : W1.heap.size ≤ W.heap.size + 1 := by omega
 have hs1' := h.below hB01
 have HL := Lib.hid (And.intro hs1' (And.intro hB01 (And.intro hh01 hW1))); clear hs1' h hh01 hB01 hz1e
 go_enter Tryz.func114, Tryz.ntmps114
 go_wp2_with fail
 rw [← HL.out.2.2.2]
 clear hW1
 refine (l15Draw_any B0 SB _ HL.out.1).mono ?_
 rintro e' w3 ⟨m, u, cv, T, cuts, rfl, hsm, hu, hT12, hcv, hcl, hs3, ho3⟩
 have hz3 := ho3.size
 obtain ⟨ta, tc, rfl, _⟩ := hu.form
 obtain ⟨ca, cc, rfl, _⟩ := hcv.form
 obtain ⟨w4, hw4⟩ : ∃ w4, w4 = w3.alloc (.cells #[.int .i64 m.c, .int .i64 m.d, .int .i64 m.s, .int .i64 m.e, .int .i64 m.l, .slice ta T.length tc] 28) := ⟨_, rfl⟩
 have hb34 : Below w3.heap.size w3 w4 := by rw [hw4]; exact (Below.refl _ _).alloc (Nat.le_refl _) _
 have hM4 : w4.heap[w3.heap.size]? = some (.cells #[.int .i64 m.c, .int .i64 m.d, .int .i64 m.s, .int .i64 m.e, .int .i64 m.l, .slice ta T.length tc] 28 (0, 0)) := by rw [hw4]; exact heap_alloc_self _ _
 have hz4 : w3.heap.size < w4.heap.size := lt_of_heap hM4
 have HD4 := Lib.hid (KdAt.mk (B0 := B0) (SB := SB) (W := W) (w3 := w3) (hs3.below hb34) (((Only.of_below HL.out.2.1).trans ho3).then_below hb34) hM4 ((hb34.block _ (by omega)).trans (ho3.heap HL.out.2.2.1 (fun e => by omega)))
  ((hu.mono (S' := fun b => W.heap.size < b ∧ b ≠ w3.heap.size) (fun b hb hlt => by have hb : W1.heap.size ≤ b := hb; exact ⟨by omega, by omega⟩) (fun _ _ _ => rfl)).below hb34)
  ((hcv.mono (S' := fun b => W.heap.size < b ∧ b ≠ w3.heap.size) (fun b hb hlt => by have hb : W1.heap.size ≤ b := hb; exact ⟨by omega, by omega⟩) (fun _ _ _ => rfl)).below hb34))
 have HW4 := Lib.hid hw4
 clear hs3 ho3 hb34 hM4 hu hcv hw4 hsm hcl hT12
 go_wp2_with fail
 rw [← HW4.out]
 refine (l01Next_any B0 SB 4 _ HD4.out.src).mono ?_
 rintro e' w5 ⟨q, rfl, _, hs5, ho5⟩
 have hz5 := ho5.size
 have HD5 := Lib.hid (HD4.out.step hs5 ho5 (by omega) (by omega)); clear hs5 ho5
 by_cases hq : q = 0
 ·subst hq
  have hm5 : ∃ c0 c1 c2 c3 c4 c5, w5.heap[w3.heap.size]? = some (.cells #[c0, c1, c2, c3, c4, c5] 28 (0, 0)) := ⟨_, _, _, _, _, _, HD5.out.hm⟩
  obtain ⟨c0, c1, c2, c3, c4, c5, hm5⟩ := hm5
  have hr5 := HD5.out.hr
  have ho5 := HD5.out.only
  have hs5 := HD5.out.src
  clear HD5 HD4 HW4
  have H5 := Lib.hid (And.intro hm5 (And.intro hr5 (And.intro ho5 hs5))); clear hm5 hr5 ho5 hs5
  go_wp2_with fail
  refine (l16Draw_any B0 SB _ H5.out.2.2.2).mono ?_
  rintro e' w6 ⟨m, uq, cvq, T, cuts, rfl, _, huq, hcq, _, hs6, ho6⟩
  have hz6 := ho6.size
  obtain ⟨ta, tc, rfl, _⟩ := huq.form
  obtain ⟨ca, cc, rfl, _⟩ := hcq.form
  have hm6 := ho6.heap H5.out.1 (fun e => by omega)
  have hr6 := ho6.heap H5.out.2.1 (fun e => by omega)
  have hcM6 : ∀ o, w6.cell? ⟨w3.heap.size, o, none⟩ = (#[c0, c1, c2, c3, c4, c5] : Array Value)[o]? := fun o => by rw [cell_of_block hm6]
  have hfM6 := fun o => frozen_of_block hm6 o
  have hdone := putS_facts hs6 (H5.out.2.2.1.trans ho6) hm6 (by omega) (by omega) (by omega) (.int .i64 m.c) (.int .i64 m.d) (.int .i64 m.s) (.int .i64 m.e) (.int .i64 m.l) (.slice ta T.length tc)
  obtain ⟨w7, hw7⟩ : ∃ wz, wz = putS w6 w3.heap.size (.int .i64 m.c) (.int .i64 m.d) (.int .i64 m.s) (.int .i64 m.e) (.int .i64 m.l) (.slice ta T.length tc) := ⟨_, rfl⟩
  rw [← hw7] at hdone
  obtain ⟨hd1, hd2, hd3, hd4⟩ := hdone
  have HD7 := Lib.hid (KdAt.mk (B0 := B0) (SB := SB) (W := W) (w3 := w3) hd1 hd2 hd3 ((hd4 _ (by omega)).trans hr6)
   (huq.mono (S' := fun b => W.heap.size < b ∧ b ≠ w3.heap.size) (fun b hb hlt => by have hb : w5.heap.size ≤ b := hb; exact ⟨by omega, by omega⟩) (fun b hb _ => hd4 b (by have hb : w5.heap.size ≤ b := hb; omega)))
   (hcq.mono (S' := fun b => W.heap.size < b ∧ b ≠ w3.heap.size) (fun b hb hlt => by have hb : w5.heap.size ≤ b := hb; exact ⟨by omega, by omega⟩) (fun b hb _ => hd4 b (by have hb : w5.heap.size ≤ b := hb; omega))))
  have hz7 : w6.heap.size ≤ w7.heap.size := by rw [hw7]; unfold putS putR; simp
  unfold putS putR at hw7
  have HW7 := Lib.hid hw7
  clear hd1 hd2 hd3 hd4 hw7 huq hcq hm6 hr6 hs6 ho6
  go_wp2_with fail
  rw [← HW7.out]
  clear hcM6 hfM6 HW7
  have hcMy : ∀ o, w7.cell? ⟨w3.heap.size, o, none⟩ = (#[.int .i64 m.c, .int .i64 m.d, .int .i64 m.s, .int .i64 m.e, .int .i64 m.l, .slice ta T.length tc] : Array Value)[o]? := fun o => by rw [cell_of_block HD7.out.hm]
  go_wp2_with fail
  clear hcMy
  refine (l16Code_any m _ _ T cuts _ HD7.out.tab HD7.out.cut).mono ?_
  rintro e' wc ⟨rfl, hbc⟩
  have hzc := hbc.size
  have HC := Lib.hid (HD7.out.step (HD7.out.src.below hbc) (Only.of_below hbc) (by omega) (by omega)); clear hbc
  by_cases hp : partC m T cuts = 0
  rotate_left
  ·have hpd : (partC m T cuts == 0) = false := by simp [hp]
   clear hp
   generalize partC m T cuts = pc at *
   have hcMx : ∀ o, wc.cell? ⟨w3.heap.size, o, none⟩ = (#[.int .i64 m.c, .int .i64 m.d, .int .i64 m.s, .int .i64 m.e, .int .i64 m.l, .slice ta T.length tc] : Array Value)[o]? := fun o => by rw [cell_of_block HC.out.hm]
   go_wp2_with fail
   clear hcMx
   refine (l01Next_any B0 SB 12 _ HC.out.src).mono ?_
   rintro e' wp ⟨x1, rfl, ⟨hx10, hx11⟩, hsp, hop⟩
   have hzp := hop.size
   have HP := Lib.hid (HC.out.step hsp hop (by omega) (by omega)); clear hsp hop
   go_wp2_with fail
   refine (l01Next_any B0 SB _ _ HP.out.src).mono ?_
   rintro e' wq ⟨x2, rfl, _, hsq, hoq⟩
   have hzq := hoq.size
   have HQ := Lib.hid (HP.out.step hsq hoq (by omega) (by omega)); clear hsq hoq
   go_wp2_with fail
   refine (l01Next_any B0 SB 20 _ HQ.out.src).mono ?_
   rintro e' wr ⟨x3, rfl, _, hsr, hor⟩
   have hzr := hor.size
   have HR := Lib.hid (HQ.out.step hsr hor (by omega) (by omega)); clear hsr hor
   go_wp2_with fail
   have hcM : ∀ o, wr.cell? ⟨w3.heap.size, o, none⟩ = (#[.int .i64 m.c, .int .i64 m.d, .int .i64 m.s, .int .i64 m.e, .int .i64 m.l, .slice ta T.length tc] : Array Value)[o]? := fun o => by rw [cell_of_block HR.out.hm]
   have hSk : ∀ w' : World, w'.heap[w3.heap.size]? = wr.heap[w3.heap.size]? → w'.cell? ⟨w3.heap.size, 0, none⟩ = some (.int .i64 m.c) ∧ w'.cell? ⟨w3.heap.size, 1, none⟩ = some (.int .i64 m.d) ∧ w'.cell? ⟨w3.heap.size, 2, none⟩ = some (.int .i64 m.s) ∧ w'.cell? ⟨w3.heap.size, 3, none⟩ = some (.int .i64 m.e) ∧ w'.cell? ⟨w3.heap.size, 4, none⟩ = some (.int .i64 m.l) ∧ w'.cell? ⟨w3.heap.size, 5, none⟩ = some (.slice ta T.length tc) := fun w' hw => by
    refine ⟨?_, ?_, ?_, ?_, ?_, ?_⟩ <;> exact cell_keep (hcM _) hw
   generalize wrap64 (x2 - x3 / 19) = kq
   refine wp_region_noPanic ?_
   refine wp_region_held_drew (S := fun w' => w'.cell? ⟨w3.heap.size, 0, none⟩ = some (.int .i64 m.c) ∧ w'.cell? ⟨w3.heap.size, 1, none⟩ = some (.int .i64 m.d) ∧ w'.cell? ⟨w3.heap.size, 2, none⟩ = some (.int .i64 m.s) ∧ w'.cell? ⟨w3.heap.size, 3, none⟩ = some (.int .i64 m.e) ∧ w'.cell? ⟨w3.heap.size, 4, none⟩ = some (.int .i64 m.l) ∧ w'.cell? ⟨w3.heap.size, 5, none⟩ = some (.slice ta T.length tc)) (by kernel_rfl) (hSk wr.drew rfl) (fun hHeld => ?_)
   (refine wpAnyH_take (i := 0) (v := .agg #[.int .i64 m.c, .int .i64 m.d, .int .i64 m.s, .int .i64 m.e, .int .i64 m.l, .slice ta T.length tc]) rfl (by kernel_rfl) (by kernel_rfl) (by kernel_rfl) (fun _ _ _ h => h) (Or.inl ⟨by kernel_rfl, fun w hSw => by (try dsimp only at hSw); go_split_ands; go_simp⟩) (by assumption) ?_; simp only [Act.put, List.setIfInBounds_toArray, List.set_cons_zero, List.set_cons_succ])
   (refine wpAnyH_take (i := 1) (v := .slice ca cuts.length cc) rfl (by kernel_rfl) (by kernel_rfl) (by kernel_rfl) (fun _ _ _ h => h) (Or.inl ⟨by kernel_rfl, fun w hSw => by (try dsimp only at hSw); go_split_ands; go_simp⟩) (by assumption) ?_; simp only [Act.put, List.setIfInBounds_toArray, List.set_cons_zero, List.set_cons_succ])
   (refine wpAnyH_take (i := 2) (v := .int .i64 kq) rfl (by kernel_rfl) (by kernel_rfl) (by kernel_rfl) (fun _ _ _ h => h) (Or.inl ⟨by kernel_rfl, fun w hSw => by (try dsimp only at hSw); go_split_ands; go_simp⟩) (by assumption) ?_; simp only [Act.put, List.setIfInBounds_toArray, List.set_cons_zero, List.set_cons_succ])
   (refine wpAnyH_take (i := 3) (v := .pointer (some ⟨SB, 0, none⟩)) rfl (by kernel_rfl) (by kernel_rfl) (by kernel_rfl) (fun _ _ _ h => h) (Or.inl ⟨by kernel_rfl, fun w hSw => by (try dsimp only at hSw); go_split_ands; go_simp⟩) (by assumption) ?_; simp only [Act.put, List.setIfInBounds_toArray, List.set_cons_zero, List.set_cons_succ])
   (refine wpAnyH_take (i := 5) (v := .pointer (some ⟨SB, 0, none⟩)) rfl (by kernel_rfl) (by kernel_rfl) (by kernel_rfl) (fun _ _ _ h => h) (Or.inl ⟨by kernel_rfl, fun w hSw => by (try dsimp only at hSw); go_split_ands; go_simp⟩) (by assumption) ?_; simp only [Act.put, List.setIfInBounds_toArray, List.set_cons_zero, List.set_cons_succ])
   have hbD : Below wr.heap.size wr wr.drew := (Below.refl _ _).drew
   refine wpAnyH_ready (rs := [4]) (by kernel_rfl) (by simp) (AllReadyH.cons rfl (fun K hK => ?_) AllReadyH.nil)
   go_simp
   go_at_call 96
   refine (l01Next_any B0 SB 5 _ (HR.out.src.below hbD)).mono ?_
   rintro e' wa ⟨x, rfl, _, hsa, hoa⟩
   have hoa4 : Only SB wr wa := (Only.of_below hbD).trans hoa
   have hza := hoa4.size
   have HA9 := Lib.hid (HR.out.step hsa hoa4 (by omega) (by omega))
   have hMa : wa.heap[w3.heap.size]? = wr.heap[w3.heap.size]? := hoa4.block _ (lt_of_heap HR.out.hm) (fun e => by omega)
   clear hsa hoa hoa4 hbD
   dsimp only
   (refine hK.out _ _ (hSk wa hMa) (fun hHeld => ?_); clear hK K; (try simp only [Act.put, List.setIfInBounds_toArray, List.set_cons_zero, List.set_cons_succ]))
   refine wpAnyH_ready (rs := [6]) (by kernel_rfl) (by simp) (AllReadyH.cons rfl (fun K hK => ?_) AllReadyH.nil)
   go_simp
   go_at_call 96
   refine (l01Next_any B0 SB 20 _ HA9.out.src).mono ?_
   rintro e' wb ⟨y, rfl, _, hsb, hob⟩
   have hzb := hob.size
   have HB9 := Lib.hid (HA9.out.step hsb hob (by omega) (by omega))
   have hMb : wb.heap[w3.heap.size]? = wr.heap[w3.heap.size]? := (hob.block _ (lt_of_heap HA9.out.hm) (fun e => by omega)).trans hMa
   clear hsb hob hMa hcM
   dsimp only
   (refine hK.out _ _ (hSk wb hMb) (fun hHeld => ?_); clear hK K; (try simp only [Act.put, List.setIfInBounds_toArray, List.set_cons_zero, List.set_cons_succ]))
   (refine wpAnyH_take (i := 7) (v := .int .i64 (IntKind.i64.wrap (y.tdiv 19))) rfl (by kernel_rfl) (by kernel_rfl) (by kernel_rfl) (fun _ _ _ h => h) (Or.inl ⟨by kernel_rfl, fun w hSw => by (try dsimp only at hSw); go_split_ands; go_simp⟩) (by assumption) ?_; simp only [Act.put, List.setIfInBounds_toArray, List.set_cons_zero, List.set_cons_succ])
   (refine wpAnyH_take (i := 8) (v := .int .i64 (IntKind.i64.wrap (x - IntKind.i64.wrap (y.tdiv 19)))) rfl (by kernel_rfl) (by kernel_rfl) (by kernel_rfl) (fun _ _ _ h => h) (Or.inl ⟨by kernel_rfl, fun w hSw => by (try dsimp only at hSw); go_split_ands; go_simp⟩) (by assumption) ?_; simp only [Act.put, List.setIfInBounds_toArray, List.set_cons_zero, List.set_cons_succ])
   have hcRz : ∀ o, wb.cell? ⟨W.heap.size, o, none⟩ = (#[.int .i64 0, .int .i64 0, .int .i64 0, .int .i64 0, .int .i64 0, .slice none 0 0] : Array Value)[o]? := fun o => by rw [cell_of_block HB9.out.hr]
   have hfRz := fun o => frozen_of_block HB9.out.hr o
   have hdone := putS_facts HB9.out.src HB9.out.only HB9.out.hr (by omega) (Nat.le_refl _) (by omega) (.int .i64 m.c) (.int .i64 m.d) (.int .i64 m.s) (.int .i64 m.e) (.int .i64 m.l) (.slice ta T.length tc)
   obtain ⟨wz, hwz⟩ : ∃ wz, wz = putS wb W.heap.size (.int .i64 m.c) (.int .i64 m.d) (.int .i64 m.s) (.int .i64 m.e) (.int .i64 m.l) (.slice ta T.length tc) := ⟨_, rfl⟩
   rw [← hwz] at hdone
   obtain ⟨hd1, hd2, hd3, hd4⟩ := hdone
   have hFz : V2 (fun b => W.heap.size < b) wz (.slice ta T.length tc) T := V2.mono (S := fun b => W.heap.size < b ∧ b ≠ w3.heap.size) HB9.out.tab (fun b hb _ => hb.1) (fun b hb _ => hd4 b (by have := hb.1; omega))
   have hcz : V2 (fun b => W.heap.size < b) wz (.slice ca cuts.length cc) cuts := V2.mono (S := fun b => W.heap.size < b ∧ b ≠ w3.heap.size) HB9.out.cut (fun b hb _ => hb.1) (fun b hb _ => hd4 b (by have := hb.1; omega))
   have hmz : wz.heap[w3.heap.size]? = wb.heap[w3.heap.size]? := hd4 _ (by omega)
   have hz0 : wz.cell? ⟨W.heap.size, 0, none⟩ = some (.int .i64 m.c) := by rw [cell_of_block hd3]; rfl
   have hz1 : wz.cell? ⟨W.heap.size, 1, none⟩ = some (.int .i64 m.d) := by rw [cell_of_block hd3]; rfl
   have hz2 : wz.cell? ⟨W.heap.size, 2, none⟩ = some (.int .i64 m.s) := by rw [cell_of_block hd3]; rfl
   have hz3 : wz.cell? ⟨W.heap.size, 3, none⟩ = some (.int .i64 m.e) := by rw [cell_of_block hd3]; rfl
   have hz4 : wz.cell? ⟨W.heap.size, 4, none⟩ = some (.int .i64 m.l) := by rw [cell_of_block hd3]; rfl
   have hz5 : wz.cell? ⟨W.heap.size, 5, none⟩ = some (.slice ta T.length tc) := by rw [cell_of_block hd3]; rfl
   have HZ := Lib.hid (And.intro hd1 (And.intro hd2 (And.intro hFz hcz))); clear hd1 hd2 hFz hcz hd3
   unfold putS putR at hwz
   (refine wpAnyH_ready (rs := [9]) (by kernel_rfl) (by simp) (AllReadyH.cons rfl (fun K hK => ?_) AllReadyH.nil); go_simp)
   rw [← hwz]
   clear hwz
   have hSz := hSk wz (hmz.trans hMb)
   (refine hK.out _ _ hSz (fun hHeld => ?_); clear hK K; (try simp only [Act.put, List.setIfInBounds_toArray, List.set_cons_zero, List.set_cons_succ]))
   (refine wpAnyH_ready (rs := [10]) (by kernel_rfl) (by simp) (AllReadyH.cons rfl (fun K hK => ?_) AllReadyH.nil); go_simp)
   (refine hK.out _ _ hSz (fun hHeld => ?_); clear hK K; (try simp only [Act.put, List.setIfInBounds_toArray, List.set_cons_zero, List.set_cons_succ]))
   (refine wpAnyH_ready (rs := [11]) (by kernel_rfl) (by simp) (AllReadyH.cons rfl (fun K hK => ?_) AllReadyH.nil); go_simp)
   (refine hK.out _ _ hSz (fun hHeld => ?_); clear hK K; (try simp only [Act.put, List.setIfInBounds_toArray, List.set_cons_zero, List.set_cons_succ]))
   (refine wpAnyH_ready (rs := [12]) (by kernel_rfl) (by simp) (AllReadyH.cons rfl (fun K hK => ?_) AllReadyH.nil); go_simp)
   (refine hK.out _ _ hSz (fun hHeld => ?_); clear hK K; (try simp only [Act.put, List.setIfInBounds_toArray, List.set_cons_zero, List.set_cons_succ]))
   refine wpAnyH_done (by kernel_rfl) (NoPanic.normal ?_) _
   go_wp2_with fail
   exact bodyPost_ret (v := .tuple #[.agg #[.int .i64 m.c, .int .i64 m.d, .int .i64 m.s, .int .i64 m.e, .int .i64 m.l, .slice ta T.length tc], .slice ca cuts.length cc, .int .i64 kq, .int .i64 (IntKind.i64.wrap (x - IntKind.i64.wrap (y.tdiv 19)))]) (by simp [results, Tryz.results114, go_sem, hz0, hz1, hz2, hz3, hz4, hz5]) rfl ⟨m, _, _, T, cuts, _, _, rfl, HZ.out.2.2.1, HZ.out.2.2.2, HZ.out.1, HZ.out.2.1⟩
  have hpd : (partC m T cuts == 0) = true := by simp [hp]
  have HPC := Lib.hid hp
  obtain ⟨pc, hpc⟩ : ∃ x, partC m T cuts = x := ⟨_, rfl⟩
  rw [hpc] at hpd ⊢
  clear hp hpc
  go_wp2_with fail
  refine (l01Next_any B0 SB 3 _ HC.out.src).mono ?_
  rintro e' wd ⟨xd, rfl, _, hsd, hod⟩
  have hzd := hod.size
  have HD := Lib.hid (HC.out.step hsd hod (by omega) (by omega)); clear hsd hod
  by_cases hxd : 0 < xd
  rotate_left
  ·have hxdd : decide (0 < xd) = false := decide_eq_false hxd
   clear hxd
   have hcMx : ∀ o, wd.cell? ⟨w3.heap.size, o, none⟩ = (#[.int .i64 m.c, .int .i64 m.d, .int .i64 m.s, .int .i64 m.e, .int .i64 m.l, .slice ta T.length tc] : Array Value)[o]? := fun o => by rw [cell_of_block HD.out.hm]
   go_wp2_with fail
   clear hcMx
   refine (l01Next_any B0 SB 12 _ HD.out.src).mono ?_
   rintro e' wp ⟨x1, rfl, ⟨hx10, hx11⟩, hsp, hop⟩
   have hzp := hop.size
   have HP := Lib.hid (HD.out.step hsp hop (by omega) (by omega)); clear hsp hop
   go_wp2_with fail
   refine (l01Next_any B0 SB _ _ HP.out.src).mono ?_
   rintro e' wq ⟨x2, rfl, _, hsq, hoq⟩
   have hzq := hoq.size
   have HQ := Lib.hid (HP.out.step hsq hoq (by omega) (by omega)); clear hsq hoq
   go_wp2_with fail
   refine (l01Next_any B0 SB 20 _ HQ.out.src).mono ?_
   rintro e' wr ⟨x3, rfl, _, hsr, hor⟩
   have hzr := hor.size
   have HR := Lib.hid (HQ.out.step hsr hor (by omega) (by omega)); clear hsr hor
   go_wp2_with fail
   have hcM : ∀ o, wr.cell? ⟨w3.heap.size, o, none⟩ = (#[.int .i64 m.c, .int .i64 m.d, .int .i64 m.s, .int .i64 m.e, .int .i64 m.l, .slice ta T.length tc] : Array Value)[o]? := fun o => by rw [cell_of_block HR.out.hm]
   have hSk : ∀ w' : World, w'.heap[w3.heap.size]? = wr.heap[w3.heap.size]? → w'.cell? ⟨w3.heap.size, 0, none⟩ = some (.int .i64 m.c) ∧ w'.cell? ⟨w3.heap.size, 1, none⟩ = some (.int .i64 m.d) ∧ w'.cell? ⟨w3.heap.size, 2, none⟩ = some (.int .i64 m.s) ∧ w'.cell? ⟨w3.heap.size, 3, none⟩ = some (.int .i64 m.e) ∧ w'.cell? ⟨w3.heap.size, 4, none⟩ = some (.int .i64 m.l) ∧ w'.cell? ⟨w3.heap.size, 5, none⟩ = some (.slice ta T.length tc) := fun w' hw => by
    refine ⟨?_, ?_, ?_, ?_, ?_, ?_⟩ <;> exact cell_keep (hcM _) hw
   generalize wrap64 (x2 - x3 / 19) = kq
   refine wp_region_noPanic ?_
   refine wp_region_held_drew (S := fun w' => w'.cell? ⟨w3.heap.size, 0, none⟩ = some (.int .i64 m.c) ∧ w'.cell? ⟨w3.heap.size, 1, none⟩ = some (.int .i64 m.d) ∧ w'.cell? ⟨w3.heap.size, 2, none⟩ = some (.int .i64 m.s) ∧ w'.cell? ⟨w3.heap.size, 3, none⟩ = some (.int .i64 m.e) ∧ w'.cell? ⟨w3.heap.size, 4, none⟩ = some (.int .i64 m.l) ∧ w'.cell? ⟨w3.heap.size, 5, none⟩ = some (.slice ta T.length tc)) (by kernel_rfl) (hSk wr.drew rfl) (fun hHeld => ?_)
   (refine wpAnyH_take (i := 0) (v := .agg #[.int .i64 m.c, .int .i64 m.d, .int .i64 m.s, .int .i64 m.e, .int .i64 m.l, .slice ta T.length tc]) rfl (by kernel_rfl) (by kernel_rfl) (by kernel_rfl) (fun _ _ _ h => h) (Or.inl ⟨by kernel_rfl, fun w hSw => by (try dsimp only at hSw); go_split_ands; go_simp⟩) (by assumption) ?_; simp only [Act.put, List.setIfInBounds_toArray, List.set_cons_zero, List.set_cons_succ])
   (refine wpAnyH_take (i := 1) (v := .slice ca cuts.length cc) rfl (by kernel_rfl) (by kernel_rfl) (by kernel_rfl) (fun _ _ _ h => h) (Or.inl ⟨by kernel_rfl, fun w hSw => by (try dsimp only at hSw); go_split_ands; go_simp⟩) (by assumption) ?_; simp only [Act.put, List.setIfInBounds_toArray, List.set_cons_zero, List.set_cons_succ])
   (refine wpAnyH_take (i := 2) (v := .int .i64 kq) rfl (by kernel_rfl) (by kernel_rfl) (by kernel_rfl) (fun _ _ _ h => h) (Or.inl ⟨by kernel_rfl, fun w hSw => by (try dsimp only at hSw); go_split_ands; go_simp⟩) (by assumption) ?_; simp only [Act.put, List.setIfInBounds_toArray, List.set_cons_zero, List.set_cons_succ])
   (refine wpAnyH_take (i := 3) (v := .pointer (some ⟨SB, 0, none⟩)) rfl (by kernel_rfl) (by kernel_rfl) (by kernel_rfl) (fun _ _ _ h => h) (Or.inl ⟨by kernel_rfl, fun w hSw => by (try dsimp only at hSw); go_split_ands; go_simp⟩) (by assumption) ?_; simp only [Act.put, List.setIfInBounds_toArray, List.set_cons_zero, List.set_cons_succ])
   (refine wpAnyH_take (i := 5) (v := .pointer (some ⟨SB, 0, none⟩)) rfl (by kernel_rfl) (by kernel_rfl) (by kernel_rfl) (fun _ _ _ h => h) (Or.inl ⟨by kernel_rfl, fun w hSw => by (try dsimp only at hSw); go_split_ands; go_simp⟩) (by assumption) ?_; simp only [Act.put, List.setIfInBounds_toArray, List.set_cons_zero, List.set_cons_succ])
   have hbD : Below wr.heap.size wr wr.drew := (Below.refl _ _).drew
   refine wpAnyH_ready (rs := [4]) (by kernel_rfl) (by simp) (AllReadyH.cons rfl (fun K hK => ?_) AllReadyH.nil)
   go_simp
   go_at_call 96
   refine (l01Next_any B0 SB 5 _ (HR.out.src.below hbD)).mono ?_
   rintro e' wa ⟨x, rfl, _, hsa, hoa⟩
   have hoa4 : Only SB wr wa := (Only.of_below hbD).trans hoa
   have hza := hoa4.size
   have HA9 := Lib.hid (HR.out.step hsa hoa4 (by omega) (by omega))
   have hMa : wa.heap[w3.heap.size]? = wr.heap[w3.heap.size]? := hoa4.block _ (lt_of_heap HR.out.hm) (fun e => by omega)
   clear hsa hoa hoa4 hbD
   dsimp only
   (refine hK.out _ _ (hSk wa hMa) (fun hHeld => ?_); clear hK K; (try simp only [Act.put, List.setIfInBounds_toArray, List.set_cons_zero, List.set_cons_succ]))
   refine wpAnyH_ready (rs := [6]) (by kernel_rfl) (by simp) (AllReadyH.cons rfl (fun K hK => ?_) AllReadyH.nil)
   go_simp
   go_at_call 96
   refine (l01Next_any B0 SB 20 _ HA9.out.src).mono ?_
   rintro e' wb ⟨y, rfl, _, hsb, hob⟩
   have hzb := hob.size
   have HB9 := Lib.hid (HA9.out.step hsb hob (by omega) (by omega))
   have hMb : wb.heap[w3.heap.size]? = wr.heap[w3.heap.size]? := (hob.block _ (lt_of_heap HA9.out.hm) (fun e => by omega)).trans hMa
   clear hsb hob hMa hcM
   dsimp only
   (refine hK.out _ _ (hSk wb hMb) (fun hHeld => ?_); clear hK K; (try simp only [Act.put, List.setIfInBounds_toArray, List.set_cons_zero, List.set_cons_succ]))
   (refine wpAnyH_take (i := 7) (v := .int .i64 (IntKind.i64.wrap (y.tdiv 19))) rfl (by kernel_rfl) (by kernel_rfl) (by kernel_rfl) (fun _ _ _ h => h) (Or.inl ⟨by kernel_rfl, fun w hSw => by (try dsimp only at hSw); go_split_ands; go_simp⟩) (by assumption) ?_; simp only [Act.put, List.setIfInBounds_toArray, List.set_cons_zero, List.set_cons_succ])
   (refine wpAnyH_take (i := 8) (v := .int .i64 (IntKind.i64.wrap (x - IntKind.i64.wrap (y.tdiv 19)))) rfl (by kernel_rfl) (by kernel_rfl) (by kernel_rfl) (fun _ _ _ h => h) (Or.inl ⟨by kernel_rfl, fun w hSw => by (try dsimp only at hSw); go_split_ands; go_simp⟩) (by assumption) ?_; simp only [Act.put, List.setIfInBounds_toArray, List.set_cons_zero, List.set_cons_succ])
   have hcRz : ∀ o, wb.cell? ⟨W.heap.size, o, none⟩ = (#[.int .i64 0, .int .i64 0, .int .i64 0, .int .i64 0, .int .i64 0, .slice none 0 0] : Array Value)[o]? := fun o => by rw [cell_of_block HB9.out.hr]
   have hfRz := fun o => frozen_of_block HB9.out.hr o
   have hdone := putS_facts HB9.out.src HB9.out.only HB9.out.hr (by omega) (Nat.le_refl _) (by omega) (.int .i64 m.c) (.int .i64 m.d) (.int .i64 m.s) (.int .i64 m.e) (.int .i64 m.l) (.slice ta T.length tc)
   obtain ⟨wz, hwz⟩ : ∃ wz, wz = putS wb W.heap.size (.int .i64 m.c) (.int .i64 m.d) (.int .i64 m.s) (.int .i64 m.e) (.int .i64 m.l) (.slice ta T.length tc) := ⟨_, rfl⟩
   rw [← hwz] at hdone
   obtain ⟨hd1, hd2, hd3, hd4⟩ := hdone
   have hFz : V2 (fun b => W.heap.size < b) wz (.slice ta T.length tc) T := V2.mono (S := fun b => W.heap.size < b ∧ b ≠ w3.heap.size) HB9.out.tab (fun b hb _ => hb.1) (fun b hb _ => hd4 b (by have := hb.1; omega))
   have hcz : V2 (fun b => W.heap.size < b) wz (.slice ca cuts.length cc) cuts := V2.mono (S := fun b => W.heap.size < b ∧ b ≠ w3.heap.size) HB9.out.cut (fun b hb _ => hb.1) (fun b hb _ => hd4 b (by have := hb.1; omega))
   have hmz : wz.heap[w3.heap.size]? = wb.heap[w3.heap.size]? := hd4 _ (by omega)
   have hz0 : wz.cell? ⟨W.heap.size, 0, none⟩ = some (.int .i64 m.c) := by rw [cell_of_block hd3]; rfl
   have hz1 : wz.cell? ⟨W.heap.size, 1, none⟩ = some (.int .i64 m.d) := by rw [cell_of_block hd3]; rfl
   have hz2 : wz.cell? ⟨W.heap.size, 2, none⟩ = some (.int .i64 m.s) := by rw [cell_of_block hd3]; rfl
   have hz3 : wz.cell? ⟨W.heap.size, 3, none⟩ = some (.int .i64 m.e) := by rw [cell_of_block hd3]; rfl
   have hz4 : wz.cell? ⟨W.heap.size, 4, none⟩ = some (.int .i64 m.l) := by rw [cell_of_block hd3]; rfl
   have hz5 : wz.cell? ⟨W.heap.size, 5, none⟩ = some (.slice ta T.length tc) := by rw [cell_of_block hd3]; rfl
   have HZ := Lib.hid (And.intro hd1 (And.intro hd2 (And.intro hFz hcz))); clear hd1 hd2 hFz hcz hd3
   unfold putS putR at hwz
   (refine wpAnyH_ready (rs := [9]) (by kernel_rfl) (by simp) (AllReadyH.cons rfl (fun K hK => ?_) AllReadyH.nil); go_simp)
   rw [← hwz]
   clear hwz
   have hSz := hSk wz (hmz.trans hMb)
   (refine hK.out _ _ hSz (fun hHeld => ?_); clear hK K; (try simp only [Act.put, List.setIfInBounds_toArray, List.set_cons_zero, List.set_cons_succ]))
   (refine wpAnyH_ready (rs := [10]) (by kernel_rfl) (by simp) (AllReadyH.cons rfl (fun K hK => ?_) AllReadyH.nil); go_simp)
   (refine hK.out _ _ hSz (fun hHeld => ?_); clear hK K; (try simp only [Act.put, List.setIfInBounds_toArray, List.set_cons_zero, List.set_cons_succ]))
   (refine wpAnyH_ready (rs := [11]) (by kernel_rfl) (by simp) (AllReadyH.cons rfl (fun K hK => ?_) AllReadyH.nil); go_simp)
   (refine hK.out _ _ hSz (fun hHeld => ?_); clear hK K; (try simp only [Act.put, List.setIfInBounds_toArray, List.set_cons_zero, List.set_cons_succ]))
   (refine wpAnyH_ready (rs := [12]) (by kernel_rfl) (by simp) (AllReadyH.cons rfl (fun K hK => ?_) AllReadyH.nil); go_simp)
   (refine hK.out _ _ hSz (fun hHeld => ?_); clear hK K; (try simp only [Act.put, List.setIfInBounds_toArray, List.set_cons_zero, List.set_cons_succ]))
   refine wpAnyH_done (by kernel_rfl) (NoPanic.normal ?_) _
   go_wp2_with fail
   exact bodyPost_ret (v := .tuple #[.agg #[.int .i64 m.c, .int .i64 m.d, .int .i64 m.s, .int .i64 m.e, .int .i64 m.l, .slice ta T.length tc], .slice ca cuts.length cc, .int .i64 kq, .int .i64 (IntKind.i64.wrap (x - IntKind.i64.wrap (y.tdiv 19)))]) (by simp [results, Tryz.results114, go_sem, hz0, hz1, hz2, hz3, hz4, hz5]) rfl ⟨m, _, _, T, cuts, _, _, rfl, HZ.out.2.2.1, HZ.out.2.2.2, HZ.out.1, HZ.out.2.1⟩
  have hxdd : decide (0 < xd) = true := decide_eq_true hxd
  clear hxd
  have hcMd : ∀ o, wd.cell? ⟨w3.heap.size, o, none⟩ = (#[.int .i64 m.c, .int .i64 m.d, .int .i64 m.s, .int .i64 m.e, .int .i64 m.l, .slice ta T.length tc] : Array Value)[o]? := fun o => by rw [cell_of_block HD.out.hm]
  go_wp2_with fail
  have hff := fits_of HPC.out
  have hmc : ((m.c.toNat : Nat) : Int) = m.c := by have := Mk.ok_iff.1 hff.ok; omega
  refine (l15False_any m _ _ T cuts m.c.toNat _ hff hmc HD.out.tab HD.out.cut).mono ?_
  rintro e' we ⟨lv, rfl, hL, hbe⟩
  obtain ⟨la, lc, rfl, hlm⟩ := hL.v2.form
  have hze := hbe.size
  have HE := Lib.hid (HD.out.step (HD.out.src.below hbe) (Only.of_below hbe) (by omega) (by omega)); clear hbe hcMd
  have hget := fun k => falseL_get (n := m.c.toNat) (t := T) (cuts := cuts) (k := k)
  obtain ⟨L, hLe⟩ : ∃ L, falseL m.c.toNat T cuts = L := ⟨_, rfl⟩
  rw [hLe] at hL hlm ⊢
  simp only [hLe] at hget
  have HL := Lib.hid (And.intro hL.v2 hget); clear hL hget hff hmc hLe
  by_cases hl0 : L.length = 0
  ·have hl0d : decide (0 < L.length) = false := decide_eq_false (by omega)
   have hl0e : decide ((0 : Int) < (L.length : Int)) = false := decide_eq_false (by omega)
   clear hlm
   obtain ⟨LN, hLN⟩ : ∃ x, L.length = x := ⟨_, rfl⟩
   rw [hLN] at hl0 hl0d hl0e ⊢
   subst hl0
   clear hLN
   have hcMx : ∀ o, we.cell? ⟨w3.heap.size, o, none⟩ = (#[.int .i64 m.c, .int .i64 m.d, .int .i64 m.s, .int .i64 m.e, .int .i64 m.l, .slice ta T.length tc] : Array Value)[o]? := fun o => by rw [cell_of_block HE.out.hm]
   go_wp2_with fail
   clear hcMx
   refine (l01Next_any B0 SB 12 _ HE.out.src).mono ?_
   rintro e' wp ⟨x1, rfl, ⟨hx10, hx11⟩, hsp, hop⟩
   have hzp := hop.size
   have HP := Lib.hid (HE.out.step hsp hop (by omega) (by omega)); clear hsp hop
   go_wp2_with fail
   refine (l01Next_any B0 SB _ _ HP.out.src).mono ?_
   rintro e' wq ⟨x2, rfl, _, hsq, hoq⟩
   have hzq := hoq.size
   have HQ := Lib.hid (HP.out.step hsq hoq (by omega) (by omega)); clear hsq hoq
   go_wp2_with fail
   refine (l01Next_any B0 SB 20 _ HQ.out.src).mono ?_
   rintro e' wr ⟨x3, rfl, _, hsr, hor⟩
   have hzr := hor.size
   have HR := Lib.hid (HQ.out.step hsr hor (by omega) (by omega)); clear hsr hor
   go_wp2_with fail
   have hcM : ∀ o, wr.cell? ⟨w3.heap.size, o, none⟩ = (#[.int .i64 m.c, .int .i64 m.d, .int .i64 m.s, .int .i64 m.e, .int .i64 m.l, .slice ta T.length tc] : Array Value)[o]? := fun o => by rw [cell_of_block HR.out.hm]
   have hSk : ∀ w' : World, w'.heap[w3.heap.size]? = wr.heap[w3.heap.size]? → w'.cell? ⟨w3.heap.size, 0, none⟩ = some (.int .i64 m.c) ∧ w'.cell? ⟨w3.heap.size, 1, none⟩ = some (.int .i64 m.d) ∧ w'.cell? ⟨w3.heap.size, 2, none⟩ = some (.int .i64 m.s) ∧ w'.cell? ⟨w3.heap.size, 3, none⟩ = some (.int .i64 m.e) ∧ w'.cell? ⟨w3.heap.size, 4, none⟩ = some (.int .i64 m.l) ∧ w'.cell? ⟨w3.heap.size, 5, none⟩ = some (.slice ta T.length tc) := fun w' hw => by
    refine ⟨?_, ?_, ?_, ?_, ?_, ?_⟩ <;> exact cell_keep (hcM _) hw
   generalize wrap64 (x2 - x3 / 19) = kq
   refine wp_region_noPanic ?_
   refine wp_region_held_drew (S := fun w' => w'.cell? ⟨w3.heap.size, 0, none⟩ = some (.int .i64 m.c) ∧ w'.cell? ⟨w3.heap.size, 1, none⟩ = some (.int .i64 m.d) ∧ w'.cell? ⟨w3.heap.size, 2, none⟩ = some (.int .i64 m.s) ∧ w'.cell? ⟨w3.heap.size, 3, none⟩ = some (.int .i64 m.e) ∧ w'.cell? ⟨w3.heap.size, 4, none⟩ = some (.int .i64 m.l) ∧ w'.cell? ⟨w3.heap.size, 5, none⟩ = some (.slice ta T.length tc)) (by kernel_rfl) (hSk wr.drew rfl) (fun hHeld => ?_)
   (refine wpAnyH_take (i := 0) (v := .agg #[.int .i64 m.c, .int .i64 m.d, .int .i64 m.s, .int .i64 m.e, .int .i64 m.l, .slice ta T.length tc]) rfl (by kernel_rfl) (by kernel_rfl) (by kernel_rfl) (fun _ _ _ h => h) (Or.inl ⟨by kernel_rfl, fun w hSw => by (try dsimp only at hSw); go_split_ands; go_simp⟩) (by assumption) ?_; simp only [Act.put, List.setIfInBounds_toArray, List.set_cons_zero, List.set_cons_succ])
   (refine wpAnyH_take (i := 1) (v := .slice ca cuts.length cc) rfl (by kernel_rfl) (by kernel_rfl) (by kernel_rfl) (fun _ _ _ h => h) (Or.inl ⟨by kernel_rfl, fun w hSw => by (try dsimp only at hSw); go_split_ands; go_simp⟩) (by assumption) ?_; simp only [Act.put, List.setIfInBounds_toArray, List.set_cons_zero, List.set_cons_succ])
   (refine wpAnyH_take (i := 2) (v := .int .i64 kq) rfl (by kernel_rfl) (by kernel_rfl) (by kernel_rfl) (fun _ _ _ h => h) (Or.inl ⟨by kernel_rfl, fun w hSw => by (try dsimp only at hSw); go_split_ands; go_simp⟩) (by assumption) ?_; simp only [Act.put, List.setIfInBounds_toArray, List.set_cons_zero, List.set_cons_succ])
   (refine wpAnyH_take (i := 3) (v := .pointer (some ⟨SB, 0, none⟩)) rfl (by kernel_rfl) (by kernel_rfl) (by kernel_rfl) (fun _ _ _ h => h) (Or.inl ⟨by kernel_rfl, fun w hSw => by (try dsimp only at hSw); go_split_ands; go_simp⟩) (by assumption) ?_; simp only [Act.put, List.setIfInBounds_toArray, List.set_cons_zero, List.set_cons_succ])
   (refine wpAnyH_take (i := 5) (v := .pointer (some ⟨SB, 0, none⟩)) rfl (by kernel_rfl) (by kernel_rfl) (by kernel_rfl) (fun _ _ _ h => h) (Or.inl ⟨by kernel_rfl, fun w hSw => by (try dsimp only at hSw); go_split_ands; go_simp⟩) (by assumption) ?_; simp only [Act.put, List.setIfInBounds_toArray, List.set_cons_zero, List.set_cons_succ])
   have hbD : Below wr.heap.size wr wr.drew := (Below.refl _ _).drew
   refine wpAnyH_ready (rs := [4]) (by kernel_rfl) (by simp) (AllReadyH.cons rfl (fun K hK => ?_) AllReadyH.nil)
   go_simp
   go_at_call 96
   refine (l01Next_any B0 SB 5 _ (HR.out.src.below hbD)).mono ?_
   rintro e' wa ⟨x, rfl, _, hsa, hoa⟩
   have hoa4 : Only SB wr wa := (Only.of_below hbD).trans hoa
   have hza := hoa4.size
   have HA9 := Lib.hid (HR.out.step hsa hoa4 (by omega) (by omega))
   have hMa : wa.heap[w3.heap.size]? = wr.heap[w3.heap.size]? := hoa4.block _ (lt_of_heap HR.out.hm) (fun e => by omega)
   clear hsa hoa hoa4 hbD
   dsimp only
   (refine hK.out _ _ (hSk wa hMa) (fun hHeld => ?_); clear hK K; (try simp only [Act.put, List.setIfInBounds_toArray, List.set_cons_zero, List.set_cons_succ]))
   refine wpAnyH_ready (rs := [6]) (by kernel_rfl) (by simp) (AllReadyH.cons rfl (fun K hK => ?_) AllReadyH.nil)
   go_simp
   go_at_call 96
   refine (l01Next_any B0 SB 20 _ HA9.out.src).mono ?_
   rintro e' wb ⟨y, rfl, _, hsb, hob⟩
   have hzb := hob.size
   have HB9 := Lib.hid (HA9.out.step hsb hob (by omega) (by omega))
   have hMb : wb.heap[w3.heap.size]? = wr.heap[w3.heap.size]? := (hob.block _ (lt_of_heap HA9.out.hm) (fun e => by omega)).trans hMa
   clear hsb hob hMa hcM
   dsimp only
   (refine hK.out _ _ (hSk wb hMb) (fun hHeld => ?_); clear hK K; (try simp only [Act.put, List.setIfInBounds_toArray, List.set_cons_zero, List.set_cons_succ]))
   (refine wpAnyH_take (i := 7) (v := .int .i64 (IntKind.i64.wrap (y.tdiv 19))) rfl (by kernel_rfl) (by kernel_rfl) (by kernel_rfl) (fun _ _ _ h => h) (Or.inl ⟨by kernel_rfl, fun w hSw => by (try dsimp only at hSw); go_split_ands; go_simp⟩) (by assumption) ?_; simp only [Act.put, List.setIfInBounds_toArray, List.set_cons_zero, List.set_cons_succ])
   (refine wpAnyH_take (i := 8) (v := .int .i64 (IntKind.i64.wrap (x - IntKind.i64.wrap (y.tdiv 19)))) rfl (by kernel_rfl) (by kernel_rfl) (by kernel_rfl) (fun _ _ _ h => h) (Or.inl ⟨by kernel_rfl, fun w hSw => by (try dsimp only at hSw); go_split_ands; go_simp⟩) (by assumption) ?_; simp only [Act.put, List.setIfInBounds_toArray, List.set_cons_zero, List.set_cons_succ])
   have hcRz : ∀ o, wb.cell? ⟨W.heap.size, o, none⟩ = (#[.int .i64 0, .int .i64 0, .int .i64 0, .int .i64 0, .int .i64 0, .slice none 0 0] : Array Value)[o]? := fun o => by rw [cell_of_block HB9.out.hr]
   have hfRz := fun o => frozen_of_block HB9.out.hr o
   have hdone := putS_facts HB9.out.src HB9.out.only HB9.out.hr (by omega) (Nat.le_refl _) (by omega) (.int .i64 m.c) (.int .i64 m.d) (.int .i64 m.s) (.int .i64 m.e) (.int .i64 m.l) (.slice ta T.length tc)
   obtain ⟨wz, hwz⟩ : ∃ wz, wz = putS wb W.heap.size (.int .i64 m.c) (.int .i64 m.d) (.int .i64 m.s) (.int .i64 m.e) (.int .i64 m.l) (.slice ta T.length tc) := ⟨_, rfl⟩
   rw [← hwz] at hdone
   obtain ⟨hd1, hd2, hd3, hd4⟩ := hdone
   have hFz : V2 (fun b => W.heap.size < b) wz (.slice ta T.length tc) T := V2.mono (S := fun b => W.heap.size < b ∧ b ≠ w3.heap.size) HB9.out.tab (fun b hb _ => hb.1) (fun b hb _ => hd4 b (by have := hb.1; omega))
   have hcz : V2 (fun b => W.heap.size < b) wz (.slice ca cuts.length cc) cuts := V2.mono (S := fun b => W.heap.size < b ∧ b ≠ w3.heap.size) HB9.out.cut (fun b hb _ => hb.1) (fun b hb _ => hd4 b (by have := hb.1; omega))
   have hmz : wz.heap[w3.heap.size]? = wb.heap[w3.heap.size]? := hd4 _ (by omega)
   have hz0 : wz.cell? ⟨W.heap.size, 0, none⟩ = some (.int .i64 m.c) := by rw [cell_of_block hd3]; rfl
   have hz1 : wz.cell? ⟨W.heap.size, 1, none⟩ = some (.int .i64 m.d) := by rw [cell_of_block hd3]; rfl
   have hz2 : wz.cell? ⟨W.heap.size, 2, none⟩ = some (.int .i64 m.s) := by rw [cell_of_block hd3]; rfl
   have hz3 : wz.cell? ⟨W.heap.size, 3, none⟩ = some (.int .i64 m.e) := by rw [cell_of_block hd3]; rfl
   have hz4 : wz.cell? ⟨W.heap.size, 4, none⟩ = some (.int .i64 m.l) := by rw [cell_of_block hd3]; rfl
   have hz5 : wz.cell? ⟨W.heap.size, 5, none⟩ = some (.slice ta T.length tc) := by rw [cell_of_block hd3]; rfl
   have HZ := Lib.hid (And.intro hd1 (And.intro hd2 (And.intro hFz hcz))); clear hd1 hd2 hFz hcz hd3
   unfold putS putR at hwz
   (refine wpAnyH_ready (rs := [9]) (by kernel_rfl) (by simp) (AllReadyH.cons rfl (fun K hK => ?_) AllReadyH.nil); go_simp)
   rw [← hwz]
   clear hwz
   have hSz := hSk wz (hmz.trans hMb)
   (refine hK.out _ _ hSz (fun hHeld => ?_); clear hK K; (try simp only [Act.put, List.setIfInBounds_toArray, List.set_cons_zero, List.set_cons_succ]))
   (refine wpAnyH_ready (rs := [10]) (by kernel_rfl) (by simp) (AllReadyH.cons rfl (fun K hK => ?_) AllReadyH.nil); go_simp)
   (refine hK.out _ _ hSz (fun hHeld => ?_); clear hK K; (try simp only [Act.put, List.setIfInBounds_toArray, List.set_cons_zero, List.set_cons_succ]))
   (refine wpAnyH_ready (rs := [11]) (by kernel_rfl) (by simp) (AllReadyH.cons rfl (fun K hK => ?_) AllReadyH.nil); go_simp)
   (refine hK.out _ _ hSz (fun hHeld => ?_); clear hK K; (try simp only [Act.put, List.setIfInBounds_toArray, List.set_cons_zero, List.set_cons_succ]))
   (refine wpAnyH_ready (rs := [12]) (by kernel_rfl) (by simp) (AllReadyH.cons rfl (fun K hK => ?_) AllReadyH.nil); go_simp)
   (refine hK.out _ _ hSz (fun hHeld => ?_); clear hK K; (try simp only [Act.put, List.setIfInBounds_toArray, List.set_cons_zero, List.set_cons_succ]))
   refine wpAnyH_done (by kernel_rfl) (NoPanic.normal ?_) _
   go_wp2_with fail
   exact bodyPost_ret (v := .tuple #[.agg #[.int .i64 m.c, .int .i64 m.d, .int .i64 m.s, .int .i64 m.e, .int .i64 m.l, .slice ta T.length tc], .slice ca cuts.length cc, .int .i64 kq, .int .i64 (IntKind.i64.wrap (x - IntKind.i64.wrap (y.tdiv 19)))]) (by simp [results, Tryz.results114, go_sem, hz0, hz1, hz2, hz3, hz4, hz5]) rfl ⟨m, _, _, T, cuts, _, _, rfl, HZ.out.2.2.1, HZ.out.2.2.2, HZ.out.1, HZ.out.2.1⟩
  have hl0d : decide (0 < L.length) = true := decide_eq_true (by omega)
  have hl0e : decide ((0 : Int) < (L.length : Int)) = true := decide_eq_true (by omega)
  go_wp2_with fail
  refine (l01Next_any B0 SB _ _ HE.out.src).mono ?_
  rintro e' wf ⟨xf, rfl, ⟨hf0, hf1⟩, hsf, hof⟩
  obtain ⟨k, rfl⟩ : ∃ k : Nat, xf = (k : Int) := ⟨xf.toNat, by omega⟩
  have hk : k < L.length := by omega
  have hkn : ¬ L.length ≤ k := by omega
  have hzf := hof.size
  have HF := Lib.hid (HE.out.step hsf hof (by omega) (by omega))
  have hLf : V2 (fun b => wd.heap.size ≤ b) wf (.slice la L.length lc) L := HL.out.1.mono (fun _ h _ => h) (fun b hb hlt => hof.block b hlt (fun e => by have hb : wd.heap.size ≤ b := hb; omega))
  obtain ⟨bq, oq, qa, qc, rfl, _, hcq, hrow⟩ := hLf.cell hk
  obtain ⟨pi, pd, _, _, hpair, _, _⟩ := HL.out.2 k hk
  rw [hpair] at hcq hrow
  have h20 : (0 : Nat) < ([(pi : Int), (pd : Int)] : List Int).length := by simp
  have h21 : (1 : Nat) < ([(pi : Int), (pd : Int)] : List Int).length := by simp
  obtain ⟨br, orr, rfl, hbrw, hcr0⟩ := hrow.cell h20
  have hbrw : wd.heap.size ≤ br := hbrw
  obtain ⟨br', orr', er, _, hcr1⟩ := hrow.cell h21
  simp only [Option.some.injEq, Addr.mk.injEq, and_true] at er
  obtain ⟨rfl, rfl⟩ := er
  have hcr0 : wf.cell? ⟨br, orr + 0, none⟩ = some (.int .i64 (pi : Int)) := hcr0
  have hcr1 : wf.cell? ⟨br, orr + 1, none⟩ = some (.int .i64 (pd : Int)) := hcr1
  have hcq : wf.cell? ⟨bq, oq + k, none⟩ = some (.slice (some ⟨br, orr, none⟩) 2 qc) := hcq
  rw [Nat.add_zero] at hcr0
  clear hsf hof hf0 hf1 hLf hrow hpair h20 h21
  go_wp2_with fail
  clear hcq
  have hcM : ∀ o, wf.cell? ⟨w3.heap.size, o, none⟩ = (#[.int .i64 m.c, .int .i64 m.d, .int .i64 m.s, .int .i64 m.e, .int .i64 m.l, .slice ta T.length tc] : Array Value)[o]? := fun o => by rw [cell_of_block HF.out.hm]
  have hSk : ∀ w' : World, w'.heap[w3.heap.size]? = wf.heap[w3.heap.size]? → w'.cell? ⟨w3.heap.size, 0, none⟩ = some (.int .i64 m.c) ∧ w'.cell? ⟨w3.heap.size, 1, none⟩ = some (.int .i64 m.d) ∧ w'.cell? ⟨w3.heap.size, 2, none⟩ = some (.int .i64 m.s) ∧ w'.cell? ⟨w3.heap.size, 3, none⟩ = some (.int .i64 m.e) ∧ w'.cell? ⟨w3.heap.size, 4, none⟩ = some (.int .i64 m.l) ∧ w'.cell? ⟨w3.heap.size, 5, none⟩ = some (.slice ta T.length tc) := fun w' hw => by
   refine ⟨?_, ?_, ?_, ?_, ?_, ?_⟩ <;> exact cell_keep (hcM _) hw
  have hSk2 : ∀ w' : World, w'.heap[w3.heap.size]? = wf.heap[w3.heap.size]? → w'.heap[br]? = wf.heap[br]? → (w'.cell? ⟨w3.heap.size, 0, none⟩ = some (.int .i64 m.c) ∧ w'.cell? ⟨w3.heap.size, 1, none⟩ = some (.int .i64 m.d) ∧ w'.cell? ⟨w3.heap.size, 2, none⟩ = some (.int .i64 m.s) ∧ w'.cell? ⟨w3.heap.size, 3, none⟩ = some (.int .i64 m.e) ∧ w'.cell? ⟨w3.heap.size, 4, none⟩ = some (.int .i64 m.l) ∧ w'.cell? ⟨w3.heap.size, 5, none⟩ = some (.slice ta T.length tc)) ∧ w'.cell? ⟨br, orr, none⟩ = some (.int .i64 (pi : Int)) ∧ w'.cell? ⟨br, orr + 1, none⟩ = some (.int .i64 (pd : Int)) := fun w' h1 h2 => ⟨hSk w' h1, cell_keep hcr0 h2, cell_keep hcr1 h2⟩
  refine wp_region_noPanic ?_
  refine wp_region_held_drew (S := fun w' => (w'.cell? ⟨w3.heap.size, 0, none⟩ = some (.int .i64 m.c) ∧ w'.cell? ⟨w3.heap.size, 1, none⟩ = some (.int .i64 m.d) ∧ w'.cell? ⟨w3.heap.size, 2, none⟩ = some (.int .i64 m.s) ∧ w'.cell? ⟨w3.heap.size, 3, none⟩ = some (.int .i64 m.e) ∧ w'.cell? ⟨w3.heap.size, 4, none⟩ = some (.int .i64 m.l) ∧ w'.cell? ⟨w3.heap.size, 5, none⟩ = some (.slice ta T.length tc)) ∧ w'.cell? ⟨br, orr, none⟩ = some (.int .i64 (pi : Int)) ∧ w'.cell? ⟨br, orr + 1, none⟩ = some (.int .i64 (pd : Int))) (by kernel_rfl) (hSk2 wf.drew rfl rfl) (fun hHeld => ?_)
  (refine wpAnyH_take (i := 0) (v := .agg #[.int .i64 m.c, .int .i64 m.d, .int .i64 m.s, .int .i64 m.e, .int .i64 m.l, .slice ta T.length tc]) rfl (by kernel_rfl) (by kernel_rfl) (by kernel_rfl) (fun _ _ _ h => h) (Or.inl ⟨by kernel_rfl, fun w hSw => by (try dsimp only at hSw); go_split_ands; go_simp⟩) (by assumption) ?_; simp only [Act.put, List.setIfInBounds_toArray, List.set_cons_zero, List.set_cons_succ])
  (refine wpAnyH_take (i := 1) (v := .slice ca cuts.length cc) rfl (by kernel_rfl) (by kernel_rfl) (by kernel_rfl) (fun _ _ _ h => h) (Or.inl ⟨by kernel_rfl, fun w hSw => by (try dsimp only at hSw); go_split_ands; go_simp⟩) (by assumption) ?_; simp only [Act.put, List.setIfInBounds_toArray, List.set_cons_zero, List.set_cons_succ])
  (refine wpAnyH_take (i := 2) (v := .slice (some ⟨br, orr, none⟩) 2 qc) rfl (by kernel_rfl) (by kernel_rfl) (by kernel_rfl) (fun _ _ _ h => h) (Or.inl ⟨by kernel_rfl, fun w hSw => by (try dsimp only at hSw); go_split_ands; go_simp⟩) (by assumption) ?_; simp only [Act.put, List.setIfInBounds_toArray, List.set_cons_zero, List.set_cons_succ])
  (refine wpAnyH_take (i := 3) (v := .pointer (some ⟨br, orr, none⟩)) rfl (by kernel_rfl) (by kernel_rfl) (by kernel_rfl) (fun _ _ _ h => h) (Or.inl ⟨by kernel_rfl, fun w hSw => by (try dsimp only at hSw); go_split_ands; go_simp⟩) (by assumption) ?_; simp only [Act.put, List.setIfInBounds_toArray, List.set_cons_zero, List.set_cons_succ])
  (refine wpAnyH_take (i := 4) (v := .int .i64 (pi : Int)) rfl (by kernel_rfl) (by kernel_rfl) (by kernel_rfl) (fun _ _ _ h => h) (Or.inl ⟨by kernel_rfl, fun w hSw => by (try dsimp only at hSw); go_split_ands; go_simp⟩) (by assumption) ?_; simp only [Act.put, List.setIfInBounds_toArray, List.set_cons_zero, List.set_cons_succ])
  (refine wpAnyH_take (i := 5) (v := .slice (some ⟨br, orr, none⟩) 2 qc) rfl (by kernel_rfl) (by kernel_rfl) (by kernel_rfl) (fun _ _ _ h => h) (Or.inl ⟨by kernel_rfl, fun w hSw => by (try dsimp only at hSw); go_split_ands; go_simp⟩) (by assumption) ?_; simp only [Act.put, List.setIfInBounds_toArray, List.set_cons_zero, List.set_cons_succ])
  (refine wpAnyH_take (i := 6) (v := .pointer (some ⟨br, orr + 1, none⟩)) rfl (by kernel_rfl) (by kernel_rfl) (by kernel_rfl) (fun _ _ _ h => h) (Or.inl ⟨by kernel_rfl, fun w hSw => by (try dsimp only at hSw); go_split_ands; go_simp⟩) (by assumption) ?_; simp only [Act.put, List.setIfInBounds_toArray, List.set_cons_zero, List.set_cons_succ])
  (refine wpAnyH_take (i := 7) (v := .int .i64 (pd : Int)) rfl (by kernel_rfl) (by kernel_rfl) (by kernel_rfl) (fun _ _ _ h => h) (Or.inl ⟨by kernel_rfl, fun w hSw => by (try dsimp only at hSw); go_split_ands; go_simp⟩) (by assumption) ?_; simp only [Act.put, List.setIfInBounds_toArray, List.set_cons_zero, List.set_cons_succ])
  have hbD : Below wf.heap.size wf wf.drew := (Below.refl _ _).drew
  have hcRz : ∀ o, wf.cell? ⟨W.heap.size, o, none⟩ = (#[.int .i64 0, .int .i64 0, .int .i64 0, .int .i64 0, .int .i64 0, .slice none 0 0] : Array Value)[o]? := fun o => by rw [cell_of_block HF.out.hr]
  have hfRz := fun o => frozen_of_block HF.out.hr o
  have hdone := putS_facts HF.out.src HF.out.only HF.out.hr (by omega) (Nat.le_refl _) (by omega) (.int .i64 m.c) (.int .i64 m.d) (.int .i64 m.s) (.int .i64 m.e) (.int .i64 m.l) (.slice ta T.length tc)
  obtain ⟨wz, hwz⟩ : ∃ wz, wz = putS wf W.heap.size (.int .i64 m.c) (.int .i64 m.d) (.int .i64 m.s) (.int .i64 m.e) (.int .i64 m.l) (.slice ta T.length tc) := ⟨_, rfl⟩
  rw [← hwz] at hdone
  obtain ⟨hd1, hd2, hd3, hd4⟩ := hdone
  have hFz : V2 (fun b => W.heap.size < b) wz (.slice ta T.length tc) T := V2.mono (S := fun b => W.heap.size < b ∧ b ≠ w3.heap.size) HF.out.tab (fun b hb _ => hb.1) (fun b hb _ => hd4 b (by have := hb.1; omega))
  have hcz : V2 (fun b => W.heap.size < b) wz (.slice ca cuts.length cc) cuts := V2.mono (S := fun b => W.heap.size < b ∧ b ≠ w3.heap.size) HF.out.cut (fun b hb _ => hb.1) (fun b hb _ => hd4 b (by have := hb.1; omega))
  have hmz : wz.heap[w3.heap.size]? = wf.heap[w3.heap.size]? := hd4 _ (by omega)
  have hz0 : wz.cell? ⟨W.heap.size, 0, none⟩ = some (.int .i64 m.c) := by rw [cell_of_block hd3]; rfl
  have hz1 : wz.cell? ⟨W.heap.size, 1, none⟩ = some (.int .i64 m.d) := by rw [cell_of_block hd3]; rfl
  have hz2 : wz.cell? ⟨W.heap.size, 2, none⟩ = some (.int .i64 m.s) := by rw [cell_of_block hd3]; rfl
  have hz3 : wz.cell? ⟨W.heap.size, 3, none⟩ = some (.int .i64 m.e) := by rw [cell_of_block hd3]; rfl
  have hz4 : wz.cell? ⟨W.heap.size, 4, none⟩ = some (.int .i64 m.l) := by rw [cell_of_block hd3]; rfl
  have hz5 : wz.cell? ⟨W.heap.size, 5, none⟩ = some (.slice ta T.length tc) := by rw [cell_of_block hd3]; rfl
  have HZ := Lib.hid (And.intro hd1 (And.intro hd2 (And.intro hFz hcz))); clear hd1 hd2 hFz hcz hd3
  unfold putS putR at hwz
  (refine wpAnyH_ready (rs := [8]) (by kernel_rfl) (by simp) (AllReadyH.cons rfl (fun K hK => ?_) AllReadyH.nil); go_simp)
  rw [← hwz]
  clear hwz
  have hbrl := lt_of_cell hcr0
  have hSz := hSk2 wz.drew hmz (hd4 br (by omega))
  have hbz : Below wz.heap.size wz wz.drew := (Below.refl _ _).drew
  (refine hK.out _ _ hSz (fun hHeld => ?_); clear hK K; (try simp only [Act.put, List.setIfInBounds_toArray, List.set_cons_zero, List.set_cons_succ]))
  (refine wpAnyH_ready (rs := [9]) (by kernel_rfl) (by simp) (AllReadyH.cons rfl (fun K hK => ?_) AllReadyH.nil); go_simp)
  (refine hK.out _ _ hSz (fun hHeld => ?_); clear hK K; (try simp only [Act.put, List.setIfInBounds_toArray, List.set_cons_zero, List.set_cons_succ]))
  (refine wpAnyH_ready (rs := [10]) (by kernel_rfl) (by simp) (AllReadyH.cons rfl (fun K hK => ?_) AllReadyH.nil); go_simp)
  (refine hK.out _ _ hSz (fun hHeld => ?_); clear hK K; (try simp only [Act.put, List.setIfInBounds_toArray, List.set_cons_zero, List.set_cons_succ]))
  (refine wpAnyH_ready (rs := [11]) (by kernel_rfl) (by simp) (AllReadyH.cons rfl (fun K hK => ?_) AllReadyH.nil); go_simp)
  (refine hK.out _ _ hSz (fun hHeld => ?_); clear hK K; (try simp only [Act.put, List.setIfInBounds_toArray, List.set_cons_zero, List.set_cons_succ]))
  refine wpAnyH_done (by kernel_rfl) (NoPanic.normal ?_) _
  go_wp2_with fail
  exact bodyPost_ret (v := .tuple #[.agg #[.int .i64 m.c, .int .i64 m.d, .int .i64 m.s, .int .i64 m.e, .int .i64 m.l, .slice ta T.length tc], .slice ca cuts.length cc, .int .i64 (pi : Int), .int .i64 (pd : Int)]) (by simp [results, Tryz.results114, go_sem, hz0, hz1, hz2, hz3, hz4, hz5]) rfl ⟨m, _, _, T, cuts, _, _, rfl, HZ.out.2.2.1.below hbz, HZ.out.2.2.2.below hbz, HZ.out.1.below hbz, HZ.out.2.1.then_below hbz⟩
 ·have hqd : (q == 0) = false := by simp [hq]
  clear hq
  have hcMy : ∀ o, w5.cell? ⟨w3.heap.size, o, none⟩ = (#[.int .i64 m.c, .int .i64 m.d, .int .i64 m.s, .int .i64 m.e, .int .i64 m.l, .slice ta T.length tc] : Array Value)[o]? := fun o => by rw [cell_of_block HD5.out.hm]
  go_wp2_with fail
  clear hcMy
  refine (l16Code_any m _ _ T cuts _ HD5.out.tab HD5.out.cut).mono ?_
  rintro e' wc ⟨rfl, hbc⟩
  have hzc := hbc.size
  have HC := Lib.hid (HD5.out.step (HD5.out.src.below hbc) (Only.of_below hbc) (by omega) (by omega)); clear hbc
  by_cases hp : partC m T cuts = 0
  rotate_left
  ·have hpd : (partC m T cuts == 0) = false := by simp [hp]
   clear hp
   generalize partC m T cuts = pc at *
   have hcMx : ∀ o, wc.cell? ⟨w3.heap.size, o, none⟩ = (#[.int .i64 m.c, .int .i64 m.d, .int .i64 m.s, .int .i64 m.e, .int .i64 m.l, .slice ta T.length tc] : Array Value)[o]? := fun o => by rw [cell_of_block HC.out.hm]
   go_wp2_with fail
   clear hcMx
   refine (l01Next_any B0 SB 12 _ HC.out.src).mono ?_
   rintro e' wp ⟨x1, rfl, ⟨hx10, hx11⟩, hsp, hop⟩
   have hzp := hop.size
   have HP := Lib.hid (HC.out.step hsp hop (by omega) (by omega)); clear hsp hop
   go_wp2_with fail
   refine (l01Next_any B0 SB _ _ HP.out.src).mono ?_
   rintro e' wq ⟨x2, rfl, _, hsq, hoq⟩
   have hzq := hoq.size
   have HQ := Lib.hid (HP.out.step hsq hoq (by omega) (by omega)); clear hsq hoq
   go_wp2_with fail
   refine (l01Next_any B0 SB 20 _ HQ.out.src).mono ?_
   rintro e' wr ⟨x3, rfl, _, hsr, hor⟩
   have hzr := hor.size
   have HR := Lib.hid (HQ.out.step hsr hor (by omega) (by omega)); clear hsr hor
   go_wp2_with fail
   have hcM : ∀ o, wr.cell? ⟨w3.heap.size, o, none⟩ = (#[.int .i64 m.c, .int .i64 m.d, .int .i64 m.s, .int .i64 m.e, .int .i64 m.l, .slice ta T.length tc] : Array Value)[o]? := fun o => by rw [cell_of_block HR.out.hm]
   have hSk : ∀ w' : World, w'.heap[w3.heap.size]? = wr.heap[w3.heap.size]? → w'.cell? ⟨w3.heap.size, 0, none⟩ = some (.int .i64 m.c) ∧ w'.cell? ⟨w3.heap.size, 1, none⟩ = some (.int .i64 m.d) ∧ w'.cell? ⟨w3.heap.size, 2, none⟩ = some (.int .i64 m.s) ∧ w'.cell? ⟨w3.heap.size, 3, none⟩ = some (.int .i64 m.e) ∧ w'.cell? ⟨w3.heap.size, 4, none⟩ = some (.int .i64 m.l) ∧ w'.cell? ⟨w3.heap.size, 5, none⟩ = some (.slice ta T.length tc) := fun w' hw => by
    refine ⟨?_, ?_, ?_, ?_, ?_, ?_⟩ <;> exact cell_keep (hcM _) hw
   generalize wrap64 (x2 - x3 / 19) = kq
   refine wp_region_noPanic ?_
   refine wp_region_held_drew (S := fun w' => w'.cell? ⟨w3.heap.size, 0, none⟩ = some (.int .i64 m.c) ∧ w'.cell? ⟨w3.heap.size, 1, none⟩ = some (.int .i64 m.d) ∧ w'.cell? ⟨w3.heap.size, 2, none⟩ = some (.int .i64 m.s) ∧ w'.cell? ⟨w3.heap.size, 3, none⟩ = some (.int .i64 m.e) ∧ w'.cell? ⟨w3.heap.size, 4, none⟩ = some (.int .i64 m.l) ∧ w'.cell? ⟨w3.heap.size, 5, none⟩ = some (.slice ta T.length tc)) (by kernel_rfl) (hSk wr.drew rfl) (fun hHeld => ?_)
   (refine wpAnyH_take (i := 0) (v := .agg #[.int .i64 m.c, .int .i64 m.d, .int .i64 m.s, .int .i64 m.e, .int .i64 m.l, .slice ta T.length tc]) rfl (by kernel_rfl) (by kernel_rfl) (by kernel_rfl) (fun _ _ _ h => h) (Or.inl ⟨by kernel_rfl, fun w hSw => by (try dsimp only at hSw); go_split_ands; go_simp⟩) (by assumption) ?_; simp only [Act.put, List.setIfInBounds_toArray, List.set_cons_zero, List.set_cons_succ])
   (refine wpAnyH_take (i := 1) (v := .slice ca cuts.length cc) rfl (by kernel_rfl) (by kernel_rfl) (by kernel_rfl) (fun _ _ _ h => h) (Or.inl ⟨by kernel_rfl, fun w hSw => by (try dsimp only at hSw); go_split_ands; go_simp⟩) (by assumption) ?_; simp only [Act.put, List.setIfInBounds_toArray, List.set_cons_zero, List.set_cons_succ])
   (refine wpAnyH_take (i := 2) (v := .int .i64 kq) rfl (by kernel_rfl) (by kernel_rfl) (by kernel_rfl) (fun _ _ _ h => h) (Or.inl ⟨by kernel_rfl, fun w hSw => by (try dsimp only at hSw); go_split_ands; go_simp⟩) (by assumption) ?_; simp only [Act.put, List.setIfInBounds_toArray, List.set_cons_zero, List.set_cons_succ])
   (refine wpAnyH_take (i := 3) (v := .pointer (some ⟨SB, 0, none⟩)) rfl (by kernel_rfl) (by kernel_rfl) (by kernel_rfl) (fun _ _ _ h => h) (Or.inl ⟨by kernel_rfl, fun w hSw => by (try dsimp only at hSw); go_split_ands; go_simp⟩) (by assumption) ?_; simp only [Act.put, List.setIfInBounds_toArray, List.set_cons_zero, List.set_cons_succ])
   (refine wpAnyH_take (i := 5) (v := .pointer (some ⟨SB, 0, none⟩)) rfl (by kernel_rfl) (by kernel_rfl) (by kernel_rfl) (fun _ _ _ h => h) (Or.inl ⟨by kernel_rfl, fun w hSw => by (try dsimp only at hSw); go_split_ands; go_simp⟩) (by assumption) ?_; simp only [Act.put, List.setIfInBounds_toArray, List.set_cons_zero, List.set_cons_succ])
   have hbD : Below wr.heap.size wr wr.drew := (Below.refl _ _).drew
   refine wpAnyH_ready (rs := [4]) (by kernel_rfl) (by simp) (AllReadyH.cons rfl (fun K hK => ?_) AllReadyH.nil)
   go_simp
   go_at_call 96
   refine (l01Next_any B0 SB 5 _ (HR.out.src.below hbD)).mono ?_
   rintro e' wa ⟨x, rfl, _, hsa, hoa⟩
   have hoa4 : Only SB wr wa := (Only.of_below hbD).trans hoa
   have hza := hoa4.size
   have HA9 := Lib.hid (HR.out.step hsa hoa4 (by omega) (by omega))
   have hMa : wa.heap[w3.heap.size]? = wr.heap[w3.heap.size]? := hoa4.block _ (lt_of_heap HR.out.hm) (fun e => by omega)
   clear hsa hoa hoa4 hbD
   dsimp only
   (refine hK.out _ _ (hSk wa hMa) (fun hHeld => ?_); clear hK K; (try simp only [Act.put, List.setIfInBounds_toArray, List.set_cons_zero, List.set_cons_succ]))
   refine wpAnyH_ready (rs := [6]) (by kernel_rfl) (by simp) (AllReadyH.cons rfl (fun K hK => ?_) AllReadyH.nil)
   go_simp
   go_at_call 96
   refine (l01Next_any B0 SB 20 _ HA9.out.src).mono ?_
   rintro e' wb ⟨y, rfl, _, hsb, hob⟩
   have hzb := hob.size
   have HB9 := Lib.hid (HA9.out.step hsb hob (by omega) (by omega))
   have hMb : wb.heap[w3.heap.size]? = wr.heap[w3.heap.size]? := (hob.block _ (lt_of_heap HA9.out.hm) (fun e => by omega)).trans hMa
   clear hsb hob hMa hcM
   dsimp only
   (refine hK.out _ _ (hSk wb hMb) (fun hHeld => ?_); clear hK K; (try simp only [Act.put, List.setIfInBounds_toArray, List.set_cons_zero, List.set_cons_succ]))
   (refine wpAnyH_take (i := 7) (v := .int .i64 (IntKind.i64.wrap (y.tdiv 19))) rfl (by kernel_rfl) (by kernel_rfl) (by kernel_rfl) (fun _ _ _ h => h) (Or.inl ⟨by kernel_rfl, fun w hSw => by (try dsimp only at hSw); go_split_ands; go_simp⟩) (by assumption) ?_; simp only [Act.put, List.setIfInBounds_toArray, List.set_cons_zero, List.set_cons_succ])
   (refine wpAnyH_take (i := 8) (v := .int .i64 (IntKind.i64.wrap (x - IntKind.i64.wrap (y.tdiv 19)))) rfl (by kernel_rfl) (by kernel_rfl) (by kernel_rfl) (fun _ _ _ h => h) (Or.inl ⟨by kernel_rfl, fun w hSw => by (try dsimp only at hSw); go_split_ands; go_simp⟩) (by assumption) ?_; simp only [Act.put, List.setIfInBounds_toArray, List.set_cons_zero, List.set_cons_succ])
   have hcRz : ∀ o, wb.cell? ⟨W.heap.size, o, none⟩ = (#[.int .i64 0, .int .i64 0, .int .i64 0, .int .i64 0, .int .i64 0, .slice none 0 0] : Array Value)[o]? := fun o => by rw [cell_of_block HB9.out.hr]
   have hfRz := fun o => frozen_of_block HB9.out.hr o
   have hdone := putS_facts HB9.out.src HB9.out.only HB9.out.hr (by omega) (Nat.le_refl _) (by omega) (.int .i64 m.c) (.int .i64 m.d) (.int .i64 m.s) (.int .i64 m.e) (.int .i64 m.l) (.slice ta T.length tc)
   obtain ⟨wz, hwz⟩ : ∃ wz, wz = putS wb W.heap.size (.int .i64 m.c) (.int .i64 m.d) (.int .i64 m.s) (.int .i64 m.e) (.int .i64 m.l) (.slice ta T.length tc) := ⟨_, rfl⟩
   rw [← hwz] at hdone
   obtain ⟨hd1, hd2, hd3, hd4⟩ := hdone
   have hFz : V2 (fun b => W.heap.size < b) wz (.slice ta T.length tc) T := V2.mono (S := fun b => W.heap.size < b ∧ b ≠ w3.heap.size) HB9.out.tab (fun b hb _ => hb.1) (fun b hb _ => hd4 b (by have := hb.1; omega))
   have hcz : V2 (fun b => W.heap.size < b) wz (.slice ca cuts.length cc) cuts := V2.mono (S := fun b => W.heap.size < b ∧ b ≠ w3.heap.size) HB9.out.cut (fun b hb _ => hb.1) (fun b hb _ => hd4 b (by have := hb.1; omega))
   have hmz : wz.heap[w3.heap.size]? = wb.heap[w3.heap.size]? := hd4 _ (by omega)
   have hz0 : wz.cell? ⟨W.heap.size, 0, none⟩ = some (.int .i64 m.c) := by rw [cell_of_block hd3]; rfl
   have hz1 : wz.cell? ⟨W.heap.size, 1, none⟩ = some (.int .i64 m.d) := by rw [cell_of_block hd3]; rfl
   have hz2 : wz.cell? ⟨W.heap.size, 2, none⟩ = some (.int .i64 m.s) := by rw [cell_of_block hd3]; rfl
   have hz3 : wz.cell? ⟨W.heap.size, 3, none⟩ = some (.int .i64 m.e) := by rw [cell_of_block hd3]; rfl
   have hz4 : wz.cell? ⟨W.heap.size, 4, none⟩ = some (.int .i64 m.l) := by rw [cell_of_block hd3]; rfl
   have hz5 : wz.cell? ⟨W.heap.size, 5, none⟩ = some (.slice ta T.length tc) := by rw [cell_of_block hd3]; rfl
   have HZ := Lib.hid (And.intro hd1 (And.intro hd2 (And.intro hFz hcz))); clear hd1 hd2 hFz hcz hd3
   unfold putS putR at hwz
   (refine wpAnyH_ready (rs := [9]) (by kernel_rfl) (by simp) (AllReadyH.cons rfl (fun K hK => ?_) AllReadyH.nil); go_simp)
   rw [← hwz]
   clear hwz
   have hSz := hSk wz (hmz.trans hMb)
   (refine hK.out _ _ hSz (fun hHeld => ?_); clear hK K; (try simp only [Act.put, List.setIfInBounds_toArray, List.set_cons_zero, List.set_cons_succ]))
   (refine wpAnyH_ready (rs := [10]) (by kernel_rfl) (by simp) (AllReadyH.cons rfl (fun K hK => ?_) AllReadyH.nil); go_simp)
   (refine hK.out _ _ hSz (fun hHeld => ?_); clear hK K; (try simp only [Act.put, List.setIfInBounds_toArray, List.set_cons_zero, List.set_cons_succ]))
   (refine wpAnyH_ready (rs := [11]) (by kernel_rfl) (by simp) (AllReadyH.cons rfl (fun K hK => ?_) AllReadyH.nil); go_simp)
   (refine hK.out _ _ hSz (fun hHeld => ?_); clear hK K; (try simp only [Act.put, List.setIfInBounds_toArray, List.set_cons_zero, List.set_cons_succ]))
   (refine wpAnyH_ready (rs := [12]) (by kernel_rfl) (by simp) (AllReadyH.cons rfl (fun K hK => ?_) AllReadyH.nil); go_simp)
   (refine hK.out _ _ hSz (fun hHeld => ?_); clear hK K; (try simp only [Act.put, List.setIfInBounds_toArray, List.set_cons_zero, List.set_cons_succ]))
   refine wpAnyH_done (by kernel_rfl) (NoPanic.normal ?_) _
   go_wp2_with fail
   exact bodyPost_ret (v := .tuple #[.agg #[.int .i64 m.c, .int .i64 m.d, .int .i64 m.s, .int .i64 m.e, .int .i64 m.l, .slice ta T.length tc], .slice ca cuts.length cc, .int .i64 kq, .int .i64 (IntKind.i64.wrap (x - IntKind.i64.wrap (y.tdiv 19)))]) (by simp [results, Tryz.results114, go_sem, hz0, hz1, hz2, hz3, hz4, hz5]) rfl ⟨m, _, _, T, cuts, _, _, rfl, HZ.out.2.2.1, HZ.out.2.2.2, HZ.out.1, HZ.out.2.1⟩
  have hpd : (partC m T cuts == 0) = true := by simp [hp]
  have HPC := Lib.hid hp
  obtain ⟨pc, hpc⟩ : ∃ x, partC m T cuts = x := ⟨_, rfl⟩
  rw [hpc] at hpd ⊢
  clear hp hpc
  go_wp2_with fail
  refine (l01Next_any B0 SB 3 _ HC.out.src).mono ?_
  rintro e' wd ⟨xd, rfl, _, hsd, hod⟩
  have hzd := hod.size
  have HD := Lib.hid (HC.out.step hsd hod (by omega) (by omega)); clear hsd hod
  by_cases hxd : 0 < xd
  rotate_left
  ·have hxdd : decide (0 < xd) = false := decide_eq_false hxd
   clear hxd
   have hcMx : ∀ o, wd.cell? ⟨w3.heap.size, o, none⟩ = (#[.int .i64 m.c, .int .i64 m.d, .int .i64 m.s, .int .i64 m.e, .int .i64 m.l, .slice ta T.length tc] : Array Value)[o]? := fun o => by rw [cell_of_block HD.out.hm]
   go_wp2_with fail
   clear hcMx
   refine (l01Next_any B0 SB 12 _ HD.out.src).mono ?_
   rintro e' wp ⟨x1, rfl, ⟨hx10, hx11⟩, hsp, hop⟩
   have hzp := hop.size
   have HP := Lib.hid (HD.out.step hsp hop (by omega) (by omega)); clear hsp hop
   go_wp2_with fail
   refine (l01Next_any B0 SB _ _ HP.out.src).mono ?_
   rintro e' wq ⟨x2, rfl, _, hsq, hoq⟩
   have hzq := hoq.size
   have HQ := Lib.hid (HP.out.step hsq hoq (by omega) (by omega)); clear hsq hoq
   go_wp2_with fail
   refine (l01Next_any B0 SB 20 _ HQ.out.src).mono ?_
   rintro e' wr ⟨x3, rfl, _, hsr, hor⟩
   have hzr := hor.size
   have HR := Lib.hid (HQ.out.step hsr hor (by omega) (by omega)); clear hsr hor
   go_wp2_with fail
   have hcM : ∀ o, wr.cell? ⟨w3.heap.size, o, none⟩ = (#[.int .i64 m.c, .int .i64 m.d, .int .i64 m.s, .int .i64 m.e, .int .i64 m.l, .slice ta T.length tc] : Array Value)[o]? := fun o => by rw [cell_of_block HR.out.hm]
   have hSk : ∀ w' : World, w'.heap[w3.heap.size]? = wr.heap[w3.heap.size]? → w'.cell? ⟨w3.heap.size, 0, none⟩ = some (.int .i64 m.c) ∧ w'.cell? ⟨w3.heap.size, 1, none⟩ = some (.int .i64 m.d) ∧ w'.cell? ⟨w3.heap.size, 2, none⟩ = some (.int .i64 m.s) ∧ w'.cell? ⟨w3.heap.size, 3, none⟩ = some (.int .i64 m.e) ∧ w'.cell? ⟨w3.heap.size, 4, none⟩ = some (.int .i64 m.l) ∧ w'.cell? ⟨w3.heap.size, 5, none⟩ = some (.slice ta T.length tc) := fun w' hw => by
    refine ⟨?_, ?_, ?_, ?_, ?_, ?_⟩ <;> exact cell_keep (hcM _) hw
   generalize wrap64 (x2 - x3 / 19) = kq
   refine wp_region_noPanic ?_
   refine wp_region_held_drew (S := fun w' => w'.cell? ⟨w3.heap.size, 0, none⟩ = some (.int .i64 m.c) ∧ w'.cell? ⟨w3.heap.size, 1, none⟩ = some (.int .i64 m.d) ∧ w'.cell? ⟨w3.heap.size, 2, none⟩ = some (.int .i64 m.s) ∧ w'.cell? ⟨w3.heap.size, 3, none⟩ = some (.int .i64 m.e) ∧ w'.cell? ⟨w3.heap.size, 4, none⟩ = some (.int .i64 m.l) ∧ w'.cell? ⟨w3.heap.size, 5, none⟩ = some (.slice ta T.length tc)) (by kernel_rfl) (hSk wr.drew rfl) (fun hHeld => ?_)
   (refine wpAnyH_take (i := 0) (v := .agg #[.int .i64 m.c, .int .i64 m.d, .int .i64 m.s, .int .i64 m.e, .int .i64 m.l, .slice ta T.length tc]) rfl (by kernel_rfl) (by kernel_rfl) (by kernel_rfl) (fun _ _ _ h => h) (Or.inl ⟨by kernel_rfl, fun w hSw => by (try dsimp only at hSw); go_split_ands; go_simp⟩) (by assumption) ?_; simp only [Act.put, List.setIfInBounds_toArray, List.set_cons_zero, List.set_cons_succ])
   (refine wpAnyH_take (i := 1) (v := .slice ca cuts.length cc) rfl (by kernel_rfl) (by kernel_rfl) (by kernel_rfl) (fun _ _ _ h => h) (Or.inl ⟨by kernel_rfl, fun w hSw => by (try dsimp only at hSw); go_split_ands; go_simp⟩) (by assumption) ?_; simp only [Act.put, List.setIfInBounds_toArray, List.set_cons_zero, List.set_cons_succ])
   (refine wpAnyH_take (i := 2) (v := .int .i64 kq) rfl (by kernel_rfl) (by kernel_rfl) (by kernel_rfl) (fun _ _ _ h => h) (Or.inl ⟨by kernel_rfl, fun w hSw => by (try dsimp only at hSw); go_split_ands; go_simp⟩) (by assumption) ?_; simp only [Act.put, List.setIfInBounds_toArray, List.set_cons_zero, List.set_cons_succ])
   (refine wpAnyH_take (i := 3) (v := .pointer (some ⟨SB, 0, none⟩)) rfl (by kernel_rfl) (by kernel_rfl) (by kernel_rfl) (fun _ _ _ h => h) (Or.inl ⟨by kernel_rfl, fun w hSw => by (try dsimp only at hSw); go_split_ands; go_simp⟩) (by assumption) ?_; simp only [Act.put, List.setIfInBounds_toArray, List.set_cons_zero, List.set_cons_succ])
   (refine wpAnyH_take (i := 5) (v := .pointer (some ⟨SB, 0, none⟩)) rfl (by kernel_rfl) (by kernel_rfl) (by kernel_rfl) (fun _ _ _ h => h) (Or.inl ⟨by kernel_rfl, fun w hSw => by (try dsimp only at hSw); go_split_ands; go_simp⟩) (by assumption) ?_; simp only [Act.put, List.setIfInBounds_toArray, List.set_cons_zero, List.set_cons_succ])
   have hbD : Below wr.heap.size wr wr.drew := (Below.refl _ _).drew
   refine wpAnyH_ready (rs := [4]) (by kernel_rfl) (by simp) (AllReadyH.cons rfl (fun K hK => ?_) AllReadyH.nil)
   go_simp
   go_at_call 96
   refine (l01Next_any B0 SB 5 _ (HR.out.src.below hbD)).mono ?_
   rintro e' wa ⟨x, rfl, _, hsa, hoa⟩
   have hoa4 : Only SB wr wa := (Only.of_below hbD).trans hoa
   have hza := hoa4.size
   have HA9 := Lib.hid (HR.out.step hsa hoa4 (by omega) (by omega))
   have hMa : wa.heap[w3.heap.size]? = wr.heap[w3.heap.size]? := hoa4.block _ (lt_of_heap HR.out.hm) (fun e => by omega)
   clear hsa hoa hoa4 hbD
   dsimp only
   (refine hK.out _ _ (hSk wa hMa) (fun hHeld => ?_); clear hK K; (try simp only [Act.put, List.setIfInBounds_toArray, List.set_cons_zero, List.set_cons_succ]))
   refine wpAnyH_ready (rs := [6]) (by kernel_rfl) (by simp) (AllReadyH.cons rfl (fun K hK => ?_) AllReadyH.nil)
   go_simp
   go_at_call 96
   refine (l01Next_any B0 SB 20 _ HA9.out.src).mono ?_
   rintro e' wb ⟨y, rfl, _, hsb, hob⟩
   have hzb := hob.size
   have HB9 := Lib.hid (HA9.out.step hsb hob (by omega) (by omega))
   have hMb : wb.heap[w3.heap.size]? = wr.heap[w3.heap.size]? := (hob.block _ (lt_of_heap HA9.out.hm) (fun e => by omega)).trans hMa
   clear hsb hob hMa hcM
   dsimp only
   (refine hK.out _ _ (hSk wb hMb) (fun hHeld => ?_); clear hK K; (try simp only [Act.put, List.setIfInBounds_toArray, List.set_cons_zero, List.set_cons_succ]))
   (refine wpAnyH_take (i := 7) (v := .int .i64 (IntKind.i64.wrap (y.tdiv 19))) rfl (by kernel_rfl) (by kernel_rfl) (by kernel_rfl) (fun _ _ _ h => h) (Or.inl ⟨by kernel_rfl, fun w hSw => by (try dsimp only at hSw); go_split_ands; go_simp⟩) (by assumption) ?_; simp only [Act.put, List.setIfInBounds_toArray, List.set_cons_zero, List.set_cons_succ])
   (refine wpAnyH_take (i := 8) (v := .int .i64 (IntKind.i64.wrap (x - IntKind.i64.wrap (y.tdiv 19)))) rfl (by kernel_rfl) (by kernel_rfl) (by kernel_rfl) (fun _ _ _ h => h) (Or.inl ⟨by kernel_rfl, fun w hSw => by (try dsimp only at hSw); go_split_ands; go_simp⟩) (by assumption) ?_; simp only [Act.put, List.setIfInBounds_toArray, List.set_cons_zero, List.set_cons_succ])
   have hcRz : ∀ o, wb.cell? ⟨W.heap.size, o, none⟩ = (#[.int .i64 0, .int .i64 0, .int .i64 0, .int .i64 0, .int .i64 0, .slice none 0 0] : Array Value)[o]? := fun o => by rw [cell_of_block HB9.out.hr]
   have hfRz := fun o => frozen_of_block HB9.out.hr o
   have hdone := putS_facts HB9.out.src HB9.out.only HB9.out.hr (by omega) (Nat.le_refl _) (by omega) (.int .i64 m.c) (.int .i64 m.d) (.int .i64 m.s) (.int .i64 m.e) (.int .i64 m.l) (.slice ta T.length tc)
   obtain ⟨wz, hwz⟩ : ∃ wz, wz = putS wb W.heap.size (.int .i64 m.c) (.int .i64 m.d) (.int .i64 m.s) (.int .i64 m.e) (.int .i64 m.l) (.slice ta T.length tc) := ⟨_, rfl⟩
   rw [← hwz] at hdone
   obtain ⟨hd1, hd2, hd3, hd4⟩ := hdone
   have hFz : V2 (fun b => W.heap.size < b) wz (.slice ta T.length tc) T := V2.mono (S := fun b => W.heap.size < b ∧ b ≠ w3.heap.size) HB9.out.tab (fun b hb _ => hb.1) (fun b hb _ => hd4 b (by have := hb.1; omega))
   have hcz : V2 (fun b => W.heap.size < b) wz (.slice ca cuts.length cc) cuts := V2.mono (S := fun b => W.heap.size < b ∧ b ≠ w3.heap.size) HB9.out.cut (fun b hb _ => hb.1) (fun b hb _ => hd4 b (by have := hb.1; omega))
   have hmz : wz.heap[w3.heap.size]? = wb.heap[w3.heap.size]? := hd4 _ (by omega)
   have hz0 : wz.cell? ⟨W.heap.size, 0, none⟩ = some (.int .i64 m.c) := by rw [cell_of_block hd3]; rfl
   have hz1 : wz.cell? ⟨W.heap.size, 1, none⟩ = some (.int .i64 m.d) := by rw [cell_of_block hd3]; rfl
   have hz2 : wz.cell? ⟨W.heap.size, 2, none⟩ = some (.int .i64 m.s) := by rw [cell_of_block hd3]; rfl
   have hz3 : wz.cell? ⟨W.heap.size, 3, none⟩ = some (.int .i64 m.e) := by rw [cell_of_block hd3]; rfl
   have hz4 : wz.cell? ⟨W.heap.size, 4, none⟩ = some (.int .i64 m.l) := by rw [cell_of_block hd3]; rfl
   have hz5 : wz.cell? ⟨W.heap.size, 5, none⟩ = some (.slice ta T.length tc) := by rw [cell_of_block hd3]; rfl
   have HZ := Lib.hid (And.intro hd1 (And.intro hd2 (And.intro hFz hcz))); clear hd1 hd2 hFz hcz hd3
   unfold putS putR at hwz
   (refine wpAnyH_ready (rs := [9]) (by kernel_rfl) (by simp) (AllReadyH.cons rfl (fun K hK => ?_) AllReadyH.nil); go_simp)
   rw [← hwz]
   clear hwz
   have hSz := hSk wz (hmz.trans hMb)
   (refine hK.out _ _ hSz (fun hHeld => ?_); clear hK K; (try simp only [Act.put, List.setIfInBounds_toArray, List.set_cons_zero, List.set_cons_succ]))
   (refine wpAnyH_ready (rs := [10]) (by kernel_rfl) (by simp) (AllReadyH.cons rfl (fun K hK => ?_) AllReadyH.nil); go_simp)
   (refine hK.out _ _ hSz (fun hHeld => ?_); clear hK K; (try simp only [Act.put, List.setIfInBounds_toArray, List.set_cons_zero, List.set_cons_succ]))
   (refine wpAnyH_ready (rs := [11]) (by kernel_rfl) (by simp) (AllReadyH.cons rfl (fun K hK => ?_) AllReadyH.nil); go_simp)
   (refine hK.out _ _ hSz (fun hHeld => ?_); clear hK K; (try simp only [Act.put, List.setIfInBounds_toArray, List.set_cons_zero, List.set_cons_succ]))
   (refine wpAnyH_ready (rs := [12]) (by kernel_rfl) (by simp) (AllReadyH.cons rfl (fun K hK => ?_) AllReadyH.nil); go_simp)
   (refine hK.out _ _ hSz (fun hHeld => ?_); clear hK K; (try simp only [Act.put, List.setIfInBounds_toArray, List.set_cons_zero, List.set_cons_succ]))
   refine wpAnyH_done (by kernel_rfl) (NoPanic.normal ?_) _
   go_wp2_with fail
   exact bodyPost_ret (v := .tuple #[.agg #[.int .i64 m.c, .int .i64 m.d, .int .i64 m.s, .int .i64 m.e, .int .i64 m.l, .slice ta T.length tc], .slice ca cuts.length cc, .int .i64 kq, .int .i64 (IntKind.i64.wrap (x - IntKind.i64.wrap (y.tdiv 19)))]) (by simp [results, Tryz.results114, go_sem, hz0, hz1, hz2, hz3, hz4, hz5]) rfl ⟨m, _, _, T, cuts, _, _, rfl, HZ.out.2.2.1, HZ.out.2.2.2, HZ.out.1, HZ.out.2.1⟩
  have hxdd : decide (0 < xd) = true := decide_eq_true hxd
  clear hxd
  have hcMd : ∀ o, wd.cell? ⟨w3.heap.size, o, none⟩ = (#[.int .i64 m.c, .int .i64 m.d, .int .i64 m.s, .int .i64 m.e, .int .i64 m.l, .slice ta T.length tc] : Array Value)[o]? := fun o => by rw [cell_of_block HD.out.hm]
  go_wp2_with fail
  have hff := fits_of HPC.out
  have hmc : ((m.c.toNat : Nat) : Int) = m.c := by have := Mk.ok_iff.1 hff.ok; omega
  refine (l15False_any m _ _ T cuts m.c.toNat _ hff hmc HD.out.tab HD.out.cut).mono ?_
  rintro e' we ⟨lv, rfl, hL, hbe⟩
  obtain ⟨la, lc, rfl, hlm⟩ := hL.v2.form
  have hze := hbe.size
  have HE := Lib.hid (HD.out.step (HD.out.src.below hbe) (Only.of_below hbe) (by omega) (by omega)); clear hbe hcMd
  have hget := fun k => falseL_get (n := m.c.toNat) (t := T) (cuts := cuts) (k := k)
  obtain ⟨L, hLe⟩ : ∃ L, falseL m.c.toNat T cuts = L := ⟨_, rfl⟩
  rw [hLe] at hL hlm ⊢
  simp only [hLe] at hget
  have HL := Lib.hid (And.intro hL.v2 hget); clear hL hget hff hmc hLe
  by_cases hl0 : L.length = 0
  ·have hl0d : decide (0 < L.length) = false := decide_eq_false (by omega)
   have hl0e : decide ((0 : Int) < (L.length : Int)) = false := decide_eq_false (by omega)
   clear hlm
   obtain ⟨LN, hLN⟩ : ∃ x, L.length = x := ⟨_, rfl⟩
   rw [hLN] at hl0 hl0d hl0e ⊢
   subst hl0
   clear hLN
   have hcMx : ∀ o, we.cell? ⟨w3.heap.size, o, none⟩ = (#[.int .i64 m.c, .int .i64 m.d, .int .i64 m.s, .int .i64 m.e, .int .i64 m.l, .slice ta T.length tc] : Array Value)[o]? := fun o => by rw [cell_of_block HE.out.hm]
   go_wp2_with fail
   clear hcMx
   refine (l01Next_any B0 SB 12 _ HE.out.src).mono ?_
   rintro e' wp ⟨x1, rfl, ⟨hx10, hx11⟩, hsp, hop⟩
   have hzp := hop.size
   have HP := Lib.hid (HE.out.step hsp hop (by omega) (by omega)); clear hsp hop
   go_wp2_with fail
   refine (l01Next_any B0 SB _ _ HP.out.src).mono ?_
   rintro e' wq ⟨x2, rfl, _, hsq, hoq⟩
   have hzq := hoq.size
   have HQ := Lib.hid (HP.out.step hsq hoq (by omega) (by omega)); clear hsq hoq
   go_wp2_with fail
   refine (l01Next_any B0 SB 20 _ HQ.out.src).mono ?_
   rintro e' wr ⟨x3, rfl, _, hsr, hor⟩
   have hzr := hor.size
   have HR := Lib.hid (HQ.out.step hsr hor (by omega) (by omega)); clear hsr hor
   go_wp2_with fail
   have hcM : ∀ o, wr.cell? ⟨w3.heap.size, o, none⟩ = (#[.int .i64 m.c, .int .i64 m.d, .int .i64 m.s, .int .i64 m.e, .int .i64 m.l, .slice ta T.length tc] : Array Value)[o]? := fun o => by rw [cell_of_block HR.out.hm]
   have hSk : ∀ w' : World, w'.heap[w3.heap.size]? = wr.heap[w3.heap.size]? → w'.cell? ⟨w3.heap.size, 0, none⟩ = some (.int .i64 m.c) ∧ w'.cell? ⟨w3.heap.size, 1, none⟩ = some (.int .i64 m.d) ∧ w'.cell? ⟨w3.heap.size, 2, none⟩ = some (.int .i64 m.s) ∧ w'.cell? ⟨w3.heap.size, 3, none⟩ = some (.int .i64 m.e) ∧ w'.cell? ⟨w3.heap.size, 4, none⟩ = some (.int .i64 m.l) ∧ w'.cell? ⟨w3.heap.size, 5, none⟩ = some (.slice ta T.length tc) := fun w' hw => by
    refine ⟨?_, ?_, ?_, ?_, ?_, ?_⟩ <;> exact cell_keep (hcM _) hw
   generalize wrap64 (x2 - x3 / 19) = kq
   refine wp_region_noPanic ?_
   refine wp_region_held_drew (S := fun w' => w'.cell? ⟨w3.heap.size, 0, none⟩ = some (.int .i64 m.c) ∧ w'.cell? ⟨w3.heap.size, 1, none⟩ = some (.int .i64 m.d) ∧ w'.cell? ⟨w3.heap.size, 2, none⟩ = some (.int .i64 m.s) ∧ w'.cell? ⟨w3.heap.size, 3, none⟩ = some (.int .i64 m.e) ∧ w'.cell? ⟨w3.heap.size, 4, none⟩ = some (.int .i64 m.l) ∧ w'.cell? ⟨w3.heap.size, 5, none⟩ = some (.slice ta T.length tc)) (by kernel_rfl) (hSk wr.drew rfl) (fun hHeld => ?_)
   (refine wpAnyH_take (i := 0) (v := .agg #[.int .i64 m.c, .int .i64 m.d, .int .i64 m.s, .int .i64 m.e, .int .i64 m.l, .slice ta T.length tc]) rfl (by kernel_rfl) (by kernel_rfl) (by kernel_rfl) (fun _ _ _ h => h) (Or.inl ⟨by kernel_rfl, fun w hSw => by (try dsimp only at hSw); go_split_ands; go_simp⟩) (by assumption) ?_; simp only [Act.put, List.setIfInBounds_toArray, List.set_cons_zero, List.set_cons_succ])
   (refine wpAnyH_take (i := 1) (v := .slice ca cuts.length cc) rfl (by kernel_rfl) (by kernel_rfl) (by kernel_rfl) (fun _ _ _ h => h) (Or.inl ⟨by kernel_rfl, fun w hSw => by (try dsimp only at hSw); go_split_ands; go_simp⟩) (by assumption) ?_; simp only [Act.put, List.setIfInBounds_toArray, List.set_cons_zero, List.set_cons_succ])
   (refine wpAnyH_take (i := 2) (v := .int .i64 kq) rfl (by kernel_rfl) (by kernel_rfl) (by kernel_rfl) (fun _ _ _ h => h) (Or.inl ⟨by kernel_rfl, fun w hSw => by (try dsimp only at hSw); go_split_ands; go_simp⟩) (by assumption) ?_; simp only [Act.put, List.setIfInBounds_toArray, List.set_cons_zero, List.set_cons_succ])
   (refine wpAnyH_take (i := 3) (v := .pointer (some ⟨SB, 0, none⟩)) rfl (by kernel_rfl) (by kernel_rfl) (by kernel_rfl) (fun _ _ _ h => h) (Or.inl ⟨by kernel_rfl, fun w hSw => by (try dsimp only at hSw); go_split_ands; go_simp⟩) (by assumption) ?_; simp only [Act.put, List.setIfInBounds_toArray, List.set_cons_zero, List.set_cons_succ])
   (refine wpAnyH_take (i := 5) (v := .pointer (some ⟨SB, 0, none⟩)) rfl (by kernel_rfl) (by kernel_rfl) (by kernel_rfl) (fun _ _ _ h => h) (Or.inl ⟨by kernel_rfl, fun w hSw => by (try dsimp only at hSw); go_split_ands; go_simp⟩) (by assumption) ?_; simp only [Act.put, List.setIfInBounds_toArray, List.set_cons_zero, List.set_cons_succ])
   have hbD : Below wr.heap.size wr wr.drew := (Below.refl _ _).drew
   refine wpAnyH_ready (rs := [4]) (by kernel_rfl) (by simp) (AllReadyH.cons rfl (fun K hK => ?_) AllReadyH.nil)
   go_simp
   go_at_call 96
   refine (l01Next_any B0 SB 5 _ (HR.out.src.below hbD)).mono ?_
   rintro e' wa ⟨x, rfl, _, hsa, hoa⟩
   have hoa4 : Only SB wr wa := (Only.of_below hbD).trans hoa
   have hza := hoa4.size
   have HA9 := Lib.hid (HR.out.step hsa hoa4 (by omega) (by omega))
   have hMa : wa.heap[w3.heap.size]? = wr.heap[w3.heap.size]? := hoa4.block _ (lt_of_heap HR.out.hm) (fun e => by omega)
   clear hsa hoa hoa4 hbD
   dsimp only
   (refine hK.out _ _ (hSk wa hMa) (fun hHeld => ?_); clear hK K; (try simp only [Act.put, List.setIfInBounds_toArray, List.set_cons_zero, List.set_cons_succ]))
   refine wpAnyH_ready (rs := [6]) (by kernel_rfl) (by simp) (AllReadyH.cons rfl (fun K hK => ?_) AllReadyH.nil)
   go_simp
   go_at_call 96
   refine (l01Next_any B0 SB 20 _ HA9.out.src).mono ?_
   rintro e' wb ⟨y, rfl, _, hsb, hob⟩
   have hzb := hob.size
   have HB9 := Lib.hid (HA9.out.step hsb hob (by omega) (by omega))
   have hMb : wb.heap[w3.heap.size]? = wr.heap[w3.heap.size]? := (hob.block _ (lt_of_heap HA9.out.hm) (fun e => by omega)).trans hMa
   clear hsb hob hMa hcM
   dsimp only
   (refine hK.out _ _ (hSk wb hMb) (fun hHeld => ?_); clear hK K; (try simp only [Act.put, List.setIfInBounds_toArray, List.set_cons_zero, List.set_cons_succ]))
   (refine wpAnyH_take (i := 7) (v := .int .i64 (IntKind.i64.wrap (y.tdiv 19))) rfl (by kernel_rfl) (by kernel_rfl) (by kernel_rfl) (fun _ _ _ h => h) (Or.inl ⟨by kernel_rfl, fun w hSw => by (try dsimp only at hSw); go_split_ands; go_simp⟩) (by assumption) ?_; simp only [Act.put, List.setIfInBounds_toArray, List.set_cons_zero, List.set_cons_succ])
   (refine wpAnyH_take (i := 8) (v := .int .i64 (IntKind.i64.wrap (x - IntKind.i64.wrap (y.tdiv 19)))) rfl (by kernel_rfl) (by kernel_rfl) (by kernel_rfl) (fun _ _ _ h => h) (Or.inl ⟨by kernel_rfl, fun w hSw => by (try dsimp only at hSw); go_split_ands; go_simp⟩) (by assumption) ?_; simp only [Act.put, List.setIfInBounds_toArray, List.set_cons_zero, List.set_cons_succ])
   have hcRz : ∀ o, wb.cell? ⟨W.heap.size, o, none⟩ = (#[.int .i64 0, .int .i64 0, .int .i64 0, .int .i64 0, .int .i64 0, .slice none 0 0] : Array Value)[o]? := fun o => by rw [cell_of_block HB9.out.hr]
   have hfRz := fun o => frozen_of_block HB9.out.hr o
   have hdone := putS_facts HB9.out.src HB9.out.only HB9.out.hr (by omega) (Nat.le_refl _) (by omega) (.int .i64 m.c) (.int .i64 m.d) (.int .i64 m.s) (.int .i64 m.e) (.int .i64 m.l) (.slice ta T.length tc)
   obtain ⟨wz, hwz⟩ : ∃ wz, wz = putS wb W.heap.size (.int .i64 m.c) (.int .i64 m.d) (.int .i64 m.s) (.int .i64 m.e) (.int .i64 m.l) (.slice ta T.length tc) := ⟨_, rfl⟩
   rw [← hwz] at hdone
   obtain ⟨hd1, hd2, hd3, hd4⟩ := hdone
   have hFz : V2 (fun b => W.heap.size < b) wz (.slice ta T.length tc) T := V2.mono (S := fun b => W.heap.size < b ∧ b ≠ w3.heap.size) HB9.out.tab (fun b hb _ => hb.1) (fun b hb _ => hd4 b (by have := hb.1; omega))
   have hcz : V2 (fun b => W.heap.size < b) wz (.slice ca cuts.length cc) cuts := V2.mono (S := fun b => W.heap.size < b ∧ b ≠ w3.heap.size) HB9.out.cut (fun b hb _ => hb.1) (fun b hb _ => hd4 b (by have := hb.1; omega))
   have hmz : wz.heap[w3.heap.size]? = wb.heap[w3.heap.size]? := hd4 _ (by omega)
   have hz0 : wz.cell? ⟨W.heap.size, 0, none⟩ = some (.int .i64 m.c) := by rw [cell_of_block hd3]; rfl
   have hz1 : wz.cell? ⟨W.heap.size, 1, none⟩ = some (.int .i64 m.d) := by rw [cell_of_block hd3]; rfl
   have hz2 : wz.cell? ⟨W.heap.size, 2, none⟩ = some (.int .i64 m.s) := by rw [cell_of_block hd3]; rfl
   have hz3 : wz.cell? ⟨W.heap.size, 3, none⟩ = some (.int .i64 m.e) := by rw [cell_of_block hd3]; rfl
   have hz4 : wz.cell? ⟨W.heap.size, 4, none⟩ = some (.int .i64 m.l) := by rw [cell_of_block hd3]; rfl
   have hz5 : wz.cell? ⟨W.heap.size, 5, none⟩ = some (.slice ta T.length tc) := by rw [cell_of_block hd3]; rfl
   have HZ := Lib.hid (And.intro hd1 (And.intro hd2 (And.intro hFz hcz))); clear hd1 hd2 hFz hcz hd3
   unfold putS putR at hwz
   (refine wpAnyH_ready (rs := [9]) (by kernel_rfl) (by simp) (AllReadyH.cons rfl (fun K hK => ?_) AllReadyH.nil); go_simp)
   rw [← hwz]
   clear hwz
   have hSz := hSk wz (hmz.trans hMb)
   (refine hK.out _ _ hSz (fun hHeld => ?_); clear hK K; (try simp only [Act.put, List.setIfInBounds_toArray, List.set_cons_zero, List.set_cons_succ]))
   (refine wpAnyH_ready (rs := [10]) (by kernel_rfl) (by simp) (AllReadyH.cons rfl (fun K hK => ?_) AllReadyH.nil); go_simp)
   (refine hK.out _ _ hSz (fun hHeld => ?_); clear hK K; (try simp only [Act.put, List.setIfInBounds_toArray, List.set_cons_zero, List.set_cons_succ]))
   (refine wpAnyH_ready (rs := [11]) (by kernel_rfl) (by simp) (AllReadyH.cons rfl (fun K hK => ?_) AllReadyH.nil); go_simp)
   (refine hK.out _ _ hSz (fun hHeld => ?_); clear hK K; (try simp only [Act.put, List.setIfInBounds_toArray, List.set_cons_zero, List.set_cons_succ]))
   (refine wpAnyH_ready (rs := [12]) (by kernel_rfl) (by simp) (AllReadyH.cons rfl (fun K hK => ?_) AllReadyH.nil); go_simp)
   (refine hK.out _ _ hSz (fun hHeld => ?_); clear hK K; (try simp only [Act.put, List.setIfInBounds_toArray, List.set_cons_zero, List.set_cons_succ]))
   refine wpAnyH_done (by kernel_rfl) (NoPanic.normal ?_) _
   go_wp2_with fail
   exact bodyPost_ret (v := .tuple #[.agg #[.int .i64 m.c, .int .i64 m.d, .int .i64 m.s, .int .i64 m.e, .int .i64 m.l, .slice ta T.length tc], .slice ca cuts.length cc, .int .i64 kq, .int .i64 (IntKind.i64.wrap (x - IntKind.i64.wrap (y.tdiv 19)))]) (by simp [results, Tryz.results114, go_sem, hz0, hz1, hz2, hz3, hz4, hz5]) rfl ⟨m, _, _, T, cuts, _, _, rfl, HZ.out.2.2.1, HZ.out.2.2.2, HZ.out.1, HZ.out.2.1⟩
  have hl0d : decide (0 < L.length) = true := decide_eq_true (by omega)
  have hl0e : decide ((0 : Int) < (L.length : Int)) = true := decide_eq_true (by omega)
  go_wp2_with fail
  refine (l01Next_any B0 SB _ _ HE.out.src).mono ?_
  rintro e' wf ⟨xf, rfl, ⟨hf0, hf1⟩, hsf, hof⟩
  obtain ⟨k, rfl⟩ : ∃ k : Nat, xf = (k : Int) := ⟨xf.toNat, by omega⟩
  have hk : k < L.length := by omega
  have hkn : ¬ L.length ≤ k := by omega
  have hzf := hof.size
  have HF := Lib.hid (HE.out.step hsf hof (by omega) (by omega))
  have hLf : V2 (fun b => wd.heap.size ≤ b) wf (.slice la L.length lc) L := HL.out.1.mono (fun _ h _ => h) (fun b hb hlt => hof.block b hlt (fun e => by have hb : wd.heap.size ≤ b := hb; omega))
  obtain ⟨bq, oq, qa, qc, rfl, _, hcq, hrow⟩ := hLf.cell hk
  obtain ⟨pi, pd, _, _, hpair, _, _⟩ := HL.out.2 k hk
  rw [hpair] at hcq hrow
  have h20 : (0 : Nat) < ([(pi : Int), (pd : Int)] : List Int).length := by simp
  have h21 : (1 : Nat) < ([(pi : Int), (pd : Int)] : List Int).length := by simp
  obtain ⟨br, orr, rfl, hbrw, hcr0⟩ := hrow.cell h20
  have hbrw : wd.heap.size ≤ br := hbrw
  obtain ⟨br', orr', er, _, hcr1⟩ := hrow.cell h21
  simp only [Option.some.injEq, Addr.mk.injEq, and_true] at er
  obtain ⟨rfl, rfl⟩ := er
  have hcr0 : wf.cell? ⟨br, orr + 0, none⟩ = some (.int .i64 (pi : Int)) := hcr0
  have hcr1 : wf.cell? ⟨br, orr + 1, none⟩ = some (.int .i64 (pd : Int)) := hcr1
  have hcq : wf.cell? ⟨bq, oq + k, none⟩ = some (.slice (some ⟨br, orr, none⟩) 2 qc) := hcq
  rw [Nat.add_zero] at hcr0
  clear hsf hof hf0 hf1 hLf hrow hpair h20 h21
  go_wp2_with fail
  clear hcq
  have hcM : ∀ o, wf.cell? ⟨w3.heap.size, o, none⟩ = (#[.int .i64 m.c, .int .i64 m.d, .int .i64 m.s, .int .i64 m.e, .int .i64 m.l, .slice ta T.length tc] : Array Value)[o]? := fun o => by rw [cell_of_block HF.out.hm]
  have hSk : ∀ w' : World, w'.heap[w3.heap.size]? = wf.heap[w3.heap.size]? → w'.cell? ⟨w3.heap.size, 0, none⟩ = some (.int .i64 m.c) ∧ w'.cell? ⟨w3.heap.size, 1, none⟩ = some (.int .i64 m.d) ∧ w'.cell? ⟨w3.heap.size, 2, none⟩ = some (.int .i64 m.s) ∧ w'.cell? ⟨w3.heap.size, 3, none⟩ = some (.int .i64 m.e) ∧ w'.cell? ⟨w3.heap.size, 4, none⟩ = some (.int .i64 m.l) ∧ w'.cell? ⟨w3.heap.size, 5, none⟩ = some (.slice ta T.length tc) := fun w' hw => by
   refine ⟨?_, ?_, ?_, ?_, ?_, ?_⟩ <;> exact cell_keep (hcM _) hw
  have hSk2 : ∀ w' : World, w'.heap[w3.heap.size]? = wf.heap[w3.heap.size]? → w'.heap[br]? = wf.heap[br]? → (w'.cell? ⟨w3.heap.size, 0, none⟩ = some (.int .i64 m.c) ∧ w'.cell? ⟨w3.heap.size, 1, none⟩ = some (.int .i64 m.d) ∧ w'.cell? ⟨w3.heap.size, 2, none⟩ = some (.int .i64 m.s) ∧ w'.cell? ⟨w3.heap.size, 3, none⟩ = some (.int .i64 m.e) ∧ w'.cell? ⟨w3.heap.size, 4, none⟩ = some (.int .i64 m.l) ∧ w'.cell? ⟨w3.heap.size, 5, none⟩ = some (.slice ta T.length tc)) ∧ w'.cell? ⟨br, orr, none⟩ = some (.int .i64 (pi : Int)) ∧ w'.cell? ⟨br, orr + 1, none⟩ = some (.int .i64 (pd : Int)) := fun w' h1 h2 => ⟨hSk w' h1, cell_keep hcr0 h2, cell_keep hcr1 h2⟩
  refine wp_region_noPanic ?_
  refine wp_region_held_drew (S := fun w' => (w'.cell? ⟨w3.heap.size, 0, none⟩ = some (.int .i64 m.c) ∧ w'.cell? ⟨w3.heap.size, 1, none⟩ = some (.int .i64 m.d) ∧ w'.cell? ⟨w3.heap.size, 2, none⟩ = some (.int .i64 m.s) ∧ w'.cell? ⟨w3.heap.size, 3, none⟩ = some (.int .i64 m.e) ∧ w'.cell? ⟨w3.heap.size, 4, none⟩ = some (.int .i64 m.l) ∧ w'.cell? ⟨w3.heap.size, 5, none⟩ = some (.slice ta T.length tc)) ∧ w'.cell? ⟨br, orr, none⟩ = some (.int .i64 (pi : Int)) ∧ w'.cell? ⟨br, orr + 1, none⟩ = some (.int .i64 (pd : Int))) (by kernel_rfl) (hSk2 wf.drew rfl rfl) (fun hHeld => ?_)
  (refine wpAnyH_take (i := 0) (v := .agg #[.int .i64 m.c, .int .i64 m.d, .int .i64 m.s, .int .i64 m.e, .int .i64 m.l, .slice ta T.length tc]) rfl (by kernel_rfl) (by kernel_rfl) (by kernel_rfl) (fun _ _ _ h => h) (Or.inl ⟨by kernel_rfl, fun w hSw => by (try dsimp only at hSw); go_split_ands; go_simp⟩) (by assumption) ?_; simp only [Act.put, List.setIfInBounds_toArray, List.set_cons_zero, List.set_cons_succ])
  (refine wpAnyH_take (i := 1) (v := .slice ca cuts.length cc) rfl (by kernel_rfl) (by kernel_rfl) (by kernel_rfl) (fun _ _ _ h => h) (Or.inl ⟨by kernel_rfl, fun w hSw => by (try dsimp only at hSw); go_split_ands; go_simp⟩) (by assumption) ?_; simp only [Act.put, List.setIfInBounds_toArray, List.set_cons_zero, List.set_cons_succ])
  (refine wpAnyH_take (i := 2) (v := .slice (some ⟨br, orr, none⟩) 2 qc) rfl (by kernel_rfl) (by kernel_rfl) (by kernel_rfl) (fun _ _ _ h => h) (Or.inl ⟨by kernel_rfl, fun w hSw => by (try dsimp only at hSw); go_split_ands; go_simp⟩) (by assumption) ?_; simp only [Act.put, List.setIfInBounds_toArray, List.set_cons_zero, List.set_cons_succ])
  (refine wpAnyH_take (i := 3) (v := .pointer (some ⟨br, orr, none⟩)) rfl (by kernel_rfl) (by kernel_rfl) (by kernel_rfl) (fun _ _ _ h => h) (Or.inl ⟨by kernel_rfl, fun w hSw => by (try dsimp only at hSw); go_split_ands; go_simp⟩) (by assumption) ?_; simp only [Act.put, List.setIfInBounds_toArray, List.set_cons_zero, List.set_cons_succ])
  (refine wpAnyH_take (i := 4) (v := .int .i64 (pi : Int)) rfl (by kernel_rfl) (by kernel_rfl) (by kernel_rfl) (fun _ _ _ h => h) (Or.inl ⟨by kernel_rfl, fun w hSw => by (try dsimp only at hSw); go_split_ands; go_simp⟩) (by assumption) ?_; simp only [Act.put, List.setIfInBounds_toArray, List.set_cons_zero, List.set_cons_succ])
  (refine wpAnyH_take (i := 5) (v := .slice (some ⟨br, orr, none⟩) 2 qc) rfl (by kernel_rfl) (by kernel_rfl) (by kernel_rfl) (fun _ _ _ h => h) (Or.inl ⟨by kernel_rfl, fun w hSw => by (try dsimp only at hSw); go_split_ands; go_simp⟩) (by assumption) ?_; simp only [Act.put, List.setIfInBounds_toArray, List.set_cons_zero, List.set_cons_succ])
  (refine wpAnyH_take (i := 6) (v := .pointer (some ⟨br, orr + 1, none⟩)) rfl (by kernel_rfl) (by kernel_rfl) (by kernel_rfl) (fun _ _ _ h => h) (Or.inl ⟨by kernel_rfl, fun w hSw => by (try dsimp only at hSw); go_split_ands; go_simp⟩) (by assumption) ?_; simp only [Act.put, List.setIfInBounds_toArray, List.set_cons_zero, List.set_cons_succ])
  (refine wpAnyH_take (i := 7) (v := .int .i64 (pd : Int)) rfl (by kernel_rfl) (by kernel_rfl) (by kernel_rfl) (fun _ _ _ h => h) (Or.inl ⟨by kernel_rfl, fun w hSw => by (try dsimp only at hSw); go_split_ands; go_simp⟩) (by assumption) ?_; simp only [Act.put, List.setIfInBounds_toArray, List.set_cons_zero, List.set_cons_succ])
  have hbD : Below wf.heap.size wf wf.drew := (Below.refl _ _).drew
  have hcRz : ∀ o, wf.cell? ⟨W.heap.size, o, none⟩ = (#[.int .i64 0, .int .i64 0, .int .i64 0, .int .i64 0, .int .i64 0, .slice none 0 0] : Array Value)[o]? := fun o => by rw [cell_of_block HF.out.hr]
  have hfRz := fun o => frozen_of_block HF.out.hr o
  have hdone := putS_facts HF.out.src HF.out.only HF.out.hr (by omega) (Nat.le_refl _) (by omega) (.int .i64 m.c) (.int .i64 m.d) (.int .i64 m.s) (.int .i64 m.e) (.int .i64 m.l) (.slice ta T.length tc)
  obtain ⟨wz, hwz⟩ : ∃ wz, wz = putS wf W.heap.size (.int .i64 m.c) (.int .i64 m.d) (.int .i64 m.s) (.int .i64 m.e) (.int .i64 m.l) (.slice ta T.length tc) := ⟨_, rfl⟩
  rw [← hwz] at hdone
  obtain ⟨hd1, hd2, hd3, hd4⟩ := hdone
  have hFz : V2 (fun b => W.heap.size < b) wz (.slice ta T.length tc) T := V2.mono (S := fun b => W.heap.size < b ∧ b ≠ w3.heap.size) HF.out.tab (fun b hb _ => hb.1) (fun b hb _ => hd4 b (by have := hb.1; omega))
  have hcz : V2 (fun b => W.heap.size < b) wz (.slice ca cuts.length cc) cuts := V2.mono (S := fun b => W.heap.size < b ∧ b ≠ w3.heap.size) HF.out.cut (fun b hb _ => hb.1) (fun b hb _ => hd4 b (by have := hb.1; omega))
  have hmz : wz.heap[w3.heap.size]? = wf.heap[w3.heap.size]? := hd4 _ (by omega)
  have hz0 : wz.cell? ⟨W.heap.size, 0, none⟩ = some (.int .i64 m.c) := by rw [cell_of_block hd3]; rfl
  have hz1 : wz.cell? ⟨W.heap.size, 1, none⟩ = some (.int .i64 m.d) := by rw [cell_of_block hd3]; rfl
  have hz2 : wz.cell? ⟨W.heap.size, 2, none⟩ = some (.int .i64 m.s) := by rw [cell_of_block hd3]; rfl
  have hz3 : wz.cell? ⟨W.heap.size, 3, none⟩ = some (.int .i64 m.e) := by rw [cell_of_block hd3]; rfl
  have hz4 : wz.cell? ⟨W.heap.size, 4, none⟩ = some (.int .i64 m.l) := by rw [cell_of_block hd3]; rfl
  have hz5 : wz.cell? ⟨W.heap.size, 5, none⟩ = some (.slice ta T.length tc) := by rw [cell_of_block hd3]; rfl
  have HZ := Lib.hid (And.intro hd1 (And.intro hd2 (And.intro hFz hcz))); clear hd1 hd2 hFz hcz hd3
  unfold putS putR at hwz
  (refine wpAnyH_ready (rs := [8]) (by kernel_rfl) (by simp) (AllReadyH.cons rfl (fun K hK => ?_) AllReadyH.nil); go_simp)
  rw [← hwz]
  clear hwz
  have hbrl := lt_of_cell hcr0
  have hSz := hSk2 wz.drew hmz (hd4 br (by omega))
  have hbz : Below wz.heap.size wz wz.drew := (Below.refl _ _).drew
  (refine hK.out _ _ hSz (fun hHeld => ?_); clear hK K; (try simp only [Act.put, List.setIfInBounds_toArray, List.set_cons_zero, List.set_cons_succ]))
  (refine wpAnyH_ready (rs := [9]) (by kernel_rfl) (by simp) (AllReadyH.cons rfl (fun K hK => ?_) AllReadyH.nil); go_simp)
  (refine hK.out _ _ hSz (fun hHeld => ?_); clear hK K; (try simp only [Act.put, List.setIfInBounds_toArray, List.set_cons_zero, List.set_cons_succ]))
  (refine wpAnyH_ready (rs := [10]) (by kernel_rfl) (by simp) (AllReadyH.cons rfl (fun K hK => ?_) AllReadyH.nil); go_simp)
  (refine hK.out _ _ hSz (fun hHeld => ?_); clear hK K; (try simp only [Act.put, List.setIfInBounds_toArray, List.set_cons_zero, List.set_cons_succ]))
  (refine wpAnyH_ready (rs := [11]) (by kernel_rfl) (by simp) (AllReadyH.cons rfl (fun K hK => ?_) AllReadyH.nil); go_simp)
  (refine hK.out _ _ hSz (fun hHeld => ?_); clear hK K; (try simp only [Act.put, List.setIfInBounds_toArray, List.set_cons_zero, List.set_cons_succ]))
  refine wpAnyH_done (by kernel_rfl) (NoPanic.normal ?_) _
  go_wp2_with fail
  exact bodyPost_ret (v := .tuple #[.agg #[.int .i64 m.c, .int .i64 m.d, .int .i64 m.s, .int .i64 m.e, .int .i64 m.l, .slice ta T.length tc], .slice ca cuts.length cc, .int .i64 (pi : Int), .int .i64 (pd : Int)]) (by simp [results, Tryz.results114, go_sem, hz0, hz1, hz2, hz3, hz4, hz5]) rfl ⟨m, _, _, T, cuts, _, _, rfl, HZ.out.2.2.1.below hbz, HZ.out.2.2.2.below hbz, HZ.out.1.below hbz, HZ.out.2.1.then_below hbz⟩
set_option maxRecDepth 100000 in
set_option maxHeartbeats 1000000 in
theorem DrawFirstReason_any {S : Nat → Prop} (v : Value) (l : List Int) (W : World) (h : VB S W v l) :
  Calls Tryz.prog 20 #[v] W (DrawKd W) := by
 obtain ⟨a, c, rfl, hm⟩ := h.form
 obtain ⟨W1, hW1, hB01, hz01, HZ01, _, hh01⟩ := box_facts W #[.int .i64 0, .int .i64 0, .int .i64 0, .int .i64 0, .int .i64 0, .slice none 0 0] 28
 have hz1e := HZ01.out
 have hz1l : W1.heap.size ≤ W.heap.size + 1 := by omega
 have HL := Lib.hid (And.intro (h.below hB01) (And.intro hB01 (And.intro hh01 hW1))); clear h hh01 hB01 hz1e
 go_enter Tryz.func20, Tryz.ntmps20
 go_wp2_with fail
 rw [← HL.out.2.2.2]
 clear hW1
 refine (l01From_any _ l W1 HL.out.1).mono ?_
 rintro e' w2 ⟨rfl, hs2, hb2⟩
 have hz2 := hb2.size
 have H2 := Lib.hid (And.intro hs2 (And.intro hb2 ((hb2.block _ hz01).trans HL.out.2.2.1))); clear hs2 hb2
 go_wp2_with fail
 refine (l18Draw_any W1.heap.size W1.heap.size w2 H2.out.1).mono ?_
 rintro e' w3 ⟨m, u, cv, T, cuts, key, door, rfl, hu, hcv, hs3, ho3⟩
 have hz3 := ho3.size
 have hz23 : W1.heap.size < w2.heap.size := H2.out.1.lt
 obtain ⟨ta, tc, rfl, _⟩ := hu.form
 obtain ⟨ca, cc, rfl, _⟩ := hcv.form
 have H3 := Lib.hid (And.intro (HL.out.2.1.trans ((H2.out.2.1.trans (ho3.to_below (Nat.le_refl _) (by omega))).mono (by omega))) (And.intro (ho3.heap H2.out.2.2 (fun e => by omega)) (And.intro (hu.mono (S' := fun b => W1.heap.size ≤ b) (fun b hb _ => by have hb : w2.heap.size < b := hb; omega) (fun _ _ _ => rfl)) (hcv.mono (S' := fun b => W1.heap.size ≤ b) (fun b hb _ => by have hb : w2.heap.size < b := hb; omega) (fun _ _ _ => rfl))))); clear hs3 ho3 hu hcv
 have hcRz : ∀ o, w3.cell? ⟨W.heap.size, o, none⟩ = (#[.int .i64 0, .int .i64 0, .int .i64 0, .int .i64 0, .int .i64 0, .slice none 0 0] : Array Value)[o]? := fun o => by rw [cell_of_block H3.out.2.1]
 have hfRz := fun o => frozen_of_block H3.out.2.1 o
 have hdone := putS_new H3.out.1 H3.out.2.1 (.int .i64 m.c) (.int .i64 m.d) (.int .i64 m.s) (.int .i64 m.e) (.int .i64 m.l) (.slice ta T.length tc)
 obtain ⟨wz, hwz⟩ : ∃ wz, wz = putS w3 W.heap.size (.int .i64 m.c) (.int .i64 m.d) (.int .i64 m.s) (.int .i64 m.e) (.int .i64 m.l) (.slice ta T.length tc) := ⟨_, rfl⟩
 rw [← hwz] at hdone
 obtain ⟨hd2, hd3, hd4⟩ := hdone
 have hFz : V2 (fun b => W.heap.size ≤ b) wz (.slice ta T.length tc) T := V2.mono (S := fun b => W1.heap.size ≤ b) H3.out.2.2.1 (fun b hb _ => by have hb : W1.heap.size ≤ b := hb; omega) (fun b hb _ => hd4 b (by have hb : W1.heap.size ≤ b := hb; omega))
 have hcz : V2 (fun b => W.heap.size ≤ b) wz (.slice ca cuts.length cc) cuts := V2.mono (S := fun b => W1.heap.size ≤ b) H3.out.2.2.2 (fun b hb _ => by have hb : W1.heap.size ≤ b := hb; omega) (fun b hb _ => hd4 b (by have hb : W1.heap.size ≤ b := hb; omega))
 have hz0 : wz.cell? ⟨W.heap.size, 0, none⟩ = some (.int .i64 m.c) := by rw [cell_of_block hd3]; rfl
 have hz1 : wz.cell? ⟨W.heap.size, 1, none⟩ = some (.int .i64 m.d) := by rw [cell_of_block hd3]; rfl
 have hz2 : wz.cell? ⟨W.heap.size, 2, none⟩ = some (.int .i64 m.s) := by rw [cell_of_block hd3]; rfl
 have hz3 : wz.cell? ⟨W.heap.size, 3, none⟩ = some (.int .i64 m.e) := by rw [cell_of_block hd3]; rfl
 have hz4 : wz.cell? ⟨W.heap.size, 4, none⟩ = some (.int .i64 m.l) := by rw [cell_of_block hd3]; rfl
 have hz5 : wz.cell? ⟨W.heap.size, 5, none⟩ = some (.slice ta T.length tc) := by rw [cell_of_block hd3]; rfl
 have HZ := Lib.hid (And.intro hd2 (And.intro hFz (And.intro hcz (And.intro hwz (And.intro hz0 (And.intro hz1 (And.intro hz2 (And.intro hz3 (And.intro hz4 (And.intro hz5 hd4)))))))))); clear hd2 hd3 hd4 hFz hcz hwz hz0 hz1 hz2 hz3 hz4 hz5
 go_wp2_with fail
 have hwz := HZ.out.2.2.2.1
 unfold putS putR at hwz
 rw [← hwz]
 clear hwz
 obtain ⟨hd2, hFz, hcz, hwzz, hz0, hz1, hz2, hz3, hz4, hz5, hd4⟩ := HZ.out
 clear hwzz
 exact bodyPost_ret (v := .tuple #[.agg #[.int .i64 m.c, .int .i64 m.d, .int .i64 m.s, .int .i64 m.e, .int .i64 m.l, .slice ta T.length tc], .slice ca cuts.length cc, .int .i64 key, .int .i64 door]) (by simp [results, Tryz.results20, go_sem, hz0, hz1, hz2, hz3, hz4, hz5]) rfl ⟨m, _, _, T, cuts, key, door, rfl, hFz, hcz, hd2⟩
end Go.Proofs.YtmaefilliggjiaaGreat
