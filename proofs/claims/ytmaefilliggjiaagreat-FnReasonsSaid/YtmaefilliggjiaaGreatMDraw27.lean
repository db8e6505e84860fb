/- The reference's draws of a limit, and of a system and cuts that may be part of a design. No conditions. -/
import Derived.Test.YtmaefilliggjiaaGreatMReasD
namespace Go.Proofs.YtmaefilliggjiaaGreat
open Go.RowKit
set_option linter.unusedVariables false
set_option linter.unusedSimpArgs false
/-- A system in a box of its own, while more is drawn. -/
structure DrAt (B0 SB : Nat) (W W1 w3 : World) (m : Mk) (tv : Value) (T : List (List Int)) (w : World) : Prop where
 src : Src B0 SB w
 only : Only SB W w
 hm : w.heap[w3.heap.size]? = some (.cells #[.int .i64 m.c, .int .i64 m.d, .int .i64 m.s, .int .i64 m.e, .int .i64 m.l, tv] 28 (0, 0))
 hr : w.heap[W.heap.size]? = some (.cells #[.int .i64 0, .int .i64 0, .int .i64 0, .int .i64 0, .int .i64 0, .slice none 0 0] 28 (0, 0))
 tab : V2 (fun b => W1.heap.size ≤ b ∧ b < w3.heap.size) w tv T
theorem DrAt.step {B0 SB : Nat} {W W1 w3 w w' : World} {m : Mk} {tv : Value} {T : List (List Int)} (h : DrAt B0 SB W W1 w3 m tv T w) (hs : Src B0 SB w') (ho : Only SB w w') (h1 : SB < W.heap.size) (h2 : SB < W1.heap.size) (h3 : SB < w3.heap.size) : DrAt B0 SB W W1 w3 m tv T w' :=
 ⟨hs, h.only.trans ho, ho.heap h.hm (fun e => by omega), ho.heap h.hr (fun e => by omega), h.tab.mono (fun _ h _ => h) (fun b hb hlt => ho.block b hlt (fun e => by have := hb.1; omega))⟩
/-- What a draw of a system and cuts answers, where no cuts are a slice from the beginning of a block. -/
def DrawDP (B0 SB : Nat) (W : World) (e : Ending) (w' : World) : Prop :=
 ∃ (m : Mk) (u cv : Value) (T cuts : List (List Int)), e = .returned (.tuple #[.agg #[.int .i64 m.c, .int .i64 m.d, .int .i64 m.s, .int .i64 m.e, .int .i64 m.l, u], cv]) ∧ SmallM m ∧ V2 (fun b => W.heap.size ≤ b) w' u T ∧ V2 (fun b => W.heap.size ≤ b) w' cv cuts ∧ (cuts = [] → PV cv) ∧ Src B0 SB w' ∧ Only SB W w'
set_option maxRecDepth 100000 in
set_option maxHeartbeats 4000000 in
theorem l16Draw_any (B0 SB : Nat) (W : World) (h : Src B0 SB W) :
  Calls Tryz.prog 97 #[.pointer (some ⟨SB, 0, none⟩)] W (DrawDP B0 SB W) := by
 have hSl := h.lt
 have hB0 : B0 ≤ SB := h.1
 obtain ⟨W1, hW1, hB01, hz01, HZ01, _, hh01⟩ := box_facts W #[.int .i64 0, .int .i64 0, .int .i64 0, .int .i64 0, .int .i64 0, .slice none 0 0] 28
 have hz1e := HZ01.out
 have hz1l : W1.heap.size ≤ W.heap.size + 1 := by omega
 have hs1' := h.below hB01
 have HL := Lib.hid (And.intro hs1' (And.intro hB01 (And.intro hh01 hW1))); clear hs1' h hh01 hB01 hz1e
 go_enter Tryz.func97, Tryz.ntmps97
 go_wp2_with fail
 rw [← HL.out.2.2.2]
 clear hW1
 refine (l15Draw_any B0 SB _ HL.out.1).mono ?_
 rintro e' w3 ⟨m, u, cv, T, cuts, rfl, hsm, hu, hT12, hcv, hcl, hs3, ho3⟩
 have hz3 := ho3.size
 obtain ⟨ta, tc, rfl, _⟩ := hu.form
 obtain ⟨ca, cc, rfl, _⟩ := hcv.form
 obtain ⟨w4, hw4⟩ : ∃ w4, w4 = w3.alloc (.cells #[.int .i64 m.c, .int .i64 m.d, .int .i64 m.s, .int .i64 m.e, .int .i64 m.l, .slice ta T.length tc] 28) := ⟨_, rfl⟩
 have hb34 : Below w3.heap.size w3 w4 := by rw [hw4]; exact (Below.refl _ _).alloc (Nat.le_refl _) _
 have hM4 : w4.heap[w3.heap.size]? = some (.cells #[.int .i64 m.c, .int .i64 m.d, .int .i64 m.s, .int .i64 m.e, .int .i64 m.l, .slice ta T.length tc] 28 (0, 0)) := by rw [hw4]; exact heap_alloc_self _ _
 have hc4 : ∀ o, w4.cell? ⟨w3.heap.size, o, none⟩ = (#[.int .i64 m.c, .int .i64 m.d, .int .i64 m.s, .int .i64 m.e, .int .i64 m.l, .slice ta T.length tc] : Array Value)[o]? := fun o => by rw [cell_of_block hM4]
 have hz4 : w3.heap.size < w4.heap.size := lt_of_heap hM4
 have HM := Lib.hid hsm; clear hsm
 have HD4 := Lib.hid (DrAt.mk (B0 := B0) (SB := SB) (W := W) (W1 := W1) (w3 := w3) (hs3.below hb34) (((Only.of_below HL.out.2.1).trans ho3).then_below hb34) hM4 ((hb34.block _ (by omega)).trans (ho3.heap HL.out.2.2.1 (fun e => by omega))) ((hu.mono (S' := fun b => W1.heap.size ≤ b ∧ b < w3.heap.size) (fun b hb hlt => ⟨hb, hlt⟩) (fun _ _ _ => rfl)).below hb34))
 have HC4 := Lib.hid (And.intro ((hcv.mono (S' := fun b => W1.heap.size ≤ b) (fun b hb _ => hb) (fun _ _ _ => rfl)).below hb34) hw4)
 clear hs3 ho3 hb34 hM4 hu hcv hw4
 have HCL := Lib.hid hcl.1; clear hcl
 go_wp2_with fail
 rw [← HC4.out.2]
 obtain ⟨r, hr⟩ : ∃ r, isSys m T = r := ⟨_, rfl⟩
 have Hr := Lib.hid hr; clear hr
 refine (isSystemR_b m _ T w4 r Hr.out HD4.out.tab).mono ?_
 rintro e' w5 ⟨rfl, hb5⟩
 have hz5 := hb5.size
 have HD5 := Lib.hid (HD4.out.step (HD4.out.src.below (hb5.mono (Nat.le_refl _))) (Only.of_below hb5) (by omega) (by omega) (by omega))
 have HC5 := Lib.hid (HC4.out.1.below hb5)
 clear hb5 hc4
 cases r
 ·skip
  have hcM : ∀ o, w5.cell? ⟨w3.heap.size, o, none⟩ = (#[.int .i64 m.c, .int .i64 m.d, .int .i64 m.s, .int .i64 m.e, .int .i64 m.l, .slice ta T.length tc] : Array Value)[o]? := fun o => by rw [cell_of_block HD5.out.hm]
  have hcRz : ∀ o, w5.cell? ⟨W.heap.size, o, none⟩ = (#[.int .i64 0, .int .i64 0, .int .i64 0, .int .i64 0, .int .i64 0, .slice none 0 0] : Array Value)[o]? := fun o => by rw [cell_of_block HD5.out.hr]
  have hfRz := fun o => frozen_of_block HD5.out.hr o
  have hdone := putS_facts HD5.out.src HD5.out.only HD5.out.hr (by omega) (Nat.le_refl _) (by omega) (.int .i64 m.c) (.int .i64 m.d) (.int .i64 m.s) (.int .i64 m.e) (.int .i64 m.l) (.slice ta T.length tc)
  obtain ⟨wz, hwz⟩ : ∃ wz, wz = putS w5 W.heap.size (.int .i64 m.c) (.int .i64 m.d) (.int .i64 m.s) (.int .i64 m.e) (.int .i64 m.l) (.slice ta T.length tc) := ⟨_, rfl⟩
  rw [← hwz] at hdone
  obtain ⟨hd1, hd2, hd3, hd4⟩ := hdone
  have hFz : V2 (fun b => W.heap.size ≤ b) wz (.slice ta T.length tc) T := V2.mono (S := fun b => W1.heap.size ≤ b ∧ b < w3.heap.size) HD5.out.tab (fun b hb _ => by have hb := hb.1; omega) (fun b hb _ => hd4 b (by have hb := hb.1; omega))
  have hcz : V2 (fun b => W.heap.size ≤ b) wz (.slice ca cuts.length cc) cuts := V2.mono (S := fun b => W1.heap.size ≤ b) HC5.out (fun b hb _ => by have hb : W1.heap.size ≤ b := hb; omega) (fun b hb _ => hd4 b (by have hb : W1.heap.size ≤ b := hb; omega))
  have hz0 : wz.cell? ⟨W.heap.size, 0, none⟩ = some (.int .i64 m.c) := by rw [cell_of_block hd3]; rfl
  have hz1 : wz.cell? ⟨W.heap.size, 1, none⟩ = some (.int .i64 m.d) := by rw [cell_of_block hd3]; rfl
  have hz2 : wz.cell? ⟨W.heap.size, 2, none⟩ = some (.int .i64 m.s) := by rw [cell_of_block hd3]; rfl
  have hz3 : wz.cell? ⟨W.heap.size, 3, none⟩ = some (.int .i64 m.e) := by rw [cell_of_block hd3]; rfl
  have hz4 : wz.cell? ⟨W.heap.size, 4, none⟩ = some (.int .i64 m.l) := by rw [cell_of_block hd3]; rfl
  have hz5 : wz.cell? ⟨W.heap.size, 5, none⟩ = some (.slice ta T.length tc) := by rw [cell_of_block hd3]; rfl
  have HZ := Lib.hid (And.intro hd1 (And.intro hd2 (And.intro hFz (And.intro hcz (And.intro hwz (And.intro hz0 (And.intro hz1 (And.intro hz2 (And.intro hz3 (And.intro hz4 hz5)))))))))); clear hd1 hd2 hd3 hd4 hFz hcz hwz hz0 hz1 hz2 hz3 hz4 hz5
  go_wp2_with fail
  have hwz := HZ.out.2.2.2.2.1
  unfold putS putR at hwz
  rw [← hwz]
  clear hwz
  obtain ⟨hd1, hd2, hFz, hcz, hwzz, hz0, hz1, hz2, hz3, hz4, hz5⟩ := HZ.out
  clear hwzz
  exact bodyPost_ret (v := .tuple #[.agg #[.int .i64 m.c, .int .i64 m.d, .int .i64 m.s, .int .i64 m.e, .int .i64 m.l, .slice ta T.length tc], (.slice ca cuts.length cc)]) (by simp [results, Tryz.results97, go_sem, hz0, hz1, hz2, hz3, hz4, hz5]) rfl ⟨m, _, _, T, cuts, rfl, HM.out, hFz, hcz, (fun e => absurd (e ▸ HCL.out : 1 ≤ ([] : List (List Int)).length) (by decide)), hd1, hd2⟩
 ·go_wp2_with fail
  refine (l01Next_any B0 SB 4 _ HD5.out.src).mono ?_
  rintro e' w6 ⟨q, rfl, ⟨hq0, hq1⟩, hs6, ho6⟩
  have hz6 := ho6.size
  have HC6 := Lib.hid (HC5.out.mono (S' := fun b => W1.heap.size ≤ b) (fun b hb _ => hb) (fun b hb hlt => ho6.block b hlt (fun e => by have hb : W1.heap.size ≤ b := hb; omega)))
  have HD6 := Lib.hid (HD5.out.step hs6 ho6 (by omega) (by omega) (by omega)); clear hs6 ho6
  by_cases hq : q = 0
  ·subst hq
   clear hq0 hq1
   have hcM : ∀ o, w6.cell? ⟨w3.heap.size, o, none⟩ = (#[.int .i64 m.c, .int .i64 m.d, .int .i64 m.s, .int .i64 m.e, .int .i64 m.l, .slice ta T.length tc] : Array Value)[o]? := fun o => by rw [cell_of_block HD6.out.hm]
   have hcRz : ∀ o, w6.cell? ⟨W.heap.size, o, none⟩ = (#[.int .i64 0, .int .i64 0, .int .i64 0, .int .i64 0, .int .i64 0, .slice none 0 0] : Array Value)[o]? := fun o => by rw [cell_of_block HD6.out.hr]
   have hfRz := fun o => frozen_of_block HD6.out.hr o
   have hdone := putS_facts HD6.out.src HD6.out.only HD6.out.hr (by omega) (Nat.le_refl _) (by omega) (.int .i64 m.c) (.int .i64 m.d) (.int .i64 m.s) (.int .i64 m.e) (.int .i64 m.l) (.slice ta T.length tc)
   obtain ⟨wz, hwz⟩ : ∃ wz, wz = putS w6 W.heap.size (.int .i64 m.c) (.int .i64 m.d) (.int .i64 m.s) (.int .i64 m.e) (.int .i64 m.l) (.slice ta T.length tc) := ⟨_, rfl⟩
   rw [← hwz] at hdone
   obtain ⟨hd1, hd2, hd3, hd4⟩ := hdone
   have hFz : V2 (fun b => W.heap.size ≤ b) wz (.slice ta T.length tc) T := V2.mono (S := fun b => W1.heap.size ≤ b ∧ b < w3.heap.size) HD6.out.tab (fun b hb _ => by have hb := hb.1; omega) (fun b hb _ => hd4 b (by have hb := hb.1; omega))
   have hcz : V2 (fun b => W.heap.size ≤ b) wz (.slice ca cuts.length cc) cuts := V2.mono (S := fun b => W1.heap.size ≤ b) HC6.out (fun b hb _ => by have hb : W1.heap.size ≤ b := hb; omega) (fun b hb _ => hd4 b (by have hb : W1.heap.size ≤ b := hb; omega))
   have hz0 : wz.cell? ⟨W.heap.size, 0, none⟩ = some (.int .i64 m.c) := by rw [cell_of_block hd3]; rfl
   have hz1 : wz.cell? ⟨W.heap.size, 1, none⟩ = some (.int .i64 m.d) := by rw [cell_of_block hd3]; rfl
   have hz2 : wz.cell? ⟨W.heap.size, 2, none⟩ = some (.int .i64 m.s) := by rw [cell_of_block hd3]; rfl
   have hz3 : wz.cell? ⟨W.heap.size, 3, none⟩ = some (.int .i64 m.e) := by rw [cell_of_block hd3]; rfl
   have hz4 : wz.cell? ⟨W.heap.size, 4, none⟩ = some (.int .i64 m.l) := by rw [cell_of_block hd3]; rfl
   have hz5 : wz.cell? ⟨W.heap.size, 5, none⟩ = some (.slice ta T.length tc) := by rw [cell_of_block hd3]; rfl
   have HZ := Lib.hid (And.intro hd1 (And.intro hd2 (And.intro hFz (And.intro hcz (And.intro hwz (And.intro hz0 (And.intro hz1 (And.intro hz2 (And.intro hz3 (And.intro hz4 hz5)))))))))); clear hd1 hd2 hd3 hd4 hFz hcz hwz hz0 hz1 hz2 hz3 hz4 hz5
   go_wp2_with fail
   have hwz := HZ.out.2.2.2.2.1
   unfold putS putR at hwz
   rw [← hwz]
   clear hwz
   obtain ⟨hd1, hd2, hFz, hcz, hwzz, hz0, hz1, hz2, hz3, hz4, hz5⟩ := HZ.out
   clear hwzz
   exact bodyPost_ret (v := .tuple #[.agg #[.int .i64 m.c, .int .i64 m.d, .int .i64 m.s, .int .i64 m.e, .int .i64 m.l, .slice ta T.length tc], (.slice ca cuts.length cc)]) (by simp [results, Tryz.results97, go_sem, hz0, hz1, hz2, hz3, hz4, hz5]) rfl ⟨m, _, _, T, cuts, rfl, HM.out, hFz, hcz, (fun e => absurd (e ▸ HCL.out : 1 ≤ ([] : List (List Int)).length) (by decide)), hd1, hd2⟩
  ·have hqd : (q == 0) = false := by simp [hq]
   clear hq hq0 hq1
   have hfit0 := (PartOk.nil Hr.out).fits
   have HF0 := Lib.hid hfit0; clear hfit0
   obtain ⟨w7, hw7⟩ : ∃ w7, w7 = w6.alloc (.cells #[] 35) := ⟨_, rfl⟩
   have hb67 : Below w6.heap.size w6 w7 := by rw [hw7]; exact (Below.refl _ _).alloc (Nat.le_refl _) _
   have hO7 : OV w6.heap.size w7 (.slice (some ⟨w6.heap.size, 0, none⟩) 0 0) [] := OV.nil (by rw [hw7]; exact own_lit0 w6 w6.heap.size 35 1 (Nat.le_refl _))
   have hz7 := hb67.size
   have HO7 := Lib.hid (And.intro hO7 (And.intro (Only.of_below (SB := SB) hb67) hw7))
   have HD7 := Lib.hid (HD6.out.step (HD6.out.src.below hb67) (Only.of_below hb67) (by omega) (by omega) (by omega)); clear hw7 hb67 hO7
   have hw9 : wrap64 ((T.length : Int) + 1) = (T.length : Int) + 1 := IntWalk.wrap64_in _ (by omega)
   have hcM7 : ∀ o, w7.cell? ⟨w3.heap.size, o, none⟩ = (#[.int .i64 m.c, .int .i64 m.d, .int .i64 m.s, .int .i64 m.e, .int .i64 m.l, .slice ta T.length tc] : Array Value)[o]? := fun o => by rw [cell_of_block HD7.out.hm]
   have hcM70 : ∀ o, (w6.alloc (.cells #[] 35)).cell? ⟨w3.heap.size, o, none⟩ = (#[.int .i64 m.c, .int .i64 m.d, .int .i64 m.s, .int .i64 m.e, .int .i64 m.l, .slice ta T.length tc] : Array Value)[o]? := fun o => by rw [← HO7.out.2.2]; exact hcM7 o
   have hcM6 : ∀ o, w6.cell? ⟨w3.heap.size, o, none⟩ = (#[.int .i64 m.c, .int .i64 m.d, .int .i64 m.s, .int .i64 m.e, .int .i64 m.l, .slice ta T.length tc] : Array Value)[o]? := fun o => by rw [cell_of_block HD6.out.hm]
   go_wp2_with fail
   rw [← HO7.out.2.2]
   clear hw9
   refine (l01Next_any B0 SB ((T.length : Int) + 1) _ HD7.out.src).mono ?_
   rintro e' w8 ⟨n8, rfl, ⟨hn0, hn1⟩, hs8, ho8⟩
   obtain ⟨nn, rfl⟩ : ∃ q : Nat, n8 = (q : Int) := ⟨n8.toNat, by omega⟩
   have hnn : nn ≤ T.length := by
    rcases hn1 with h | h
    ·exact Int.ofNat_le.1 (Int.lt_add_one_iff.1 h)
    ·have h0 : nn = 0 := Int.ofNat_eq_zero.1 h
     rw [h0]; exact Nat.zero_le _
   have hz8 := ho8.size
   have HO8 := Lib.hid (And.intro (HO7.out.1.only ho8 (by omega)) (HO7.out.2.1.trans ho8))
   have HD8 := Lib.hid (HD7.out.step hs8 ho8 (by omega) (by omega) (by omega)); clear hs8 ho8 hn0 hn1 hcM7 hcM70 hcM6
   go_wp2_with fail
   go_loopw [6, 7, 8] (fun pv nv _ wr => ∃ (n : Nat) (part : List (List Int)), n + part.length ≤ T.length ∧ nv = .int .i64 (n : Int) ∧ OV w6.heap.size wr pv part ∧ Fits m T part ∧ Src B0 SB wr ∧ Only SB w6 wr) (fun _ nv _ _ => (intOf nv).toNat)
   case atStart => exact ⟨nn, [], by simpa using hnn, rfl, HO8.out.1, HF0.out, HD8.out.src, HO8.out.2⟩
   case round =>
    obtain ⟨n, part, hnp, rfl, hO, hfit, hsr, hor⟩ := hrel
    have hzr := hor.size
    obtain ⟨oa, oc, rfl, _, _⟩ := hO.form
    obtain ⟨wo, rfl⟩ : ∃ x, x = wr := ⟨_, rfl⟩
    have HDo := Lib.hid (HD6.out.step hsr hor (by omega) (by omega) (by omega))
    by_cases hn : n = 0
    ·subst hn
     have HPo := Lib.hid (show PV (.slice oa part.length oc) by obtain ⟨vs, h1, _⟩ := hO; exact own_PV h1)
     have HCo := Lib.hid (hO.v2.mono (S' := fun b => W1.heap.size ≤ b) (fun b hb _ => by have hb : w6.heap.size ≤ b := hb; omega) (fun _ _ _ => rfl)); clear hO hfit hsr hor hnp
     have hcM : ∀ o, wo.cell? ⟨w3.heap.size, o, none⟩ = (#[.int .i64 m.c, .int .i64 m.d, .int .i64 m.s, .int .i64 m.e, .int .i64 m.l, .slice ta T.length tc] : Array Value)[o]? := fun o => by rw [cell_of_block HDo.out.hm]
     have hcRz : ∀ o, wo.cell? ⟨W.heap.size, o, none⟩ = (#[.int .i64 0, .int .i64 0, .int .i64 0, .int .i64 0, .int .i64 0, .slice none 0 0] : Array Value)[o]? := fun o => by rw [cell_of_block HDo.out.hr]
     have hfRz := fun o => frozen_of_block HDo.out.hr o
     have hdone := putS_facts HDo.out.src HDo.out.only HDo.out.hr (by omega) (Nat.le_refl _) (by omega) (.int .i64 m.c) (.int .i64 m.d) (.int .i64 m.s) (.int .i64 m.e) (.int .i64 m.l) (.slice ta T.length tc)
     obtain ⟨wz, hwz⟩ : ∃ wz, wz = putS wo W.heap.size (.int .i64 m.c) (.int .i64 m.d) (.int .i64 m.s) (.int .i64 m.e) (.int .i64 m.l) (.slice ta T.length tc) := ⟨_, rfl⟩
     rw [← hwz] at hdone
     obtain ⟨hd1, hd2, hd3, hd4⟩ := hdone
     have hFz : V2 (fun b => W.heap.size ≤ b) wz (.slice ta T.length tc) T := V2.mono (S := fun b => W1.heap.size ≤ b ∧ b < w3.heap.size) HDo.out.tab (fun b hb _ => by have hb := hb.1; omega) (fun b hb _ => hd4 b (by have hb := hb.1; omega))
     have hcz : V2 (fun b => W.heap.size ≤ b) wz (.slice oa part.length oc) part := V2.mono (S := fun b => W1.heap.size ≤ b) HCo.out (fun b hb _ => by have hb : W1.heap.size ≤ b := hb; omega) (fun b hb _ => hd4 b (by have hb : W1.heap.size ≤ b := hb; omega))
     have hz0 : wz.cell? ⟨W.heap.size, 0, none⟩ = some (.int .i64 m.c) := by rw [cell_of_block hd3]; rfl
     have hz1 : wz.cell? ⟨W.heap.size, 1, none⟩ = some (.int .i64 m.d) := by rw [cell_of_block hd3]; rfl
     have hz2 : wz.cell? ⟨W.heap.size, 2, none⟩ = some (.int .i64 m.s) := by rw [cell_of_block hd3]; rfl
     have hz3 : wz.cell? ⟨W.heap.size, 3, none⟩ = some (.int .i64 m.e) := by rw [cell_of_block hd3]; rfl
     have hz4 : wz.cell? ⟨W.heap.size, 4, none⟩ = some (.int .i64 m.l) := by rw [cell_of_block hd3]; rfl
     have hz5 : wz.cell? ⟨W.heap.size, 5, none⟩ = some (.slice ta T.length tc) := by rw [cell_of_block hd3]; rfl
     have HZ := Lib.hid (And.intro hd1 (And.intro hd2 (And.intro hFz (And.intro hcz (And.intro hwz (And.intro hz0 (And.intro hz1 (And.intro hz2 (And.intro hz3 (And.intro hz4 hz5)))))))))); clear hd1 hd2 hd3 hd4 hFz hcz hwz hz0 hz1 hz2 hz3 hz4 hz5
     go_wp2_with fail
     have hwz := HZ.out.2.2.2.2.1
     unfold putS putR at hwz
     rw [← hwz]
     clear hwz
     obtain ⟨hd1, hd2, hFz, hcz, hwzz, hz0, hz1, hz2, hz3, hz4, hz5⟩ := HZ.out
     clear hwzz
     exact bodyPost_ret (v := .tuple #[.agg #[.int .i64 m.c, .int .i64 m.d, .int .i64 m.s, .int .i64 m.e, .int .i64 m.l, .slice ta T.length tc], (.slice oa part.length oc)]) (by simp [results, Tryz.results97, go_sem, hz0, hz1, hz2, hz3, hz4, hz5]) rfl ⟨m, _, _, T, part, rfl, HM.out, hFz, hcz, (fun _ => HPo.out), hd1, hd2⟩
    ·obtain ⟨n, rfl⟩ : ∃ k, n = k + 1 := ⟨n - 1, by omega⟩
     have hnd : decide ((0 : Int) < ((n + 1 : Nat) : Int)) = true := decide_eq_true (by omega)
     have hnd2 : decide ((0 : Int) < (n : Int) + 1) = true := decide_eq_true (by omega)
     have hnd3 : decide (0 < n + 1) = true := decide_eq_true (by omega)
     have hnT : n + 1 ≤ 12 := by omega
     have hpl0 : part.length < T.length := by omega
     have hpv : PV (.slice oa part.length oc) := by obtain ⟨vs, h1, _⟩ := hO; exact own_PV h1
     have HR := Lib.hid (And.intro hO (And.intro hfit (And.intro hsr (And.intro hor (And.intro hpv hnp))))); clear hO hfit hsr hor hpv hnp hn
     have hcMo : ∀ o, wo.cell? ⟨w3.heap.size, o, none⟩ = (#[.int .i64 m.c, .int .i64 m.d, .int .i64 m.s, .int .i64 m.e, .int .i64 m.l, .slice ta T.length tc] : Array Value)[o]? := fun o => by rw [cell_of_block HDo.out.hm]
     have Hpl := Lib.hid hpl0; clear hpl0
     go_wp2_with fail
     refine (l16Candidates_any m _ _ T part 6 wo HR.out.2.1 Hpl.out (by omega) HDo.out.tab HR.out.1.v2 (fun _ => HR.out.2.2.2.2.1)).mono ?_
     rintro e' w9 ⟨lv, ls, rfl, ⟨hL, hL8, hLk⟩, hb9⟩
     have hz9 := hb9.size
     obtain ⟨la, lc, rfl, _, _⟩ := hL.form
     have HD9 := Lib.hid (HDo.out.step (HR.out.2.2.1.below hb9) (Only.of_below hb9) (by omega) (by omega) (by omega))
     have H9 := Lib.hid (And.intro (HR.out.2.2.2.1.then_below hb9) (And.intro hL (And.intro hLk (HR.out.1.below hb9)))); clear hL hLk hb9 hcMo
     by_cases hl0 : ls.length = 0
     ·have hl0d : ((ls.length : Int) == 0) = true := by simp [hl0]
      have HC9 := Lib.hid (H9.out.2.2.2.v2.mono (S' := fun b => W1.heap.size ≤ b) (fun b hb _ => by have hb : w6.heap.size ≤ b := hb; omega) (fun _ _ _ => rfl))
      clear hnd hnd2 hnd3 hL8
      obtain ⟨lsl, hlsl⟩ : ∃ q, ls.length = q := ⟨_, rfl⟩
      rw [hlsl] at hl0 hl0d ⊢
      subst hl0
      clear hlsl
      have hcM : ∀ o, w9.cell? ⟨w3.heap.size, o, none⟩ = (#[.int .i64 m.c, .int .i64 m.d, .int .i64 m.s, .int .i64 m.e, .int .i64 m.l, .slice ta T.length tc] : Array Value)[o]? := fun o => by rw [cell_of_block HD9.out.hm]
      have hcRz : ∀ o, w9.cell? ⟨W.heap.size, o, none⟩ = (#[.int .i64 0, .int .i64 0, .int .i64 0, .int .i64 0, .int .i64 0, .slice none 0 0] : Array Value)[o]? := fun o => by rw [cell_of_block HD9.out.hr]
      have hfRz := fun o => frozen_of_block HD9.out.hr o
      have hdone := putS_facts HD9.out.src HD9.out.only HD9.out.hr (by omega) (Nat.le_refl _) (by omega) (.int .i64 m.c) (.int .i64 m.d) (.int .i64 m.s) (.int .i64 m.e) (.int .i64 m.l) (.slice ta T.length tc)
      obtain ⟨wz, hwz⟩ : ∃ wz, wz = putS w9 W.heap.size (.int .i64 m.c) (.int .i64 m.d) (.int .i64 m.s) (.int .i64 m.e) (.int .i64 m.l) (.slice ta T.length tc) := ⟨_, rfl⟩
      rw [← hwz] at hdone
      obtain ⟨hd1, hd2, hd3, hd4⟩ := hdone
      have hFz : V2 (fun b => W.heap.size ≤ b) wz (.slice ta T.length tc) T := V2.mono (S := fun b => W1.heap.size ≤ b ∧ b < w3.heap.size) HD9.out.tab (fun b hb _ => by have hb := hb.1; omega) (fun b hb _ => hd4 b (by have hb := hb.1; omega))
      have hcz : V2 (fun b => W.heap.size ≤ b) wz (.slice oa part.length oc) part := V2.mono (S := fun b => W1.heap.size ≤ b) HC9.out (fun b hb _ => by have hb : W1.heap.size ≤ b := hb; omega) (fun b hb _ => hd4 b (by have hb : W1.heap.size ≤ b := hb; omega))
      have hz0 : wz.cell? ⟨W.heap.size, 0, none⟩ = some (.int .i64 m.c) := by rw [cell_of_block hd3]; rfl
      have hz1 : wz.cell? ⟨W.heap.size, 1, none⟩ = some (.int .i64 m.d) := by rw [cell_of_block hd3]; rfl
      have hz2 : wz.cell? ⟨W.heap.size, 2, none⟩ = some (.int .i64 m.s) := by rw [cell_of_block hd3]; rfl
      have hz3 : wz.cell? ⟨W.heap.size, 3, none⟩ = some (.int .i64 m.e) := by rw [cell_of_block hd3]; rfl
      have hz4 : wz.cell? ⟨W.heap.size, 4, none⟩ = some (.int .i64 m.l) := by rw [cell_of_block hd3]; rfl
      have hz5 : wz.cell? ⟨W.heap.size, 5, none⟩ = some (.slice ta T.length tc) := by rw [cell_of_block hd3]; rfl
      have HZ := Lib.hid (And.intro hd1 (And.intro hd2 (And.intro hFz (And.intro hcz (And.intro hwz (And.intro hz0 (And.intro hz1 (And.intro hz2 (And.intro hz3 (And.intro hz4 hz5)))))))))); clear hd1 hd2 hd3 hd4 hFz hcz hwz hz0 hz1 hz2 hz3 hz4 hz5
      go_wp2_with fail
      have hwz := HZ.out.2.2.2.2.1
      unfold putS putR at hwz
      rw [← hwz]
      clear hwz
      obtain ⟨hd1, hd2, hFz, hcz, hwzz, hz0, hz1, hz2, hz3, hz4, hz5⟩ := HZ.out
      clear hwzz
      exact bodyPost_ret (v := .tuple #[.agg #[.int .i64 m.c, .int .i64 m.d, .int .i64 m.s, .int .i64 m.e, .int .i64 m.l, .slice ta T.length tc], (.slice oa part.length oc)]) (by simp [results, Tryz.results97, go_sem, hz0, hz1, hz2, hz3, hz4, hz5]) rfl ⟨m, _, _, T, part, rfl, HM.out, hFz, hcz, (fun _ => HR.out.2.2.2.2.1), hd1, hd2⟩
     ·have hl0d : ((ls.length : Int) == 0) = false := beq_eq_false_iff_ne.2 (by omega)
      have hl00 : ¬ (ls.length : Int) = 0 := by omega
      go_wp2_with fail
      refine (l01Next_any B0 SB _ _ HD9.out.src).mono ?_
      rintro e' wb ⟨y, rfl, ⟨hy0, hy1⟩, hsb, hob⟩
      have hzb := hob.size
      obtain ⟨k, rfl⟩ : ∃ k : Nat, y = (k : Int) := ⟨y.toNat, by omega⟩
      have hk : k < ls.length := by omega
      have hk1 : ¬ ls.length ≤ k := by omega
      have hLb := H9.out.2.1.only hob (by omega)
      obtain ⟨lvs, hlv1, hlv2⟩ := hLb
      obtain ⟨g, cap, ra, rc, e, hcc, hV⟩ := OV.row hlv1 hlv2 hk
      simp only [Value.slice.injEq] at e
      obtain ⟨rfl, _, rfl⟩ := e
      have hOb := H9.out.2.2.2.only hob (by omega)
      obtain ⟨vs, hvs, hrv⟩ := hOb
      have hpl9 : part.length ≤ 1000 := by have := Hpl.out; omega
      have horb := H9.out.1.trans hob
      have hkey : isKeyB m (getl ls k) = true := H9.out.2.2.1 _ (getl_mem hk)
      have hVk : V1 (fun b => w6.heap.size ≤ b ∧ (Value.slice oa part.length oc).ownBlock ≠ some b) wb (.slice ra (getl ls k).length rc) (getl ls k) := hV.mono (fun b hb _ => ⟨by have := hb.1; omega, fun e => by
       obtain ⟨vs', g1, _⟩ := HR.out.1
       have := (g1.lt b e).2
       have := hb.1
       omega⟩) (fun _ _ _ => rfl)
      have HB := Lib.hid (And.intro hvs (And.intro hrv (And.intro hVk (And.intro hsb (And.intro horb hkey))))); clear hvs hrv hVk hsb horb hkey hlv1 hlv2 hV hob hy0 hy1
      have hvsb := HB.out.1
      have hccz : wb.cell? ⟨g, k, none⟩ = some (.slice ra (getl ls k).length rc) := hcc
      go_wp2_with (at_builtin; refine wp_app1 _ rfl _ _ 26 rfl w6.heap.size 35 (.slice none 0 0) 24 Tryz.underlying26 inf_ints rfl _ _ _ rfl hvsb (.slice ra (getl ls k).length rc) _ rfl rfl (by omega) (by omega) (by omega) ?_; intro v1 w1 hown1 hgrow1 hblk1 hB1)
      have hP := OV.push2 HB.out.1 HB.out.2.1 HB.out.2.2.1 hown1 hgrow1 hblk1
      have hg1 : Chg (fun i => w6.heap.size ≤ i) wb w1 := (Chg.refl _ _).grown hgrow1 (fun g hg => .inl (hvsb.lt g hg).1)
      have hs1 := HB.out.2.2.2.1.keep hg1 (fun b hb => ⟨by omega, by omega⟩)
      have hoW1 : Only SB w6 w1 := Chg.trans HB.out.2.2.2.2.1 (G := fun i => w6.heap.size ≤ i) hg1 (fun i hi => .inr hi)
      obtain ⟨na, nc, rfl, _, _⟩ := own_form hown1
      have HE := Lib.hid (And.intro hP (And.intro hs1 (And.intro hoW1 (HR.out.2.1.snoc Hpl.out HB.out.2.2.2.2.2)))); clear hP hg1 hs1 hoW1 hgrow1 hblk1 hB1 hown1 hvsb
      go_roundw
      case rel => exact ⟨n, part ++ [getl ls k], by have := HR.out.2.2.2.2.2; simp; omega, by go_num, HE.out.1, HE.out.2.2.2, HE.out.2.1, HE.out.2.2.1⟩
      case measure => simp [intOf]
theorem putS_new {W w : World} {c0 c1 c2 c3 c4 c5 : Value} (hB : Below W.heap.size W w) (h : w.heap[W.heap.size]? = some (.cells #[c0, c1, c2, c3, c4, c5] 28 (0, 0))) (v0 v1 v2 v3 v4 v5 : Value) :
  Below W.heap.size W (putS w W.heap.size v0 v1 v2 v3 v4 v5) ∧ (putS w W.heap.size v0 v1 v2 v3 v4 v5).heap[W.heap.size]? = some (.cells #[v0, v1, v2, v3, v4, v5] 28 (0, 0)) ∧ ∀ b, b ≠ W.heap.size → (putS w W.heap.size v0 v1 v2 v3 v4 v5).heap[b]? = w.heap[b]? := by
 refine ⟨?_, ?_, fun b hb => ?_⟩
 ·unfold putS putR
  exact ((((((hB.setCell (Nat.le_refl _) _).setCell (Nat.le_refl _) _).setCell (Nat.le_refl _) _).setCell (Nat.le_refl _) _).setCell (Nat.le_refl _) _).setCell (Nat.le_refl _) _)
 ·unfold putS putR
  rw [heap_setCell_self (heap_setCell_self (heap_setCell_self (heap_setCell_self (heap_setCell_self (heap_setCell_self h _) _) _) _) _) _]
  simp
 ·unfold putS putR
  (repeat rw [heap_setCell_other _ hb])
theorem VB.below {S : Nat → Prop} {w w' : World} {v : Value} {l : List Int} (h : VB S w v l) (hb : Below w.heap.size w w') : VB S w' v l :=
 h.mono (fun _ h _ => h) (Below.keep hb fun _ _ h => h)
theorem Only.to_below {SB B : Nat} {a b : World} (h : Only SB a b) (hS : B ≤ SB) (hB : B ≤ a.heap.size) : Below B a b := Chg.to_below h (fun i hi => by omega) hB
/-- What a draw of a system and cuts from a code answers; X: what stands beside them. -/
def DrawC (W : World) (X : Mk → List (List Int) → List (List Int) → World → List Value → Prop) (e : Ending) (w' : World) : Prop :=
 ∃ (m : Mk) (u cv : Value) (T cuts : List (List Int)) (vs : List Value), e = .returned (.tuple (#[.agg #[.int .i64 m.c, .int .i64 m.d, .int .i64 m.s, .int .i64 m.e, .int .i64 m.l, u], cv] ++ vs.toArray)) ∧ X m T cuts w' vs ∧ V2 (fun b => W.heap.size ≤ b) w' u T ∧ V2 (fun b => W.heap.size ≤ b) w' cv cuts ∧ Below W.heap.size W w'
def DrawC2 (W : World) : Ending → World → Prop := DrawC W fun _ _ _ _ vs => vs = []
theorem DrawC2.open {W w' : World} {e : Ending} (h : DrawC2 W e w') : ∃ (m : Mk) (u cv : Value) (T cuts : List (List Int)), e = .returned (.tuple #[.agg #[.int .i64 m.c, .int .i64 m.d, .int .i64 m.s, .int .i64 m.e, .int .i64 m.l, u], cv]) ∧ V2 (fun b => W.heap.size ≤ b) w' u T ∧ V2 (fun b => W.heap.size ≤ b) w' cv cuts ∧ Below W.heap.size W w' := by
 obtain ⟨m, u, cv, T, cuts, vs, rfl, rfl, h1, h2, h3⟩ := h
 exact ⟨m, u, cv, T, cuts, rfl, h1, h2, h3⟩
def allHas (ls : List (List Int)) (rs : List Int) : Nat → Bool
 | 0 => true
 | k + 1 => allHas ls rs k && hasI (getl ls k) (geti rs k)
theorem allHas_false {ls : List (List Int)} {rs : List Int} {k : Nat} (h : hasI (getl ls k) (geti rs k) = false) : ∀ {n}, k < n → allHas ls rs n = false
 | 0, hk => by omega
 | n + 1, hk => by
   unfold allHas
   by_cases hkn : k = n
   ·subst hkn; rw [h, Bool.and_false]
   ·rw [allHas_false h (by omega), Bool.false_and]
def isReasAns (m : Mk) (t cuts : List (List Int)) (key door : Int) (rs : List Int) : Bool × Int :=
 if reasC m t cuts key door ≠ 0 then (false, reasC m t cuts key door)
 else (decide (rs.length = m.c.toNat) && allHas (reasRows t cuts key.toNat door.toNat m.c.toNat) rs rs.length, 0)
set_option maxRecDepth 100000 in
theorem IsReason_any {S S' S'' : Nat → Prop} (m : Mk) (u v x : Value) (t cuts : List (List Int)) (rs : List Int) (key door : Int) (W : World) (h : V2 S W u t) (hc : V2 S' W v cuts) (hr : V1 S'' W x rs) :
  Calls Tryz.prog 28 #[.agg #[.int .i64 m.c, .int .i64 m.d, .int .i64 m.s, .int .i64 m.e, .int .i64 m.l, u], v, .int .i64 key, .int .i64 door, x] W fun e' w' => e' = .returned (.tuple #[.bool (isReasAns m t cuts key door rs).1, .int .i64 (isReasAns m t cuts key door rs).2]) ∧ Below W.heap.size W w' := by
 obtain ⟨a, c, rfl, hmx⟩ := h.form
 obtain ⟨a', c', rfl, hmx'⟩ := hc.form
 obtain ⟨a'', c'', rfl, hmx''⟩ := hr.form
 obtain ⟨W1, hW1, hB01, hz01, HZ01, hc01, hh01⟩ := box_facts W #[.int .i64 m.c, .int .i64 m.d, .int .i64 m.s, .int .i64 m.e, .int .i64 m.l, .slice a t.length c] 28
 have hV1 : V2 (fun _ => True) W1 (.slice a t.length c) t := (h.below hB01).mono (fun _ _ _ => trivial) (fun _ _ _ => rfl)
 have hC1 : V2 (fun _ => True) W1 (.slice a' cuts.length c') cuts := (hc.below hB01).mono (fun _ _ _ => trivial) (fun _ _ _ => rfl)
 have hR1 : V1 (fun _ => True) W1 (.slice a'' rs.length c'') rs := (hr.below hB01).mono (fun _ _ _ => trivial) (fun _ _ _ => rfl)
 have hpart := reasonCode_any m _ _ t cuts key door W1 hV1 hC1
 by_cases hp : reasC m t cuts key door = 0
 ·rw [hp] at hpart
  have hfin : isReasAns m t cuts key door rs = (decide (rs.length = m.c.toNat) && allHas (reasRows t cuts key.toNat door.toNat m.c.toNat) rs rs.length, 0) := by unfold isReasAns; rw [if_neg (by rw [hp]; decide)]
  rw [hfin]
  obtain ⟨hpc, k, d, rfl, rfl, hk, hd, _⟩ := reasC_ok hp
  have hf := fits_of hpc
  have hmk := Mk.ok_iff.1 hf.ok
  simp only [Int.toNat_natCast]
  obtain ⟨n, hn, hn6, hn0⟩ : ∃ n : Nat, m.c.toNat = n ∧ n ≤ 6 ∧ (n : Int) = m.c := ⟨_, rfl, by omega, by omega⟩
  rw [hn]
  have hlen := reasRows_len t cuts k d n
  have Hn := Lib.hid (And.intro hn hn0); clear hn hn0 hfin hp hpc hmk
  have Hf := Lib.hid hf; clear hf
  generalize hR : reasRows t cuts k d n = R at *
  have HR := Lib.hid hR; clear hR
  obtain ⟨res, hres⟩ : ∃ r, (decide (rs.length = n) && allHas R rs rs.length) = r := ⟨_, rfl⟩
  rw [hres]
  have Hres := Lib.hid hres; clear hres
  go_enter Tryz.func28, Tryz.ntmps28
  go_wp2_with fail
  rw [← hW1]
  refine hpart.mono ?_
  rintro e' w2 ⟨rfl, hb2⟩
  have hx2 : ∀ o, w2.cell? ⟨W.heap.size, o, none⟩ = (#[.int .i64 m.c, .int .i64 m.d, .int .i64 m.s, .int .i64 m.e, .int .i64 m.l, .slice a t.length c] : Array Value)[o]? := fun o => by rw [(bcell hb2).1 _ _ hz01, hc01]
  clear hc01 hh01
  have HW1 := Lib.hid hW1; clear hW1
  go_wp2_with fail
  refine (reasonRows_any m _ _ t cuts k d n _ Hf.out hk hd Hn.out.2 (hV1.below hb2) (hC1.below hb2)).mono ?_
  rintro e' w3 ⟨v3, rfl, hF, hb3⟩
  rw [HR.out] at hF
  have hV3 := hF.v2
  obtain ⟨a3, c3, rfl, hl3⟩ := hV3.form
  have hR3 := hR1.below (hb2.trans (hb3.mono hb2.size))
  have hBf := hB01.trans ((hb2.trans (hb3.mono hb2.size)).mono (by omega))
  clear hx2
  by_cases hrl : rs.length = R.length
  ·go_wp2_with fail
   go_loop [14, 15, 36] (fun _ _ i => ∃ j : Nat, j ≤ rs.length ∧ i = .int .i64 (j : Int) ∧ allHas R rs j = true) (fun _ _ i => rs.length - (intOf i).toNat)
   case atStart => exact ⟨0, Nat.zero_le _, rfl, rfl⟩
   case round =>
    obtain ⟨j, hj, rfl, hal⟩ := hrel
    have Hal := Lib.hid hal; clear hal
    by_cases hjj : j < rs.length
    ·obtain ⟨b1, off1, a1, c1, rfl, _, hc1, hr1⟩ := hV3.cell (show j < R.length by omega)
     obtain ⟨b2, off2, hbx2, _, hc2⟩ := hR3.cell hjj
     subst hbx2
     cases hcn : hasI (getl R j) (geti rs j)
     ·have hdf : res = false := by rw [← Hres.out, allHas_false hcn hjj, Bool.and_false]
      subst hdf
      go_wp2_with fail
      refine (slContains_b _ _ _ _ false hcn hr1).mono ?_
      rintro e' w4 ⟨rfl, rfl⟩
      go_wp2_with fail
      go_ret2
      exact ⟨rfl, hBf⟩
     ·go_wp2_with fail
      refine (slContains_b _ _ _ _ true hcn hr1).mono ?_
      rintro e' w4 ⟨rfl, rfl⟩
      go_wp2_with fail
      go_round
      case rel => exact ⟨j + 1, by omega, by go_num, by rw [allHas, Hal.out, hcn]; rfl⟩
      case measure => simp [intOf]; omega
    ·obtain rfl : j = rs.length := by omega
     have hdf : res = true := by rw [← Hres.out, decide_eq_true (by omega), Hal.out]; rfl
     subst hdf
     go_wp2_with fail
     go_ret2
     exact ⟨rfl, hBf⟩
  ·have hdf : res = false := by rw [← Hres.out, decide_eq_false (by omega), Bool.false_and]
   subst hdf
   go_wp2_with fail
   go_ret2
   exact ⟨rfl, hBf⟩
 ·have hfin : isReasAns m t cuts key door rs = (false, reasC m t cuts key door) := by unfold isReasAns; rw [if_pos hp]
  have e1 : (reasC m t cuts key door != 0) = true := by simp [hp]
  rw [hfin]
  have Hp := Lib.hid hp; clear hp hfin
  generalize reasC m t cuts key door = pc at *
  go_enter Tryz.func28, Tryz.ntmps28
  go_wp2_with fail
  rw [← hW1]
  refine hpart.mono ?_
  rintro e' w2 ⟨rfl, hb2⟩
  clear hc01 hh01
  go_wp2_with fail
  go_ret2
  exact ⟨rfl, hB01.trans (hb2.mono (by omega))⟩
set_option maxRecDepth 100000 in
theorem IsReasonR_any {S S' S'' : Nat → Prop} (m : Mk) (u v x : Value) (t cuts : List (List Int)) (rs : List Int) (key door : Int) (W : World) (h : V2 S W u t) (hc : V2 S' W v cuts) (hr : V1 S'' W x rs) :
  Calls Tryz.prog 29 #[.agg #[.int .i64 m.c, .int .i64 m.d, .int .i64 m.s, .int .i64 m.e, .int .i64 m.l, u], v, .int .i64 key, .int .i64 door, x] W fun e' w' => e' = .returned (.tuple #[.bool (isReasAns m t cuts key door rs).1, .int .i64 (isReasAns m t cuts key door rs).2]) ∧ Below W.heap.size W w' := by
 obtain ⟨a, c, rfl, hmx⟩ := h.form
 obtain ⟨a', c', rfl, hmx'⟩ := hc.form
 obtain ⟨a'', c'', rfl, hmx''⟩ := hr.form
 obtain ⟨W1, hW1, hB01, hz01, HZ01, hc01, hh01⟩ := box_facts W #[.int .i64 m.c, .int .i64 m.d, .int .i64 m.s, .int .i64 m.e, .int .i64 m.l, .slice a t.length c] 28
 have hV1 : V2 (fun _ => True) W1 (.slice a t.length c) t := (h.below hB01).mono (fun _ _ _ => trivial) (fun _ _ _ => rfl)
 have hC1 : V2 (fun _ => True) W1 (.slice a' cuts.length c') cuts := (hc.below hB01).mono (fun _ _ _ => trivial) (fun _ _ _ => rfl)
 have hR1 : V1 (fun _ => True) W1 (.slice a'' rs.length c'') rs := (hr.below hB01).mono (fun _ _ _ => trivial) (fun _ _ _ => rfl)
 have hpart := l18Code_any m _ _ t cuts key door W1 hV1 hC1
 by_cases hp : reasC m t cuts key door = 0
 ·rw [hp] at hpart
  have hfin : isReasAns m t cuts key door rs = (decide (rs.length = m.c.toNat) && allHas (reasRows t cuts key.toNat door.toNat m.c.toNat) rs rs.length, 0) := by unfold isReasAns; rw [if_neg (by rw [hp]; decide)]
  rw [hfin]
  obtain ⟨hpc, k, d, rfl, rfl, hk, hd, _⟩ := reasC_ok hp
  have hf := fits_of hpc
  have hmk := Mk.ok_iff.1 hf.ok
  simp only [Int.toNat_natCast]
  obtain ⟨n, hn, hn6, hn0⟩ : ∃ n : Nat, m.c.toNat = n ∧ n ≤ 6 ∧ (n : Int) = m.c := ⟨_, rfl, by omega, by omega⟩
  rw [hn]
  have hlen := reasRows_len t cuts k d n
  have Hn := Lib.hid (And.intro hn hn0); clear hn hn0 hfin hp hpc hmk
  have Hf := Lib.hid hf; clear hf
  generalize hR : reasRows t cuts k d n = R at *
  have HR := Lib.hid hR; clear hR
  obtain ⟨res, hres⟩ : ∃ r, (decide (rs.length = n) && allHas R rs rs.length) = r := ⟨_, rfl⟩
  rw [hres]
  have Hres := Lib.hid hres; clear hres
  go_enter Tryz.func29, Tryz.ntmps29
  go_wp2_with fail
  rw [← hW1]
  refine hpart.mono ?_
  rintro e' w2 ⟨rfl, hb2⟩
  have hx2 : ∀ o, w2.cell? ⟨W.heap.size, o, none⟩ = (#[.int .i64 m.c, .int .i64 m.d, .int .i64 m.s, .int .i64 m.e, .int .i64 m.l, .slice a t.length c] : Array Value)[o]? := fun o => by rw [(bcell hb2).1 _ _ hz01, hc01]
  clear hc01 hh01
  have HW1 := Lib.hid hW1; clear hW1
  go_wp2_with fail
  refine (l18Rows_any m _ _ t cuts k d n _ Hf.out hk hd Hn.out.2 (hV1.below hb2) (hC1.below hb2)).mono ?_
  rintro e' w3 ⟨v3, rfl, hF, hb3⟩
  rw [HR.out] at hF
  have hV3 := hF.v2
  obtain ⟨a3, c3, rfl, hl3⟩ := hV3.form
  have hR3 := hR1.below (hb2.trans (hb3.mono hb2.size))
  have hBf := hB01.trans ((hb2.trans (hb3.mono hb2.size)).mono (by omega))
  clear hx2
  by_cases hrl : rs.length = R.length
  ·go_wp2_with fail
   go_loopw [14] (fun i wr => ∃ (j nq : Nat), j ≤ rs.length ∧ i = .int .i64 (j : Int) ∧ allHas R rs j = true ∧ wr = w3.drewN nq) (fun i _ => rs.length - (intOf i).toNat)
   case atStart => exact ⟨0, 0, Nat.zero_le _, rfl, rfl, rfl⟩
   case round =>
    obtain ⟨j, nq, hj, rfl, hal, rfl⟩ := hrel
    have Hal := Lib.hid hal; clear hal
    by_cases hjj : j < rs.length
    ·have hjR : j < R.length := by omega
     obtain ⟨b1, off1, a1, c1, rfl, _, hc1, hr1⟩ := hV3.cell hjR
     obtain ⟨b2, off2, hbx2, _, hc2⟩ := hR3.cell hjj
     subst hbx2
     cases hcn : hasI (getl R j) (geti rs j)
     ·have hdf : res = false := by rw [← Hres.out, allHas_false hcn hjj, Bool.and_false]
      subst hdf
      go_wp2_with fail
      go_quiet ((go_at_call 125; first | exact quiet_same (l01Has_b _ _ _ _ false hcn (V1.drewN hr1)) | exact quiet_same0 (l01Has_b _ _ _ _ false hcn hr1)))
      go_wp2_with fail
      go_ret2
      exact ⟨rfl, by repeat' first | refine below_drewN ?_ _ | exact hBf⟩
     ·go_wp2_with fail
      go_quiet ((go_at_call 125; first | exact quiet_same (l01Has_b _ _ _ _ true hcn (V1.drewN hr1)) | exact quiet_same0 (l01Has_b _ _ _ _ true hcn hr1)))
      go_wp2_with fail
      go_roundw
      case rel => exact ⟨j + 1, _, by omega, by go_num, by rw [allHas, Hal.out, hcn]; rfl, by first | rfl | simp only [World.drewN_drewN]⟩
      case measure => simp [intOf]; omega
    ·obtain rfl : j = rs.length := by omega
     have hdf : res = true := by rw [← Hres.out, decide_eq_true (by omega), Hal.out]; rfl
     subst hdf
     go_wp2_with fail
     go_ret2
     exact ⟨rfl, below_drewN hBf _⟩
  ·have hdf : res = false := by rw [← Hres.out, decide_eq_false (by omega), Bool.false_and]
   subst hdf
   go_wp2_with fail
   go_ret2
   exact ⟨rfl, hBf⟩
 ·have hfin : isReasAns m t cuts key door rs = (false, reasC m t cuts key door) := by unfold isReasAns; rw [if_pos hp]
  have e1 : (reasC m t cuts key door != 0) = true := by simp [hp]
  rw [hfin]
  have Hp := Lib.hid hp; clear hp hfin
  generalize reasC m t cuts key door = pc at *
  go_enter Tryz.func29, Tryz.ntmps29
  go_wp2_with fail
  rw [← hW1]
  refine hpart.mono ?_
  rintro e' w2 ⟨rfl, hb2⟩
  clear hc01 hh01
  go_wp2_with fail
  go_ret2
  exact ⟨rfl, hB01.trans (hb2.mono (by omega))⟩
/-- A function value that answers g of a number, and makes at most new memory. -/
def PredI (f : FuncId) (caps : Array Value) (W : World) (g : Int → Bool) (l : List Int) : Prop :=
 ∀ (w : World) (x : Int), Below W.heap.size W w → x ∈ l → Calls Tryz.prog f (#[.int .i64 x] ++ caps) w fun e w' => e = .returned (.bool (g x)) ∧ Below w.heap.size w w'
theorem indexFuncI_any {S : Nat → Prop} (v : Value) (l : List Int) (f : FuncId) (caps : Array Value) (g : Int → Bool) (W : World) (h : V1 S W v l) (hf : Enters f) (hp : PredI f caps W g l) :
  Calls Tryz.prog 217 #[v, .func (.func f) #[] caps] W fun e' w' => e' = .returned (.int .i64 (idxR g l 0)) ∧ Below W.heap.size W w' := by
 have hV := h
 obtain ⟨a, c, rfl, hm⟩ := h.form
 have Hp := Lib.hid hp; clear hp
 go_enter Tryz.func217, Tryz.ntmps217
 go_wp2_with fail
 go_loopw [5, 8] (fun _ i wr => ∃ k : Nat, k ≤ l.length ∧ i = .int .i64 k ∧ idxR g l 0 = idxR g (l.drop k) k ∧ Below W.heap.size W wr) (fun _ i _ => l.length - (intOf i).toNat)
 case atStart => exact ⟨0, Nat.zero_le _, rfl, rfl, Below.refl _ _⟩
 case round =>
  obtain ⟨k, hk, rfl, hrem, hB⟩ := hrel
  have Hr := Lib.hid hrem; clear hrem
  by_cases hkk : k < l.length
  ·obtain ⟨b1, off1, rfl, _, hc1⟩ := (hV.below hB).cell hkk
   have hf' := hf
   unfold Enters at hf'
   cases hg : g (geti l k)
   ·have HG := Lib.hid hg; clear hg
    go_wp2_with fail
    have hcl := Hp.out _ _ hB (geti_mem hkk)
    rw [HG.out] at hcl
    refine hcl.mono ?_
    rintro e' w' ⟨rfl, hb⟩
    have hzB := hb.size
    have hzW := hB.size
    go_wp2_with fail
    go_roundw
    case rel => exact ⟨k + 1, by omega, by go_num, by rw [Hr.out, idxR_stepi hkk, HG.out]; rfl, hB.trans (hb.mono hzW)⟩
    case measure => simp [intOf]; omega
   ·have HG := Lib.hid hg; clear hg
    go_wp2_with fail
    have hcl := Hp.out _ _ hB (geti_mem hkk)
    rw [HG.out] at hcl
    refine hcl.mono ?_
    rintro e' w' ⟨rfl, hb⟩
    have hzB := hb.size
    have hzW := hB.size
    go_wp2_with fail
    go_ret
    exact ⟨ret_int (by rw [Hr.out, idxR_stepi hkk, HG.out]; rfl), hB.trans (hb.mono hzW)⟩
  ·have hd : l.drop k = [] := List.drop_of_length_le (by omega)
   have Hd := Lib.hid hd; clear hd
   go_wp2_with fail
   go_ret
   exact ⟨ret_int (by rw [Hr.out, Hd.out]; rfl), hB⟩
theorem idxR_lt {g : Int → Bool} : ∀ {l : List Int} {k : Nat}, 0 ≤ idxR g l k → idxR g l k < k + l.length
 | [], k, h => by simp [idxR] at h
 | x :: xs, k, h => by
   unfold idxR at h ⊢
   split at h
   ·rename_i hg; rw [if_pos hg]; simp; omega
   ·rename_i hg; rw [if_neg hg]; have := idxR_lt h; simp; omega
/-- The first numbers of the first k lists that g lets pass, if each of these lists has one. -/
def firsts (g : Int → Bool) (ls : List (List Int)) : Nat → Option (List Int)
 | 0 => some []
 | k + 1 => match firsts g ls k with
   | none => none
   | some l => if idxR g (getl ls k) 0 < 0 then none else some (l ++ [geti (getl ls k) (idxR g (getl ls k) 0).toNat])
theorem firsts_len {g : Int → Bool} {ls : List (List Int)} : ∀ {k : Nat} {l : List Int}, firsts g ls k = some l → l.length = k
 | 0, l, h => by simp [firsts] at h; simp [← h]
 | k + 1, l, h => by
   unfold firsts at h
   split at h
   ·cases h
   ·rename_i l' hl'
    split at h
    ·cases h
    ·injection h with h; subst h; simp [firsts_len hl']
theorem firsts_none {g : Int → Bool} {ls : List (List Int)} {k : Nat} (h : firsts g ls k = none) : ∀ {n}, k ≤ n → firsts g ls n = none
 | 0, hk => by obtain rfl : k = 0 := by omega
               exact h
 | n + 1, hk => by
   by_cases hkn : k = n + 1
   ·subst hkn; exact h
   ·unfold firsts; rw [firsts_none h (show k ≤ n by omega)]
def firstsAns (g : Int → Bool) (ls : List (List Int)) : List Int × Bool := match firsts g ls ls.length with
 | none => ([], false)
 | some l => (l, true)
/-- A fresh list that may grow in place. -/
def FO (B : Nat) (w : World) (v : Value) (l : List Int) : Prop := F1 B w v l ∧ (l ≠ [] → w.ownsRow B 2 1 v l.length (l.map (Value.int .i64)))
theorem FO.below {B : Nat} {w w' : World} {v : Value} {l : List Int} (h : FO B w v l) (hb : Below w.heap.size w w') : FO B w' v l :=
 ⟨h.1.below hb, fun hn => own_chg (h.2 hn) (Chg.of_below (F := fun _ => False) hb) (fun _ _ h => h)⟩
theorem FO.mono {B B' : Nat} {w : World} {v : Value} {l : List Int} (h : FO B w v l) (hb : B' ≤ B) : FO B' w v l := ⟨h.1.mono hb, fun hn => own_base (h.2 hn) hb⟩
theorem firstFrom_own {S : Nat → Prop} (v : Value) (ls : List (List Int)) (f : FuncId) (caps : Array Value) (g : Int → Bool) (W : World) (h : V2 S W v ls) (hl6 : ls.length ≤ 1048576) (hf : Enters f) (hp : ∀ k, k < ls.length → PredI f caps W g (getl ls k)) :
  Calls Tryz.prog 116 #[v, .func (.func f) #[] caps] W fun e' w' => ∃ v', e' = .returned (.tuple #[v', .bool (firstsAns g ls).2]) ∧ FO W.heap.size w' v' (firstsAns g ls).1 ∧ Below W.heap.size W w' := by
 have hV := h
 obtain ⟨a, c, rfl, hm⟩ := h.form
 have Hp := Lib.hid hp; clear hp
 obtain ⟨B, hBs⟩ : ∃ B, B = W.heap.size := ⟨_, rfl⟩
 rw [← hBs]
 have hown0 := own_lit0 W B 2 1 (by omega)
 obtain ⟨ans, hans⟩ : ∃ r, firstsAns g ls = r := ⟨_, rfl⟩
 rw [hans]
 have Hans := Lib.hid hans; clear hans
 have Hp2 : ∀ w : World, Below B W w → Below W.heap.size W w := fun w h => by rw [← hBs]; exact h
 have hBle : B ≤ W.heap.size := by omega
 have hBge : W.heap.size ≤ B := by omega
 have Hp2 := Lib.hid Hp2
 have hHB := Lib.hid hBs
 clear hBs
 go_enter Tryz.func116, Tryz.ntmps116
 go_wp2_with fail
 go_loopw [6, 8, 9, 13] (fun ro _ _ i wr => ∃ (k : Nat) (l : List Int), k ≤ ls.length ∧ i = .int .i64 k ∧ firsts g ls k = some l ∧ wr.ownsRow B 2 1 ro l.length (l.map (Value.int .i64)) ∧ Below B W wr) (fun _ _ _ i _ => ls.length - (intOf i).toNat)
 case atStart => exact ⟨0, [], Nat.zero_le _, rfl, rfl, hown0, (Below.refl _ _).alloc (by omega) _⟩
 case round =>
  obtain ⟨k, l, hk, rfl, hfk, hown, hB⟩ := hrel
  have hll := firsts_len hfk
  have Hfk := Lib.hid hfk; clear hfk
  by_cases hkk : k < ls.length
  ·obtain ⟨b1, off1, a1, c1, rfl, _, hc1, hr1⟩ := (hV.below (Hp2.out _ hB)).cell hkk
   have hlen1 := hr1.len
   unfold maxLen at hlen1
   have hpk : PredI f caps wr g (getl ls k) := fun w x hb hx => Hp.out k hkk w x (Hp2.out _ (hB.trans (hb.mono (by have := hB.size; omega)))) hx
   by_cases hix : idxR g (getl ls k) 0 < 0
   ·have hfin : ans = ([], false) := by
     rw [← Hans.out]; unfold firstsAns
     rw [firsts_none (k := k + 1) (by unfold firsts; rw [Hfk.out]; simp only [if_pos hix]) (by omega)]
    subst hfin
    have Hown := Lib.hid hown; clear hown
    go_wp2_with fail
    refine (indexFuncI_any _ _ _ _ _ _ hr1 hf hpk).mono ?_
    rintro e' w2 ⟨rfl, hb2⟩
    generalize idxR g (getl ls k) 0 = q at *
    go_wp2_with fail
    go_ret2
    exact ⟨_, rfl, ⟨⟨0, ⟨none, 0, rfl, Nat.le_refl _, Nat.zero_le _, fun hn => absurd rfl hn⟩, fun hn => absurd rfl hn⟩, fun hn => absurd rfl hn⟩, hB.trans (hb2.mono (by have := hB.size; omega))⟩
   ·have hlt := idxR_lt (g := g) (l := getl ls k) (k := 0) (by omega)
    have hst : firsts g ls (k + 1) = some (l ++ [geti (getl ls k) (idxR g (getl ls k) 0).toNat]) := by
     unfold firsts; rw [Hfk.out]; simp only [if_neg hix]
    have Hst := Lib.hid hst; clear hst
    obtain ⟨q, hq⟩ : ∃ q : Nat, idxR g (getl ls k) 0 = (q : Int) := ⟨(idxR g (getl ls k) 0).toNat, by omega⟩
    have hql : q < (getl ls k).length := by omega
    have Hq := Lib.hid hq; clear hq
    clear hix hlt
    have Hown := Lib.hid hown; clear hown
    go_wp2_with fail
    refine (indexFuncI_any _ _ _ _ _ _ hr1 hf hpk).mono ?_
    rintro e' w2 ⟨rfl, hb2⟩
    rw [Hq.out]
    obtain ⟨b2, off2, ea, _, hc2⟩ := (hr1.below hb2).cell hql
    subst ea
    have hown2 := own_chg Hown.out (Chg.of_below (F := fun _ => False) hb2) (fun _ _ h => h)
    have hB2 := hB.trans (hb2.mono (by have := hB.size; omega))
    have hzB := hB2.size
    go_wp2_with (at_builtin; refine wp_app1 _ rfl _ _ 35 rfl B 2 (.int .i64 0) 8 Tryz.underlying35 inf_int rfl _ _ _ rfl hown2 (.int .i64 (geti (getl ls k) q)) _ rfl rfl (by omega) (by omega) (by omega) ?_; intro v1 w1 hown1 hgrow1 hblk1 hB1)
    go_roundw
    case rel =>
     refine ⟨k + 1, _, by omega, by go_num, Hst.out, ?_, ?_⟩
     ·rw [Hq.out]
      simpa using hown1
     ·exact hB2.trans (hB1.mono (by omega))
    case measure => simp [intOf]; omega
  ·obtain rfl : k = ls.length := by omega
   have hfin : ans = (l, true) := by
    rw [← Hans.out]; unfold firstsAns
    rw [Hfk.out]
   subst hfin
   go_wp2_with fail
   go_ret2
   exact ⟨_, rfl, ⟨own_F1 hown, fun _ => hown⟩, hB⟩
theorem firstFrom_any {S : Nat → Prop} (v : Value) (ls : List (List Int)) (f : FuncId) (caps : Array Value) (g : Int → Bool) (W : World) (h : V2 S W v ls) (hl6 : ls.length ≤ 1048576) (hf : Enters f) (hp : ∀ k, k < ls.length → PredI f caps W g (getl ls k)) :
  Calls Tryz.prog 116 #[v, .func (.func f) #[] caps] W fun e' w' => ∃ v', e' = .returned (.tuple #[v', .bool (firstsAns g ls).2]) ∧ F1 W.heap.size w' v' (firstsAns g ls).1 ∧ Below W.heap.size W w' :=
 (firstFrom_own v ls f caps g W h hl6 hf hp).mono fun e' w' ⟨v', h1, h2, h3⟩ => ⟨v', h1, h2.1, h3⟩
theorem idxR_true (l : List Int) : idxR (fun _ => true) l 0 = if l.length = 0 then -1 else 0 := by
 cases l <;> simp [idxR]
theorem firsts_true {ls : List (List Int)} : ∀ {k : Nat}, (∀ j, j < k → (getl ls j).length ≠ 0) → firsts (fun _ => true) ls k = some ((List.range k).map fun j => geti (getl ls j) 0)
 | 0, _ => rfl
 | k + 1, h => by
   unfold firsts
   rw [firsts_true (fun j hj => h j (by omega)), idxR_true, if_neg (h k (by omega))]
   simp [List.range_succ]
theorem firsts_empty {ls : List (List Int)} {j n : Nat} (h : (getl ls j).length = 0) (hn : j < n) : firsts (fun _ => true) ls n = none := by
 refine firsts_none (k := j + 1) ?_ (by omega)
 unfold firsts
 rw [idxR_true, if_pos h]
 cases firsts (fun _ => true) ls j <;> simp
theorem prodTo_zero {ls : List (List Int)} : ∀ {k : Nat}, prodTo ls k = 0 → ∃ j, j < k ∧ (getl ls j).length = 0
 | 0, h => by simp [prodTo] at h
 | k + 1, h => by
   unfold prodTo at h
   rcases Nat.mul_eq_zero.1 h with h | h
   ·obtain ⟨j, hj, hl⟩ := prodTo_zero h; exact ⟨j, by omega, hl⟩
   ·exact ⟨k, by omega, h⟩
theorem prodTo_pos {ls : List (List Int)} : ∀ {k : Nat}, prodTo ls k ≠ 0 → ∀ j, j < k → (getl ls j).length ≠ 0
 | 0, h, j, hj => by omega
 | k + 1, h, j, hj => by
   unfold prodTo at h
   by_cases hjk : j = k
   ·subst hjk; exact fun e => h (by rw [e, Nat.mul_zero])
   ·exact prodTo_pos (fun e => h (by rw [e, Nat.zero_mul])) j (by omega)
def firstReas (rows : List (List Int)) : List Int × Int := if prodTo rows rows.length = 0 then ([], 4) else ((List.range rows.length).map (fun j => geti (getl rows j) 0), 0)
theorem firstsAns_true (rows : List (List Int)) : firstsAns (fun _ => true) rows = ((firstReas rows).1, decide ((firstReas rows).2 = 0)) := by
 unfold firstsAns firstReas
 by_cases h : prodTo rows rows.length = 0
 ·obtain ⟨j, hj, hl⟩ := prodTo_zero h
  rw [if_pos h, firsts_empty hl hj]; rfl
 ·rw [if_neg h, firsts_true (prodTo_pos h)]; rfl
def firstReasAns (m : Mk) (t cuts : List (List Int)) (key door : Int) : List Int × Int :=
 if reasC m t cuts key door ≠ 0 then ([], reasC m t cuts key door) else firstReas (reasRows t cuts key.toNat door.toNat m.c.toNat)
theorem F1.empty {B : Nat} {w : World} : F1 B w (.slice none 0 0) [] := ⟨0, ⟨none, 0, rfl, Nat.le_refl _, Nat.zero_le _, fun hn => absurd rfl hn⟩, fun hn => absurd rfl hn⟩
theorem enters_first : Enters 118 := fun args w => by kernel_rfl
theorem first1_any (x : Int) (W : World) : Calls Tryz.prog 118 #[.int .i64 x] W fun e' w' => e' = .returned (.bool true) ∧ W = w' := by
 go_enter Tryz.func118, Tryz.ntmps118
 go_wp2_with fail
 go_ret
 exact ⟨rfl, rfl⟩
set_option maxRecDepth 100000 in
theorem FirstReason_any {S S' : Nat → Prop} (m : Mk) (u v : Value) (t cuts : List (List Int)) (key door : Int) (W : World) (h : V2 S W u t) (hc : V2 S' W v cuts) :
  Calls Tryz.prog 21 #[.agg #[.int .i64 m.c, .int .i64 m.d, .int .i64 m.s, .int .i64 m.e, .int .i64 m.l, u], v, .int .i64 key, .int .i64 door] W fun e' w' => ∃ v', e' = .returned (.tuple #[v', .int .i64 (firstReasAns m t cuts key door).2]) ∧ F1 W.heap.size w' v' (firstReasAns m t cuts key door).1 ∧ Below W.heap.size W w' := by
 obtain ⟨a, c, rfl, hmx⟩ := h.form
 obtain ⟨a', c', rfl, hmx'⟩ := hc.form
 obtain ⟨W1, hW1, hB01, hz01, HZ01, hc01, hh01⟩ := box_facts W #[.int .i64 m.c, .int .i64 m.d, .int .i64 m.s, .int .i64 m.e, .int .i64 m.l, .slice a t.length c] 28
 have hV1 : V2 (fun _ => True) W1 (.slice a t.length c) t := (h.below hB01).mono (fun _ _ _ => trivial) (fun _ _ _ => rfl)
 have hC1 : V2 (fun _ => True) W1 (.slice a' cuts.length c') cuts := (hc.below hB01).mono (fun _ _ _ => trivial) (fun _ _ _ => rfl)
 have hpart := reasonCode_any m _ _ t cuts key door W1 hV1 hC1
 by_cases hp : reasC m t cuts key door = 0
 ·rw [hp] at hpart
  have hfin : firstReasAns m t cuts key door = firstReas (reasRows t cuts key.toNat door.toNat m.c.toNat) := by unfold firstReasAns; rw [if_neg (by rw [hp]; decide)]
  rw [hfin]
  obtain ⟨hpc, k, d, rfl, rfl, hk, hd, _⟩ := reasC_ok hp
  have hf := fits_of hpc
  have hmk := Mk.ok_iff.1 hf.ok
  simp only [Int.toNat_natCast]
  obtain ⟨n, hn, hn6, hn0⟩ : ∃ n : Nat, m.c.toNat = n ∧ n ≤ 6 ∧ (n : Int) = m.c := ⟨_, rfl, by omega, by omega⟩
  rw [hn]
  have hlen := reasRows_len t cuts k d n
  have hsm := reasRows_small (t := t) (key := k) (door := d) (n := n) (show cuts.length ≤ 10 by have := hf.few; have := hf.rows; omega)
  have Hn := Lib.hid (And.intro hn hn0); clear hn hn0 hfin hp hpc hmk
  have Hf := Lib.hid hf; clear hf
  generalize hR : reasRows t cuts k d n = R at *
  have HR := Lib.hid hR; clear hR
  have Hsm := Lib.hid hsm; clear hsm
  have hR6 : R.length ≤ 6 := by omega
  clear hlen
  have hft := firstsAns_true R
  by_cases h0 : prodTo R R.length = 0
  ·have hfr : firstReas R = ([], 4) := by unfold firstReas; rw [if_pos h0]
   rw [hfr] at hft ⊢
   have Hft := Lib.hid hft; clear hft hfr h0
   go_enter Tryz.func21, Tryz.ntmps21
   go_wp2_with fail
   rw [← hW1]
   refine hpart.mono ?_
   rintro e' w2 ⟨rfl, hb2⟩
   have hx2 : ∀ o, w2.cell? ⟨W.heap.size, o, none⟩ = (#[.int .i64 m.c, .int .i64 m.d, .int .i64 m.s, .int .i64 m.e, .int .i64 m.l, .slice a t.length c] : Array Value)[o]? := fun o => by rw [(bcell hb2).1 _ _ hz01, hc01]
   clear hc01 hh01
   have HW1 := Lib.hid hW1; clear hW1
   go_wp2_with fail
   refine (reasonRows_any m _ _ t cuts k d n _ Hf.out hk hd Hn.out.2 (hV1.below hb2) (hC1.below hb2)).mono ?_
   rintro e' w3 ⟨v3, rfl, hF, hb3⟩
   rw [HR.out] at hF
   have hV3 := hF.v2
   obtain ⟨a3, c3, rfl, hl3⟩ := hV3.form
   have hBf := hB01.trans ((hb2.trans (hb3.mono hb2.size)).mono (by omega))
   have hzf := hBf.size
   clear hx2
   go_wp2_with fail
   refine (firstFrom_any _ R _ #[] (fun _ => true) w3 hV3 (by omega) enters_first (fun k hk w x hb hx => by refine (first1_any x w).mono ?_; rintro e' w' ⟨rfl, rfl⟩; exact ⟨rfl, Below.refl _ _⟩)).mono ?_
   rintro e' w4 ⟨v4, rfl, hF4, hb4⟩
   rw [Hft.out]
   have hBg := hBf.trans (hb4.mono hzf)
   clear hF4
   go_wp2_with fail
   go_ret2
   exact ⟨_, rfl, F1.empty, hBg⟩
  ·have hfr : (firstReas R).2 = 0 := by unfold firstReas; rw [if_neg h0]
   rw [hfr] at hft ⊢
   generalize (firstReas R).1 = la at *
   have Hft := Lib.hid hft; clear hft hfr h0
   go_enter Tryz.func21, Tryz.ntmps21
   go_wp2_with fail
   rw [← hW1]
   refine hpart.mono ?_
   rintro e' w2 ⟨rfl, hb2⟩
   have hx2 : ∀ o, w2.cell? ⟨W.heap.size, o, none⟩ = (#[.int .i64 m.c, .int .i64 m.d, .int .i64 m.s, .int .i64 m.e, .int .i64 m.l, .slice a t.length c] : Array Value)[o]? := fun o => by rw [(bcell hb2).1 _ _ hz01, hc01]
   clear hc01 hh01
   have HW1 := Lib.hid hW1; clear hW1
   go_wp2_with fail
   refine (reasonRows_any m _ _ t cuts k d n _ Hf.out hk hd Hn.out.2 (hV1.below hb2) (hC1.below hb2)).mono ?_
   rintro e' w3 ⟨v3, rfl, hF, hb3⟩
   rw [HR.out] at hF
   have hV3 := hF.v2
   obtain ⟨a3, c3, rfl, hl3⟩ := hV3.form
   have hBf := hB01.trans ((hb2.trans (hb3.mono hb2.size)).mono (by omega))
   have hzf := hBf.size
   clear hx2
   go_wp2_with fail
   refine (firstFrom_any _ R _ #[] (fun _ => true) w3 hV3 (by omega) enters_first (fun k hk w x hb hx => by refine (first1_any x w).mono ?_; rintro e' w' ⟨rfl, rfl⟩; exact ⟨rfl, Below.refl _ _⟩)).mono ?_
   rintro e' w4 ⟨v4, rfl, hF4, hb4⟩
   rw [Hft.out] at hF4 ⊢
   have hBg := hBf.trans (hb4.mono hzf)
   have HF4 := Lib.hid (hF4.mono hzf); clear hF4
   go_wp2_with fail
   go_ret2
   exact ⟨_, rfl, HF4.out, hBg⟩
 ·have hfin : firstReasAns m t cuts key door = ([], reasC m t cuts key door) := by unfold firstReasAns; rw [if_pos hp]
  have e1 : (reasC m t cuts key door != 0) = true := by simp [hp]
  rw [hfin]
  have Hp := Lib.hid hp; clear hp hfin
  generalize reasC m t cuts key door = pc at *
  go_enter Tryz.func21, Tryz.ntmps21
  go_wp2_with fail
  rw [← hW1]
  refine hpart.mono ?_
  rintro e' w2 ⟨rfl, hb2⟩
  clear hc01 hh01
  go_wp2_with fail
  go_ret2
  exact ⟨_, rfl, F1.empty, hB01.trans (hb2.mono (by omega))⟩
set_option maxRecDepth 100000 in
theorem FirstReasonR_any {S S' : Nat → Prop} (m : Mk) (u v : Value) (t cuts : List (List Int)) (key door : Int) (W : World) (h : V2 S W u t) (hc : V2 S' W v cuts) :
  Calls Tryz.prog 22 #[.agg #[.int .i64 m.c, .int .i64 m.d, .int .i64 m.s, .int .i64 m.e, .int .i64 m.l, u], v, .int .i64 key, .int .i64 door] W fun e' w' => ∃ v', e' = .returned (.tuple #[v', .int .i64 (firstReasAns m t cuts key door).2]) ∧ F1 W.heap.size w' v' (firstReasAns m t cuts key door).1 ∧ Below W.heap.size W w' := by
 obtain ⟨a, c, rfl, hmx⟩ := h.form
 obtain ⟨a', c', rfl, hmx'⟩ := hc.form
 obtain ⟨W1, hW1, hB01, hz01, HZ01, hc01, hh01⟩ := box_facts W #[.int .i64 m.c, .int .i64 m.d, .int .i64 m.s, .int .i64 m.e, .int .i64 m.l, .slice a t.length c] 28
 have hV1 : V2 (fun _ => True) W1 (.slice a t.length c) t := (h.below hB01).mono (fun _ _ _ => trivial) (fun _ _ _ => rfl)
 have hC1 : V2 (fun _ => True) W1 (.slice a' cuts.length c') cuts := (hc.below hB01).mono (fun _ _ _ => trivial) (fun _ _ _ => rfl)
 have hpart := l18Code_any m _ _ t cuts key door W1 hV1 hC1
 by_cases hp : reasC m t cuts key door = 0
 ·rw [hp] at hpart
  have hfin : firstReasAns m t cuts key door = firstReas (reasRows t cuts key.toNat door.toNat m.c.toNat) := by unfold firstReasAns; rw [if_neg (by rw [hp]; decide)]
  rw [hfin]
  obtain ⟨hpc, k, d, rfl, rfl, hk, hd, _⟩ := reasC_ok hp
  have hf := fits_of hpc
  have hmk := Mk.ok_iff.1 hf.ok
  simp only [Int.toNat_natCast]
  obtain ⟨n, hn, hn6, hn0⟩ : ∃ n : Nat, m.c.toNat = n ∧ n ≤ 6 ∧ (n : Int) = m.c := ⟨_, rfl, by omega, by omega⟩
  rw [hn]
  have hlen := reasRows_len t cuts k d n
  have hsm := reasRows_small (t := t) (key := k) (door := d) (n := n) (show cuts.length ≤ 10 by have := hf.few; have := hf.rows; omega)
  have Hn := Lib.hid (And.intro hn hn0); clear hn hn0 hfin hp hpc hmk
  have Hf := Lib.hid hf; clear hf
  generalize hR : reasRows t cuts k d n = R at *
  have HR := Lib.hid hR; clear hR
  have Hsm := Lib.hid hsm; clear hsm
  have hR6 : R.length ≤ 6 := by omega
  clear hlen
  by_cases h0 : prodTo R R.length = 0
  ·have hfr : firstReas R = ([], 4) := by unfold firstReas; rw [if_pos h0]
   rw [hfr]
   have H0 := Lib.hid h0; clear h0 hfr
   go_enter Tryz.func22, Tryz.ntmps22
   go_wp2_with fail
   rw [← hW1]
   refine hpart.mono ?_
   rintro e' w2 ⟨rfl, hb2⟩
   have hx2 : ∀ o, w2.cell? ⟨W.heap.size, o, none⟩ = (#[.int .i64 m.c, .int .i64 m.d, .int .i64 m.s, .int .i64 m.e, .int .i64 m.l, .slice a t.length c] : Array Value)[o]? := fun o => by rw [(bcell hb2).1 _ _ hz01, hc01]
   clear hc01 hh01
   have HW1 := Lib.hid hW1; clear hW1
   go_wp2_with fail
   refine (l18Rows_any m _ _ t cuts k d n _ Hf.out hk hd Hn.out.2 (hV1.below hb2) (hC1.below hb2)).mono ?_
   rintro e' w3 ⟨v3, rfl, hF, hb3⟩
   rw [HR.out] at hF
   have hV3 := hF.v2
   obtain ⟨a3, c3, rfl, hl3⟩ := hV3.form
   have hBf := hB01.trans ((hb2.trans (hb3.mono hb2.size)).mono (by omega))
   have hzf := hBf.size
   clear hx2
   go_wp2_with fail
   refine (l18Number_any _ _ _ hV3 Hsm.out hR6).mono ?_
   rintro e' w4 ⟨rfl, rfl⟩
   rw [H0.out]
   go_wp2_with fail
   go_ret2
   exact ⟨_, rfl, F1.empty, hBf⟩
  ·have hfr : firstReas R = ((List.range R.length).map (fun j => geti (getl R j) 0), 0) := by unfold firstReas; rw [if_neg h0]
   rw [hfr]
   have hpos := prodTo_pos h0
   have h0'' : (((prodTo R R.length : Nat) : Int) == 0) = false := by simp [h0]
   have Hpos := Lib.hid hpos; clear hpos hfr h0
   go_enter Tryz.func22, Tryz.ntmps22
   go_wp2_with fail
   rw [← hW1]
   refine hpart.mono ?_
   rintro e' w2 ⟨rfl, hb2⟩
   have hx2 : ∀ o, w2.cell? ⟨W.heap.size, o, none⟩ = (#[.int .i64 m.c, .int .i64 m.d, .int .i64 m.s, .int .i64 m.e, .int .i64 m.l, .slice a t.length c] : Array Value)[o]? := fun o => by rw [(bcell hb2).1 _ _ hz01, hc01]
   clear hc01 hh01
   have HW1 := Lib.hid hW1; clear hW1
   go_wp2_with fail
   refine (l18Rows_any m _ _ t cuts k d n _ Hf.out hk hd Hn.out.2 (hV1.below hb2) (hC1.below hb2)).mono ?_
   rintro e' w3 ⟨v3, rfl, hF, hb3⟩
   rw [HR.out] at hF
   have hV3 := hF.v2
   obtain ⟨a3, c3, rfl, hl3⟩ := hV3.form
   have hBf := hB01.trans ((hb2.trans (hb3.mono hb2.size)).mono (by omega))
   have hzf := hBf.size
   clear hx2
   obtain ⟨B, hBs⟩ : ∃ B, B = w3.heap.size := ⟨_, rfl⟩
   have hown0 := own_lit0 w3 B 2 1 (by omega)
   have hBle : w3.heap.size ≤ B := by omega
   have hBge : B ≤ w3.heap.size := by omega
   clear hBs
   go_wp2_with fail
   refine (l18Number_any _ _ _ hV3 Hsm.out hR6).mono ?_
   rintro e' w4 ⟨rfl, rfl⟩
   generalize ((prodTo R R.length : Nat) : Int) = pr at *
   go_wp2_with fail
   go_loopw [12, 13] (fun ro i wr => ∃ k : Nat, k ≤ R.length ∧ i = .int .i64 k ∧ wr.ownsRow B 2 1 ro k (((List.range k).map fun j => geti (getl R j) 0).map (Value.int .i64)) ∧ Below B w3 wr) (fun _ i _ => R.length - (intOf i).toNat)
   case atStart => exact ⟨0, Nat.zero_le _, rfl, hown0, (Below.refl _ _).alloc (by omega) _⟩
   case round =>
    obtain ⟨k, hk, rfl, hown, hB⟩ := hrel
    have hzr := hB.size
    by_cases hkk : k < R.length
    ·obtain ⟨b1, off1, a1, c1, rfl, _, hc1, hr1⟩ := (hV3.below (hB.mono hBle)).cell hkk
     have hl1 := hr1.len
     unfold maxLen at hl1
     have hp1 : 0 < (getl R k).length := by have := Hpos.out k hkk; omega
     obtain ⟨b2, off2, rfl, _, hc2⟩ := hr1.cell hp1
     rw [Nat.add_zero] at hc2
     go_wp2_with (at_builtin; refine wp_app1 _ rfl _ _ 35 rfl B 2 (.int .i64 0) 8 Tryz.underlying35 inf_int rfl _ _ _ rfl hown (.int .i64 (geti (getl R k) 0)) _ rfl rfl (by omega) (by omega) (by omega) ?_; intro v1 w1 hown1 hgrow1 hblk1 hB1)
     go_roundw
     case rel => exact ⟨k + 1, by omega, by go_num, by rw [List.range_succ, List.map_append, List.map_append]; exact hown1, hB.trans hB1⟩
     case measure => simp [intOf]; omega
    ·obtain rfl : k = R.length := by omega
     go_wp2_with fail
     go_ret2
     exact ⟨_, rfl, (own_F1 hown).mono (by omega), hBf.trans (hB.mono (by omega))⟩
 ·have hfin : firstReasAns m t cuts key door = ([], reasC m t cuts key door) := by unfold firstReasAns; rw [if_pos hp]
  have e1 : (reasC m t cuts key door != 0) = true := by simp [hp]
  rw [hfin]
  have Hp := Lib.hid hp; clear hp hfin
  generalize reasC m t cuts key door = pc at *
  go_enter Tryz.func22, Tryz.ntmps22
  go_wp2_with fail
  rw [← hW1]
  refine hpart.mono ?_
  rintro e' w2 ⟨rfl, hb2⟩
  clear hc01 hh01
  go_wp2_with fail
  go_ret2
  exact ⟨_, rfl, F1.empty, hB01.trans (hb2.mono (by omega))⟩
end Go.Proofs.YtmaefilliggjiaaGreat
