/- The reference's draws of a limit, and of a system and cuts that may be part of a design. No conditions. -/
import Derived.Test.YtmaefilliggjiaaGreatMGoS
import Derived.Test.YtmaefilliggjiaaGreatMDraw14
import Derived.Test.YtmaefilliggjiaaGreatMReadQ
import Derived.Test.YtmaefilliggjiaaGreatMHullR
import Derived.Test.YtmaefilliggjiaaGreatMDraw1
import Derived.Test.YtmaefilliggjiaaGreatMEach5
import Derived.Test.YtmaefilliggjiaaGreatMRefFirst
import Derived.Test.YtmaefilliggjiaaGreatMKeys
namespace Go.Proofs.YtmaefilliggjiaaGreat
open Go.RowKit
set_option linter.unusedVariables false
set_option linter.unusedSimpArgs false
set_option maxRecDepth 100000 in
set_option maxHeartbeats 4000000 in
theorem l17DrawLimit_any (B0 SB : Nat) (W : World) (h : Src B0 SB W) :
  Calls Tryz.prog 165 #[.pointer (some ⟨SB, 0, none⟩)] W fun e w' => ∃ x : Int, e = .returned (.int .i64 x) ∧ Src B0 SB w' ∧ Only SB W w' := by
 have hSl := h.lt
 have HL := Lib.hid h; clear h
 go_enter Tryz.func165, Tryz.ntmps165
 go_wp2_with fail
 refine (l01Next_any B0 SB 16 _ HL.out).mono ?_
 rintro e' w2 ⟨x, rfl, ⟨hx0, hx1⟩, hs2, ho2⟩
 have hz2 := ho2.size
 have H2 := Lib.hid (And.intro hs2 ho2); clear hs2 ho2
 by_cases hx : x = 0
 ·subst hx
  clear hx0 hx1
  obtain ⟨wa, hwa⟩ : ∃ wa, wa = w2.alloc (.cells #[.int .i64 (-1), .int .i64 0, .int .i64 4001] 2) := ⟨_, rfl⟩
  have hbi : Below w2.heap.size w2 wa := by rw [hwa]; exact (Below.refl w2.heap.size w2).alloc (Nat.le_refl _) _
  have hL : V1 (fun b => b = w2.heap.size) wa (.slice (some ⟨w2.heap.size, 0, none⟩) 3 3) [-1, 0, 4001] := by rw [hwa]; exact lit_V1 w2 2 [-1, 0, 4001] (by simp)
  have HA := Lib.hid (And.intro (H2.out.1.below hbi) (And.intro (H2.out.2.then_below hbi) (And.intro hL hwa))); clear hbi hwa hL
  go_wp2_with fail
  rw [← HA.out.2.2.2]
  refine (l01Pick_any B0 SB _ [-1, 0, 4001] wa HA.out.1 HA.out.2.2.1 (fun b hb => by omega) (by simp)).mono ?_
  rintro e' wb ⟨y, rfl, _, hsb, hob⟩
  have HB := Lib.hid (And.intro hsb (HA.out.2.1.trans hob)); clear hsb hob
  go_wp2_with fail
  go_ret
  exact ⟨_, rfl, HB.out.1, HB.out.2⟩
 ·have hxd : (x == 0) = false := by simp [hx]
  clear hx hx0 hx1
  go_wp2_with fail
  refine (l01Next_any B0 SB 40 _ H2.out.1).mono ?_
  rintro e' w3 ⟨z, rfl, ⟨hz0, hz1⟩, hs3, ho3⟩
  have hz3 := ho3.size
  have hw1 : wrap64 (1 + z) = 1 + z := IntWalk.wrap64_in _ (by omega)
  have H3 := Lib.hid (And.intro hs3 (H2.out.2.trans ho3)); clear hs3 ho3
  obtain ⟨wa, hwa⟩ : ∃ wa, wa = w3.alloc (.cells #[.int .i64 (1 + z), .int .i64 200, .int .i64 600, .int .i64 1500] 2) := ⟨_, rfl⟩
  have hbi : Below w3.heap.size w3 wa := by rw [hwa]; exact (Below.refl w3.heap.size w3).alloc (Nat.le_refl _) _
  have hL : V1 (fun b => b = w3.heap.size) wa (.slice (some ⟨w3.heap.size, 0, none⟩) 4 4) [1 + z, 200, 600, 1500] := by rw [hwa]; exact lit_V1 w3 2 [1 + z, 200, 600, 1500] (by simp)
  have HA := Lib.hid (And.intro (H3.out.1.below hbi) (And.intro (H3.out.2.then_below hbi) (And.intro hL hwa))); clear hbi hwa hL
  go_wp2_with fail
  rw [← HA.out.2.2.2]
  refine (l01Pick_any B0 SB _ [1 + z, 200, 600, 1500] wa HA.out.1 HA.out.2.2.1 (fun b hb => by omega) (by simp)).mono ?_
  rintro e' wb ⟨y, rfl, _, hsb, hob⟩
  have HB := Lib.hid (And.intro hsb (HA.out.2.1.trans hob)); clear hsb hob
  go_wp2_with fail
  go_ret
  exact ⟨_, rfl, HB.out.1, HB.out.2⟩
/-- A system in a box of its own, while more is drawn. -/
structure DrAt (B0 SB : Nat) (W W1 w3 : World) (m : Mk) (tv : Value) (T : List (List Int)) (w : World) : Prop where
 src : Src B0 SB w
 only : Only SB W w
 hm : w.heap[w3.heap.size]? = some (.cells #[.int .i64 m.c, .int .i64 m.d, .int .i64 m.s, .int .i64 m.e, .int .i64 m.l, tv] 28 (0, 0))
 hr : w.heap[W.heap.size]? = some (.cells #[.int .i64 0, .int .i64 0, .int .i64 0, .int .i64 0, .int .i64 0, .slice none 0 0] 28 (0, 0))
 tab : V2 (fun b => W1.heap.size ≤ b ∧ b < w3.heap.size) w tv T
theorem DrAt.step {B0 SB : Nat} {W W1 w3 w w' : World} {m : Mk} {tv : Value} {T : List (List Int)} (h : DrAt B0 SB W W1 w3 m tv T w) (hs : Src B0 SB w') (ho : Only SB w w') (h1 : SB < W.heap.size) (h2 : SB < W1.heap.size) (h3 : SB < w3.heap.size) : DrAt B0 SB W W1 w3 m tv T w' :=
 ⟨hs, h.only.trans ho, ho.heap h.hm (fun e => by omega), ho.heap h.hr (fun e => by omega), h.tab.mono (fun _ h _ => h) (fun b hb hlt => ho.block b hlt (fun e => by have := hb.1; omega))⟩
/-- What a draw of a system and cuts answers, where no cuts are a slice from the beginning of a block. -/
def DrawDP (B0 SB : Nat) (W : World) (e : Ending) (w' : World) : Prop :=
 ∃ (m : Mk) (u cv : Value) (T cuts : List (List Int)), e = .returned (.tuple #[.agg #[.int .i64 m.c, .int .i64 m.d, .int .i64 m.s, .int .i64 m.e, .int .i64 m.l, u], cv]) ∧ SmallM m ∧ V2 (fun b => W.heap.size ≤ b) w' u T ∧ V2 (fun b => W.heap.size ≤ b) w' cv cuts ∧ (cuts = [] → PV cv) ∧ Src B0 SB w' ∧ Only SB W w'
set_option maxRecDepth 100000 in
set_option maxHeartbeats 4000000 in
theorem l16Draw_any (B0 SB : Nat) (W : World) (h : Src B0 SB W) :
  Calls Tryz.prog 97 #[.pointer (some ⟨SB, 0, none⟩)] W (DrawDP B0 SB W) := by
 have hSl := h.lt
 have hB0 : B0 ≤ SB := h.1
 obtain ⟨W1, hW1, hB01, hz01, HZ01, _, hh01⟩ := box_facts W #[.int .i64 0, .int .i64 0, .int .i64 0, .int .i64 0, .int .i64 0, .slice none 0 0] 28
 have hz1e := HZ01.out
 have hz1l : W1.heap.size ≤ W.heap.size + 1 := by omega
 have hs1' := h.below hB01
 have HL := Lib.hid (And.intro hs1' (And.intro hB01 (And.intro hh01 hW1))); clear hs1' h hh01 hB01 hz1e
 go_enter Tryz.func97, Tryz.ntmps97
 go_wp2_with fail
 rw [← HL.out.2.2.2]
 clear hW1
 refine (l15Draw_any B0 SB _ HL.out.1).mono ?_
 rintro e' w3 ⟨m, u, cv, T, cuts, rfl, hsm, hu, hT12, hcv, hcl, hs3, ho3⟩
 have hz3 := ho3.size
 obtain ⟨ta, tc, rfl, _⟩ := hu.form
 obtain ⟨ca, cc, rfl, _⟩ := hcv.form
 obtain ⟨w4, hw4⟩ : ∃ w4, w4 = w3.alloc (.cells #[.int .i64 m.c, .int .i64 m.d, .int .i64 m.s, .int .i64 m.e, .int .i64 m.l, .slice ta T.length tc] 28) := ⟨_, rfl⟩
 have hb34 : Below w3.heap.size w3 w4 := by rw [hw4]; exact (Below.refl _ _).alloc (Nat.le_refl _) _
 have hM4 : w4.heap[w3.heap.size]? = some (.cells #[.int .i64 m.c, .int .i64 m.d, .int .i64 m.s, .int .i64 m.e, .int .i64 m.l, .slice ta T.length tc] 28 (0, 0)) := by rw [hw4]; exact heap_alloc_self _ _
 have hc4 : ∀ o, w4.cell? ⟨w3.heap.size, o, none⟩ = (#[.int .i64 m.c, .int .i64 m.d, .int .i64 m.s, .int .i64 m.e, .int .i64 m.l, .slice ta T.length tc] : Array Value)[o]? := fun o => by rw [cell_of_block hM4]
 have hz4 : w3.heap.size < w4.heap.size := lt_of_heap hM4
 have HM := Lib.hid hsm; clear hsm
 have HD4 := Lib.hid (DrAt.mk (B0 := B0) (SB := SB) (W := W) (W1 := W1) (w3 := w3) (hs3.below hb34) (((Only.of_below HL.out.2.1).trans ho3).then_below hb34) hM4 ((hb34.block _ (by omega)).trans (ho3.heap HL.out.2.2.1 (fun e => by omega))) ((hu.mono (S' := fun b => W1.heap.size ≤ b ∧ b < w3.heap.size) (fun b hb hlt => ⟨hb, hlt⟩) (fun _ _ _ => rfl)).below hb34))
 have HC4 := Lib.hid (And.intro ((hcv.mono (S' := fun b => W1.heap.size ≤ b) (fun b hb _ => hb) (fun _ _ _ => rfl)).below hb34) hw4)
 clear hs3 ho3 hb34 hM4 hu hcv hw4
 have HCL := Lib.hid hcl.1; clear hcl
 go_wp2_with fail
 rw [← HC4.out.2]
 obtain ⟨r, hr⟩ : ∃ r, isSys m T = r := ⟨_, rfl⟩
 have Hr := Lib.hid hr; clear hr
 refine (isSystemR_b m _ T w4 r Hr.out HD4.out.tab).mono ?_
 rintro e' w5 ⟨rfl, hb5⟩
 have hz5 := hb5.size
 have HD5 := Lib.hid (HD4.out.step (HD4.out.src.below (hb5.mono (Nat.le_refl _))) (Only.of_below hb5) (by omega) (by omega) (by omega))
 have HC5 := Lib.hid (HC4.out.1.below hb5)
 clear hb5 hc4
 cases r
 ·skip
  have hcM : ∀ o, w5.cell? ⟨w3.heap.size, o, none⟩ = (#[.int .i64 m.c, .int .i64 m.d, .int .i64 m.s, .int .i64 m.e, .int .i64 m.l, .slice ta T.length tc] : Array Value)[o]? := fun o => by rw [cell_of_block HD5.out.hm]
  have hcRz : ∀ o, w5.cell? ⟨W.heap.size, o, none⟩ = (#[.int .i64 0, .int .i64 0, .int .i64 0, .int .i64 0, .int .i64 0, .slice none 0 0] : Array Value)[o]? := fun o => by rw [cell_of_block HD5.out.hr]
  have hfRz := fun o => frozen_of_block HD5.out.hr o
  have hdone := putS_facts HD5.out.src HD5.out.only HD5.out.hr (by omega) (Nat.le_refl _) (by omega) (.int .i64 m.c) (.int .i64 m.d) (.int .i64 m.s) (.int .i64 m.e) (.int .i64 m.l) (.slice ta T.length tc)
  obtain ⟨wz, hwz⟩ : ∃ wz, wz = putS w5 W.heap.size (.int .i64 m.c) (.int .i64 m.d) (.int .i64 m.s) (.int .i64 m.e) (.int .i64 m.l) (.slice ta T.length tc) := ⟨_, rfl⟩
  rw [← hwz] at hdone
  obtain ⟨hd1, hd2, hd3, hd4⟩ := hdone
  have hFz : V2 (fun b => W.heap.size ≤ b) wz (.slice ta T.length tc) T := V2.mono (S := fun b => W1.heap.size ≤ b ∧ b < w3.heap.size) HD5.out.tab (fun b hb _ => by have hb := hb.1; omega) (fun b hb _ => hd4 b (by have hb := hb.1; omega))
  have hcz : V2 (fun b => W.heap.size ≤ b) wz (.slice ca cuts.length cc) cuts := V2.mono (S := fun b => W1.heap.size ≤ b) HC5.out (fun b hb _ => by have hb : W1.heap.size ≤ b := hb; omega) (fun b hb _ => hd4 b (by have hb : W1.heap.size ≤ b := hb; omega))
  have hz0 : wz.cell? ⟨W.heap.size, 0, none⟩ = some (.int .i64 m.c) := by rw [cell_of_block hd3]; rfl
  have hz1 : wz.cell? ⟨W.heap.size, 1, none⟩ = some (.int .i64 m.d) := by rw [cell_of_block hd3]; rfl
  have hz2 : wz.cell? ⟨W.heap.size, 2, none⟩ = some (.int .i64 m.s) := by rw [cell_of_block hd3]; rfl
  have hz3 : wz.cell? ⟨W.heap.size, 3, none⟩ = some (.int .i64 m.e) := by rw [cell_of_block hd3]; rfl
  have hz4 : wz.cell? ⟨W.heap.size, 4, none⟩ = some (.int .i64 m.l) := by rw [cell_of_block hd3]; rfl
  have hz5 : wz.cell? ⟨W.heap.size, 5, none⟩ = some (.slice ta T.length tc) := by rw [cell_of_block hd3]; rfl
  have HZ := Lib.hid (And.intro hd1 (And.intro hd2 (And.intro hFz (And.intro hcz (And.intro hwz (And.intro hz0 (And.intro hz1 (And.intro hz2 (And.intro hz3 (And.intro hz4 hz5)))))))))); clear hd1 hd2 hd3 hd4 hFz hcz hwz hz0 hz1 hz2 hz3 hz4 hz5
  go_wp2_with fail
  have hwz := HZ.out.2.2.2.2.1
  unfold putS putR at hwz
  rw [← hwz]
  clear hwz
  obtain ⟨hd1, hd2, hFz, hcz, hwzz, hz0, hz1, hz2, hz3, hz4, hz5⟩ := HZ.out
  clear hwzz
  exact bodyPost_ret (v := .tuple #[.agg #[.int .i64 m.c, .int .i64 m.d, .int .i64 m.s, .int .i64 m.e, .int .i64 m.l, .slice ta T.length tc], (.slice ca cuts.length cc)]) (by simp [results, Tryz.results97, go_sem, hz0, hz1, hz2, hz3, hz4, hz5]) rfl ⟨m, _, _, T, cuts, rfl, HM.out, hFz, hcz, (fun e => absurd (e ▸ HCL.out : 1 ≤ ([] : List (List Int)).length) (by decide)), hd1, hd2⟩
 ·go_wp2_with fail
  refine (l01Next_any B0 SB 4 _ HD5.out.src).mono ?_
  rintro e' w6 ⟨q, rfl, ⟨hq0, hq1⟩, hs6, ho6⟩
  have hz6 := ho6.size
  have HC6 := Lib.hid (HC5.out.mono (S' := fun b => W1.heap.size ≤ b) (fun b hb _ => hb) (fun b hb hlt => ho6.block b hlt (fun e => by have hb : W1.heap.size ≤ b := hb; omega)))
  have HD6 := Lib.hid (HD5.out.step hs6 ho6 (by omega) (by omega) (by omega)); clear hs6 ho6
  by_cases hq : q = 0
  ·subst hq
   clear hq0 hq1
   have hcM : ∀ o, w6.cell? ⟨w3.heap.size, o, none⟩ = (#[.int .i64 m.c, .int .i64 m.d, .int .i64 m.s, .int .i64 m.e, .int .i64 m.l, .slice ta T.length tc] : Array Value)[o]? := fun o => by rw [cell_of_block HD6.out.hm]
   have hcRz : ∀ o, w6.cell? ⟨W.heap.size, o, none⟩ = (#[.int .i64 0, .int .i64 0, .int .i64 0, .int .i64 0, .int .i64 0, .slice none 0 0] : Array Value)[o]? := fun o => by rw [cell_of_block HD6.out.hr]
   have hfRz := fun o => frozen_of_block HD6.out.hr o
   have hdone := putS_facts HD6.out.src HD6.out.only HD6.out.hr (by omega) (Nat.le_refl _) (by omega) (.int .i64 m.c) (.int .i64 m.d) (.int .i64 m.s) (.int .i64 m.e) (.int .i64 m.l) (.slice ta T.length tc)
   obtain ⟨wz, hwz⟩ : ∃ wz, wz = putS w6 W.heap.size (.int .i64 m.c) (.int .i64 m.d) (.int .i64 m.s) (.int .i64 m.e) (.int .i64 m.l) (.slice ta T.length tc) := ⟨_, rfl⟩
   rw [← hwz] at hdone
   obtain ⟨hd1, hd2, hd3, hd4⟩ := hdone
   have hFz : V2 (fun b => W.heap.size ≤ b) wz (.slice ta T.length tc) T := V2.mono (S := fun b => W1.heap.size ≤ b ∧ b < w3.heap.size) HD6.out.tab (fun b hb _ => by have hb := hb.1; omega) (fun b hb _ => hd4 b (by have hb := hb.1; omega))
   have hcz : V2 (fun b => W.heap.size ≤ b) wz (.slice ca cuts.length cc) cuts := V2.mono (S := fun b => W1.heap.size ≤ b) HC6.out (fun b hb _ => by have hb : W1.heap.size ≤ b := hb; omega) (fun b hb _ => hd4 b (by have hb : W1.heap.size ≤ b := hb; omega))
   have hz0 : wz.cell? ⟨W.heap.size, 0, none⟩ = some (.int .i64 m.c) := by rw [cell_of_block hd3]; rfl
   have hz1 : wz.cell? ⟨W.heap.size, 1, none⟩ = some (.int .i64 m.d) := by rw [cell_of_block hd3]; rfl
   have hz2 : wz.cell? ⟨W.heap.size, 2, none⟩ = some (.int .i64 m.s) := by rw [cell_of_block hd3]; rfl
   have hz3 : wz.cell? ⟨W.heap.size, 3, none⟩ = some (.int .i64 m.e) := by rw [cell_of_block hd3]; rfl
   have hz4 : wz.cell? ⟨W.heap.size, 4, none⟩ = some (.int .i64 m.l) := by rw [cell_of_block hd3]; rfl
   have hz5 : wz.cell? ⟨W.heap.size, 5, none⟩ = some (.slice ta T.length tc) := by rw [cell_of_block hd3]; rfl
   have HZ := Lib.hid (And.intro hd1 (And.intro hd2 (And.intro hFz (And.intro hcz (And.intro hwz (And.intro hz0 (And.intro hz1 (And.intro hz2 (And.intro hz3 (And.intro hz4 hz5)))))))))); clear hd1 hd2 hd3 hd4 hFz hcz hwz hz0 hz1 hz2 hz3 hz4 hz5
   go_wp2_with fail
   have hwz := HZ.out.2.2.2.2.1
   unfold putS putR at hwz
   rw [← hwz]
   clear hwz
   obtain ⟨hd1, hd2, hFz, hcz, hwzz, hz0, hz1, hz2, hz3, hz4, hz5⟩ := HZ.out
   clear hwzz
   exact bodyPost_ret (v := .tuple #[.agg #[.int .i64 m.c, .int .i64 m.d, .int .i64 m.s, .int .i64 m.e, .int .i64 m.l, .slice ta T.length tc], (.slice ca cuts.length cc)]) (by simp [results, Tryz.results97, go_sem, hz0, hz1, hz2, hz3, hz4, hz5]) rfl ⟨m, _, _, T, cuts, rfl, HM.out, hFz, hcz, (fun e => absurd (e ▸ HCL.out : 1 ≤ ([] : List (List Int)).length) (by decide)), hd1, hd2⟩
  ·have hqd : (q == 0) = false := by simp [hq]
   clear hq hq0 hq1
   have hfit0 := (PartOk.nil Hr.out).fits
   have HF0 := Lib.hid hfit0; clear hfit0
   obtain ⟨w7, hw7⟩ : ∃ w7, w7 = w6.alloc (.cells #[] 35) := ⟨_, rfl⟩
   have hb67 : Below w6.heap.size w6 w7 := by rw [hw7]; exact (Below.refl _ _).alloc (Nat.le_refl _) _
   have hO7 : OV w6.heap.size w7 (.slice (some ⟨w6.heap.size, 0, none⟩) 0 0) [] := OV.nil (by rw [hw7]; exact own_lit0 w6 w6.heap.size 35 1 (Nat.le_refl _))
   have hz7 := hb67.size
   have HO7 := Lib.hid (And.intro hO7 (And.intro (Only.of_below (SB := SB) hb67) hw7))
   have HD7 := Lib.hid (HD6.out.step (HD6.out.src.below hb67) (Only.of_below hb67) (by omega) (by omega) (by omega)); clear hw7 hb67 hO7
   have hw9 : wrap64 ((T.length : Int) + 1) = (T.length : Int) + 1 := IntWalk.wrap64_in _ (by omega)
   have hcM7 : ∀ o, w7.cell? ⟨w3.heap.size, o, none⟩ = (#[.int .i64 m.c, .int .i64 m.d, .int .i64 m.s, .int .i64 m.e, .int .i64 m.l, .slice ta T.length tc] : Array Value)[o]? := fun o => by rw [cell_of_block HD7.out.hm]
   have hcM70 : ∀ o, (w6.alloc (.cells #[] 35)).cell? ⟨w3.heap.size, o, none⟩ = (#[.int .i64 m.c, .int .i64 m.d, .int .i64 m.s, .int .i64 m.e, .int .i64 m.l, .slice ta T.length tc] : Array Value)[o]? := fun o => by rw [← HO7.out.2.2]; exact hcM7 o
   have hcM6 : ∀ o, w6.cell? ⟨w3.heap.size, o, none⟩ = (#[.int .i64 m.c, .int .i64 m.d, .int .i64 m.s, .int .i64 m.e, .int .i64 m.l, .slice ta T.length tc] : Array Value)[o]? := fun o => by rw [cell_of_block HD6.out.hm]
   go_wp2_with fail
   rw [← HO7.out.2.2]
   clear hw9
   refine (l01Next_any B0 SB ((T.length : Int) + 1) _ HD7.out.src).mono ?_
   rintro e' w8 ⟨n8, rfl, ⟨hn0, hn1⟩, hs8, ho8⟩
   obtain ⟨nn, rfl⟩ : ∃ q : Nat, n8 = (q : Int) := ⟨n8.toNat, by omega⟩
   have hnn : nn ≤ T.length := by
    rcases hn1 with h | h
    ·exact Int.ofNat_le.1 (Int.lt_add_one_iff.1 h)
    ·have h0 : nn = 0 := Int.ofNat_eq_zero.1 h
     rw [h0]; exact Nat.zero_le _
   have hz8 := ho8.size
   have HO8 := Lib.hid (And.intro (HO7.out.1.only ho8 (by omega)) (HO7.out.2.1.trans ho8))
   have HD8 := Lib.hid (HD7.out.step hs8 ho8 (by omega) (by omega) (by omega)); clear hs8 ho8 hn0 hn1 hcM7 hcM70 hcM6
   go_wp2_with fail
   go_loopw [6, 7, 8] (fun pv nv _ wr => ∃ (n : Nat) (part : List (List Int)), n + part.length ≤ T.length ∧ nv = .int .i64 (n : Int) ∧ OV w6.heap.size wr pv part ∧ Fits m T part ∧ Src B0 SB wr ∧ Only SB w6 wr) (fun _ nv _ _ => (intOf nv).toNat)
   case atStart => exact ⟨nn, [], by simpa using hnn, rfl, HO8.out.1, HF0.out, HD8.out.src, HO8.out.2⟩
   case round =>
    obtain ⟨n, part, hnp, rfl, hO, hfit, hsr, hor⟩ := hrel
    have hzr := hor.size
    obtain ⟨oa, oc, rfl, _, _⟩ := hO.form
    obtain ⟨wo, rfl⟩ : ∃ x, x = wr := ⟨_, rfl⟩
    have HDo := Lib.hid (HD6.out.step hsr hor (by omega) (by omega) (by omega))
    by_cases hn : n = 0
    ·subst hn
     have HPo := Lib.hid (show PV (.slice oa part.length oc) by obtain ⟨vs, h1, _⟩ := hO; exact own_PV h1)
     have HCo := Lib.hid (hO.v2.mono (S' := fun b => W1.heap.size ≤ b) (fun b hb _ => by have hb : w6.heap.size ≤ b := hb; omega) (fun _ _ _ => rfl)); clear hO hfit hsr hor hnp
     have hcM : ∀ o, wo.cell? ⟨w3.heap.size, o, none⟩ = (#[.int .i64 m.c, .int .i64 m.d, .int .i64 m.s, .int .i64 m.e, .int .i64 m.l, .slice ta T.length tc] : Array Value)[o]? := fun o => by rw [cell_of_block HDo.out.hm]
     have hcRz : ∀ o, wo.cell? ⟨W.heap.size, o, none⟩ = (#[.int .i64 0, .int .i64 0, .int .i64 0, .int .i64 0, .int .i64 0, .slice none 0 0] : Array Value)[o]? := fun o => by rw [cell_of_block HDo.out.hr]
     have hfRz := fun o => frozen_of_block HDo.out.hr o
     have hdone := putS_facts HDo.out.src HDo.out.only HDo.out.hr (by omega) (Nat.le_refl _) (by omega) (.int .i64 m.c) (.int .i64 m.d) (.int .i64 m.s) (.int .i64 m.e) (.int .i64 m.l) (.slice ta T.length tc)
     obtain ⟨wz, hwz⟩ : ∃ wz, wz = putS wo W.heap.size (.int .i64 m.c) (.int .i64 m.d) (.int .i64 m.s) (.int .i64 m.e) (.int .i64 m.l) (.slice ta T.length tc) := ⟨_, rfl⟩
     rw [← hwz] at hdone
     obtain ⟨hd1, hd2, hd3, hd4⟩ := hdone
     have hFz : V2 (fun b => W.heap.size ≤ b) wz (.slice ta T.length tc) T := V2.mono (S := fun b => W1.heap.size ≤ b ∧ b < w3.heap.size) HDo.out.tab (fun b hb _ => by have hb := hb.1; omega) (fun b hb _ => hd4 b (by have hb := hb.1; omega))
     have hcz : V2 (fun b => W.heap.size ≤ b) wz (.slice oa part.length oc) part := V2.mono (S := fun b => W1.heap.size ≤ b) HCo.out (fun b hb _ => by have hb : W1.heap.size ≤ b := hb; omega) (fun b hb _ => hd4 b (by have hb : W1.heap.size ≤ b := hb; omega))
     have hz0 : wz.cell? ⟨W.heap.size, 0, none⟩ = some (.int .i64 m.c) := by rw [cell_of_block hd3]; rfl
     have hz1 : wz.cell? ⟨W.heap.size, 1, none⟩ = some (.int .i64 m.d) := by rw [cell_of_block hd3]; rfl
     have hz2 : wz.cell? ⟨W.heap.size, 2, none⟩ = some (.int .i64 m.s) := by rw [cell_of_block hd3]; rfl
     have hz3 : wz.cell? ⟨W.heap.size, 3, none⟩ = some (.int .i64 m.e) := by rw [cell_of_block hd3]; rfl
     have hz4 : wz.cell? ⟨W.heap.size, 4, none⟩ = some (.int .i64 m.l) := by rw [cell_of_block hd3]; rfl
     have hz5 : wz.cell? ⟨W.heap.size, 5, none⟩ = some (.slice ta T.length tc) := by rw [cell_of_block hd3]; rfl
     have HZ := Lib.hid (And.intro hd1 (And.intro hd2 (And.intro hFz (And.intro hcz (And.intro hwz (And.intro hz0 (And.intro hz1 (And.intro hz2 (And.intro hz3 (And.intro hz4 hz5)))))))))); clear hd1 hd2 hd3 hd4 hFz hcz hwz hz0 hz1 hz2 hz3 hz4 hz5
     go_wp2_with fail
     have hwz := HZ.out.2.2.2.2.1
     unfold putS putR at hwz
     rw [← hwz]
     clear hwz
     obtain ⟨hd1, hd2, hFz, hcz, hwzz, hz0, hz1, hz2, hz3, hz4, hz5⟩ := HZ.out
     clear hwzz
     exact bodyPost_ret (v := .tuple #[.agg #[.int .i64 m.c, .int .i64 m.d, .int .i64 m.s, .int .i64 m.e, .int .i64 m.l, .slice ta T.length tc], (.slice oa part.length oc)]) (by simp [results, Tryz.results97, go_sem, hz0, hz1, hz2, hz3, hz4, hz5]) rfl ⟨m, _, _, T, part, rfl, HM.out, hFz, hcz, (fun _ => HPo.out), hd1, hd2⟩
    ·obtain ⟨n, rfl⟩ : ∃ k, n = k + 1 := ⟨n - 1, by omega⟩
     have hnd : decide ((0 : Int) < ((n + 1 : Nat) : Int)) = true := decide_eq_true (by omega)
     have hnd2 : decide ((0 : Int) < (n : Int) + 1) = true := decide_eq_true (by omega)
     have hnd3 : decide (0 < n + 1) = true := decide_eq_true (by omega)
     have hnT : n + 1 ≤ 12 := by omega
     have hpl0 : part.length < T.length := by omega
     have hpv : PV (.slice oa part.length oc) := by obtain ⟨vs, h1, _⟩ := hO; exact own_PV h1
     have HR := Lib.hid (And.intro hO (And.intro hfit (And.intro hsr (And.intro hor (And.intro hpv hnp))))); clear hO hfit hsr hor hpv hnp hn
     have hcMo : ∀ o, wo.cell? ⟨w3.heap.size, o, none⟩ = (#[.int .i64 m.c, .int .i64 m.d, .int .i64 m.s, .int .i64 m.e, .int .i64 m.l, .slice ta T.length tc] : Array Value)[o]? := fun o => by rw [cell_of_block HDo.out.hm]
     have Hpl := Lib.hid hpl0; clear hpl0
     go_wp2_with fail
     refine (l16Candidates_any m _ _ T part 6 wo HR.out.2.1 Hpl.out (by omega) HDo.out.tab HR.out.1.v2 (fun _ => HR.out.2.2.2.2.1)).mono ?_
     rintro e' w9 ⟨lv, ls, rfl, ⟨hL, hL8, hLk⟩, hb9⟩
     have hz9 := hb9.size
     obtain ⟨la, lc, rfl, _, _⟩ := hL.form
     have HD9 := Lib.hid (HDo.out.step (HR.out.2.2.1.below hb9) (Only.of_below hb9) (by omega) (by omega) (by omega))
     have H9 := Lib.hid (And.intro (HR.out.2.2.2.1.then_below hb9) (And.intro hL (And.intro hLk (HR.out.1.below hb9)))); clear hL hLk hb9 hcMo
     by_cases hl0 : ls.length = 0
     ·have hl0d : ((ls.length : Int) == 0) = true := by simp [hl0]
      have HC9 := Lib.hid (H9.out.2.2.2.v2.mono (S' := fun b => W1.heap.size ≤ b) (fun b hb _ => by have hb : w6.heap.size ≤ b := hb; omega) (fun _ _ _ => rfl))
      clear hnd hnd2 hnd3 hL8
      obtain ⟨lsl, hlsl⟩ : ∃ q, ls.length = q := ⟨_, rfl⟩
      rw [hlsl] at hl0 hl0d ⊢
      subst hl0
      clear hlsl
      have hcM : ∀ o, w9.cell? ⟨w3.heap.size, o, none⟩ = (#[.int .i64 m.c, .int .i64 m.d, .int .i64 m.s, .int .i64 m.e, .int .i64 m.l, .slice ta T.length tc] : Array Value)[o]? := fun o => by rw [cell_of_block HD9.out.hm]
      have hcRz : ∀ o, w9.cell? ⟨W.heap.size, o, none⟩ = (#[.int .i64 0, .int .i64 0, .int .i64 0, .int .i64 0, .int .i64 0, .slice none 0 0] : Array Value)[o]? := fun o => by rw [cell_of_block HD9.out.hr]
      have hfRz := fun o => frozen_of_block HD9.out.hr o
      have hdone := putS_facts HD9.out.src HD9.out.only HD9.out.hr (by omega) (Nat.le_refl _) (by omega) (.int .i64 m.c) (.int .i64 m.d) (.int .i64 m.s) (.int .i64 m.e) (.int .i64 m.l) (.slice ta T.length tc)
      obtain ⟨wz, hwz⟩ : ∃ wz, wz = putS w9 W.heap.size (.int .i64 m.c) (.int .i64 m.d) (.int .i64 m.s) (.int .i64 m.e) (.int .i64 m.l) (.slice ta T.length tc) := ⟨_, rfl⟩
      rw [← hwz] at hdone
      obtain ⟨hd1, hd2, hd3, hd4⟩ := hdone
      have hFz : V2 (fun b => W.heap.size ≤ b) wz (.slice ta T.length tc) T := V2.mono (S := fun b => W1.heap.size ≤ b ∧ b < w3.heap.size) HD9.out.tab (fun b hb _ => by have hb := hb.1; omega) (fun b hb _ => hd4 b (by have hb := hb.1; omega))
      have hcz : V2 (fun b => W.heap.size ≤ b) wz (.slice oa part.length oc) part := V2.mono (S := fun b => W1.heap.size ≤ b) HC9.out (fun b hb _ => by have hb : W1.heap.size ≤ b := hb; omega) (fun b hb _ => hd4 b (by have hb : W1.heap.size ≤ b := hb; omega))
      have hz0 : wz.cell? ⟨W.heap.size, 0, none⟩ = some (.int .i64 m.c) := by rw [cell_of_block hd3]; rfl
      have hz1 : wz.cell? ⟨W.heap.size, 1, none⟩ = some (.int .i64 m.d) := by rw [cell_of_block hd3]; rfl
      have hz2 : wz.cell? ⟨W.heap.size, 2, none⟩ = some (.int .i64 m.s) := by rw [cell_of_block hd3]; rfl
      have hz3 : wz.cell? ⟨W.heap.size, 3, none⟩ = some (.int .i64 m.e) := by rw [cell_of_block hd3]; rfl
      have hz4 : wz.cell? ⟨W.heap.size, 4, none⟩ = some (.int .i64 m.l) := by rw [cell_of_block hd3]; rfl
      have hz5 : wz.cell? ⟨W.heap.size, 5, none⟩ = some (.slice ta T.length tc) := by rw [cell_of_block hd3]; rfl
      have HZ := Lib.hid (And.intro hd1 (And.intro hd2 (And.intro hFz (And.intro hcz (And.intro hwz (And.intro hz0 (And.intro hz1 (And.intro hz2 (And.intro hz3 (And.intro hz4 hz5)))))))))); clear hd1 hd2 hd3 hd4 hFz hcz hwz hz0 hz1 hz2 hz3 hz4 hz5
      go_wp2_with fail
      have hwz := HZ.out.2.2.2.2.1
      unfold putS putR at hwz
      rw [← hwz]
      clear hwz
      obtain ⟨hd1, hd2, hFz, hcz, hwzz, hz0, hz1, hz2, hz3, hz4, hz5⟩ := HZ.out
      clear hwzz
      exact bodyPost_ret (v := .tuple #[.agg #[.int .i64 m.c, .int .i64 m.d, .int .i64 m.s, .int .i64 m.e, .int .i64 m.l, .slice ta T.length tc], (.slice oa part.length oc)]) (by simp [results, Tryz.results97, go_sem, hz0, hz1, hz2, hz3, hz4, hz5]) rfl ⟨m, _, _, T, part, rfl, HM.out, hFz, hcz, (fun _ => HR.out.2.2.2.2.1), hd1, hd2⟩
     ·have hl0d : ((ls.length : Int) == 0) = false := beq_eq_false_iff_ne.2 (by omega)
      have hl00 : ¬ (ls.length : Int) = 0 := by omega
      go_wp2_with fail
      refine (l01Next_any B0 SB _ _ HD9.out.src).mono ?_
      rintro e' wb ⟨y, rfl, ⟨hy0, hy1⟩, hsb, hob⟩
      have hzb := hob.size
      obtain ⟨k, rfl⟩ : ∃ k : Nat, y = (k : Int) := ⟨y.toNat, by omega⟩
      have hk : k < ls.length := by omega
      have hk1 : ¬ ls.length ≤ k := by omega
      have hLb := H9.out.2.1.only hob (by omega)
      obtain ⟨lvs, hlv1, hlv2⟩ := hLb
      obtain ⟨g, cap, ra, rc, e, hcc, hV⟩ := OV.row hlv1 hlv2 hk
      simp only [Value.slice.injEq] at e
      obtain ⟨rfl, _, rfl⟩ := e
      have hOb := H9.out.2.2.2.only hob (by omega)
      obtain ⟨vs, hvs, hrv⟩ := hOb
      have hpl9 : part.length ≤ 1000 := by have := Hpl.out; omega
      have horb := H9.out.1.trans hob
      have hkey : isKeyB m (getl ls k) = true := H9.out.2.2.1 _ (getl_mem hk)
      have hVk : V1 (fun b => w6.heap.size ≤ b ∧ (Value.slice oa part.length oc).ownBlock ≠ some b) wb (.slice ra (getl ls k).length rc) (getl ls k) := hV.mono (fun b hb _ => ⟨by have := hb.1; omega, fun e => by
       obtain ⟨vs', g1, _⟩ := HR.out.1
       have := (g1.lt b e).2
       have := hb.1
       omega⟩) (fun _ _ _ => rfl)
      have HB := Lib.hid (And.intro hvs (And.intro hrv (And.intro hVk (And.intro hsb (And.intro horb hkey))))); clear hvs hrv hVk hsb horb hkey hlv1 hlv2 hV hob hy0 hy1
      have hvsb := HB.out.1
      have hccz : wb.cell? ⟨g, k, none⟩ = some (.slice ra (getl ls k).length rc) := hcc
      go_wp2_with (at_builtin; refine wp_app1 _ rfl _ _ 26 rfl w6.heap.size 35 (.slice none 0 0) 24 Tryz.underlying26 inf_ints rfl _ _ _ rfl hvsb (.slice ra (getl ls k).length rc) _ rfl rfl (by omega) (by omega) (by omega) ?_; intro v1 w1 hown1 hgrow1 hblk1 hB1)
      have hP := OV.push2 HB.out.1 HB.out.2.1 HB.out.2.2.1 hown1 hgrow1 hblk1
      have hg1 : Chg (fun i => w6.heap.size ≤ i) wb w1 := (Chg.refl _ _).grown hgrow1 (fun g hg => .inl (hvsb.lt g hg).1)
      have hs1 := HB.out.2.2.2.1.keep hg1 (fun b hb => ⟨by omega, by omega⟩)
      have hoW1 : Only SB w6 w1 := Chg.trans HB.out.2.2.2.2.1 (G := fun i => w6.heap.size ≤ i) hg1 (fun i hi => .inr hi)
      obtain ⟨na, nc, rfl, _, _⟩ := own_form hown1
      have HE := Lib.hid (And.intro hP (And.intro hs1 (And.intro hoW1 (HR.out.2.1.snoc Hpl.out HB.out.2.2.2.2.2)))); clear hP hg1 hs1 hoW1 hgrow1 hblk1 hB1 hown1 hvsb
      go_roundw
      case rel => exact ⟨n, part ++ [getl ls k], by have := HR.out.2.2.2.2.2; simp; omega, by go_num, HE.out.1, HE.out.2.2.2, HE.out.2.1, HE.out.2.2.1⟩
      case measure => simp [intOf]
theorem putS_new {W w : World} {c0 c1 c2 c3 c4 c5 : Value} (hB : Below W.heap.size W w) (h : w.heap[W.heap.size]? = some (.cells #[c0, c1, c2, c3, c4, c5] 28 (0, 0))) (v0 v1 v2 v3 v4 v5 : Value) :
  Below W.heap.size W (putS w W.heap.size v0 v1 v2 v3 v4 v5) ∧ (putS w W.heap.size v0 v1 v2 v3 v4 v5).heap[W.heap.size]? = some (.cells #[v0, v1, v2, v3, v4, v5] 28 (0, 0)) ∧ ∀ b, b ≠ W.heap.size → (putS w W.heap.size v0 v1 v2 v3 v4 v5).heap[b]? = w.heap[b]? := by
 refine ⟨?_, ?_, fun b hb => ?_⟩
 ·unfold putS putR
  exact ((((((hB.setCell (Nat.le_refl _) _).setCell (Nat.le_refl _) _).setCell (Nat.le_refl _) _).setCell (Nat.le_refl _) _).setCell (Nat.le_refl _) _).setCell (Nat.le_refl _) _)
 ·unfold putS putR
  rw [heap_setCell_self (heap_setCell_self (heap_setCell_self (heap_setCell_self (heap_setCell_self (heap_setCell_self h _) _) _) _) _) _]
  simp
 ·unfold putS putR
  (repeat rw [heap_setCell_other _ hb])
theorem VB.below {S : Nat → Prop} {w w' : World} {v : Value} {l : List Int} (h : VB S w v l) (hb : Below w.heap.size w w') : VB S w' v l :=
 h.mono (fun _ h _ => h) (Below.keep hb fun _ _ h => h)
theorem Only.to_below {SB B : Nat} {a b : World} (h : Only SB a b) (hS : B ≤ SB) (hB : B ≤ a.heap.size) : Below B a b := Chg.to_below h (fun i hi => by omega) hB
/-- What a draw of a system and cuts from a code answers; X: what stands beside them. -/
def DrawC (W : World) (X : Mk → List (List Int) → List (List Int) → World → List Value → Prop) (e : Ending) (w' : World) : Prop :=
 ∃ (m : Mk) (u cv : Value) (T cuts : List (List Int)) (vs : List Value), e = .returned (.tuple (#[.agg #[.int .i64 m.c, .int .i64 m.d, .int .i64 m.s, .int .i64 m.e, .int .i64 m.l, u], cv] ++ vs.toArray)) ∧ X m T cuts w' vs ∧ V2 (fun b => W.heap.size ≤ b) w' u T ∧ V2 (fun b => W.heap.size ≤ b) w' cv cuts ∧ Below W.heap.size W w'
def DrawC2 (W : World) : Ending → World → Prop := DrawC W fun _ _ _ _ vs => vs = []
theorem DrawC2.open {W w' : World} {e : Ending} (h : DrawC2 W e w') : ∃ (m : Mk) (u cv : Value) (T cuts : List (List Int)), e = .returned (.tuple #[.agg #[.int .i64 m.c, .int .i64 m.d, .int .i64 m.s, .int .i64 m.e, .int .i64 m.l, u], cv]) ∧ V2 (fun b => W.heap.size ≤ b) w' u T ∧ V2 (fun b => W.heap.size ≤ b) w' cv cuts ∧ Below W.heap.size W w' := by
 obtain ⟨m, u, cv, T, cuts, vs, rfl, rfl, h1, h2, h3⟩ := h
 exact ⟨m, u, cv, T, cuts, rfl, h1, h2, h3⟩
def DrawCi (W : World) : Ending → World → Prop := DrawC W fun _ _ _ _ vs => ∃ n : Int, vs = [.int .i64 n]
def DrawCk (W : World) : Ending → World → Prop := DrawC W fun _ _ _ w' vs => ∃ kv key, vs = [kv] ∧ V1 (fun b => W.heap.size ≤ b) w' kv key
def DrawCkw (W : World) : Ending → World → Prop := DrawC W fun _ _ _ w' vs => ∃ kv key x y, vs = [kv, .int .i64 x, .int .i64 y] ∧ V1 (fun b => W.heap.size ≤ b) w' kv key
theorem DrawCi.open {W w' : World} {e : Ending} (h : DrawCi W e w') : ∃ (m : Mk) (u cv : Value) (T cuts : List (List Int)) (n : Int), e = .returned (.tuple #[.agg #[.int .i64 m.c, .int .i64 m.d, .int .i64 m.s, .int .i64 m.e, .int .i64 m.l, u], cv, .int .i64 n]) ∧ V2 (fun b => W.heap.size ≤ b) w' u T ∧ V2 (fun b => W.heap.size ≤ b) w' cv cuts ∧ Below W.heap.size W w' := by
 obtain ⟨m, u, cv, T, cuts, vs, rfl, ⟨n, rfl⟩, h1, h2, h3⟩ := h
 exact ⟨m, u, cv, T, cuts, n, rfl, h1, h2, h3⟩
theorem DrawCk.open {W w' : World} {e : Ending} (h : DrawCk W e w') : ∃ (m : Mk) (u cv : Value) (T cuts : List (List Int)) (kv : Value) (key : List Int), e = .returned (.tuple #[.agg #[.int .i64 m.c, .int .i64 m.d, .int .i64 m.s, .int .i64 m.e, .int .i64 m.l, u], cv, kv]) ∧ V1 (fun b => W.heap.size ≤ b) w' kv key ∧ V2 (fun b => W.heap.size ≤ b) w' u T ∧ V2 (fun b => W.heap.size ≤ b) w' cv cuts ∧ Below W.heap.size W w' := by
 obtain ⟨m, u, cv, T, cuts, vs, rfl, ⟨kv, key, rfl, h0⟩, h1, h2, h3⟩ := h
 exact ⟨m, u, cv, T, cuts, kv, key, rfl, h0, h1, h2, h3⟩
theorem DrawCkw.open {W w' : World} {e : Ending} (h : DrawCkw W e w') : ∃ (m : Mk) (u cv : Value) (T cuts : List (List Int)) (kv : Value) (key : List Int) (x y : Int), e = .returned (.tuple #[.agg #[.int .i64 m.c, .int .i64 m.d, .int .i64 m.s, .int .i64 m.e, .int .i64 m.l, u], cv, kv, .int .i64 x, .int .i64 y]) ∧ V1 (fun b => W.heap.size ≤ b) w' kv key ∧ V2 (fun b => W.heap.size ≤ b) w' u T ∧ V2 (fun b => W.heap.size ≤ b) w' cv cuts ∧ Below W.heap.size W w' := by
 obtain ⟨m, u, cv, T, cuts, vs, rfl, ⟨kv, key, x, y, rfl, h0⟩, h1, h2, h3⟩ := h
 exact ⟨m, u, cv, T, cuts, kv, key, x, y, rfl, h0, h1, h2, h3⟩
theorem PartOk.take {m : Mk} {t cuts : List (List Int)} (h : PartOk m t cuts) (r : Nat) : PartOk m t (cuts.take r) := by
 have hf := h.few
 refine ⟨h.sys, by rw [List.length_take]; omega, allKeys_iff.2 fun k hk => ?_⟩
 rw [List.length_take] at hk
 rw [getl_take (by omega)]
 exact allKeys_iff.1 h.keys k (by omega)
/-- If the limit was met, nothing is found. -/
def exK (s : DSt) : Prop := s.2.1 = true → s.2.2 = []
theorem actK.ex {s : DSt} (h : actK s) : exK s := fun _ => h.2
theorem runL_exK {f : DSt → List Int → DSt × Bool} (ha : ∀ s k, actK s → ((f s k).2 = true ↔ actK (f s k).1)) (hf : ∀ s k, actK s → exK (f s k).1) : ∀ (l : List (List Int)) (s : DSt), actK s → exK (runL f s l).1
 | [], s, h => h.ex
 | k :: l, s, h => by
   unfold runL
   by_cases hk : (f s k).2 = true
   ·rw [if_pos hk]; exact runL_exK ha hf l _ ((ha s k h).1 hk)
   ·rw [if_neg hk]; exact hf s k h
theorem goStep_exK {limit : Nat} {stay : List (List Int) → List Int → Bool} {rec : List (List Int) → DSt → DSt × Bool} (hr : ∀ c s, actK s → exK (rec c s).1) {cuts : List (List Int)} {s : DSt} {key : List Int} (h : actK s) : exK (goStep limit stay rec cuts s key).1 := by
 unfold goStep
 split
 ·exact fun _ => h.2
 ·split
  ·exact hr _ _ h
  ·exact fun h2 => by have h3 : s.2.1 = true := h2; rw [h.1] at h3; cases h3
theorem goF_exK {limit : Nat} {stay : List (List Int) → List Int → Bool} {keys : List (List Int)} : ∀ {d : Nat} {cuts : List (List Int)} {s : DSt}, actK s → exK (goF limit stay (visK 1) keys d cuts s).1
 | 0, cuts, s, h => fun h2 => by have h3 : s.2.1 = true := h2; rw [h.1] at h3; cases h3
 | d + 1, cuts, s, h => runL_exK (fun s k hs => goStep_actK (fun c s hs => goF_actK hs) hs) (fun s k hs => goStep_exK (fun c s hs => goF_exK hs) hs) keys s h
/-- Going back row by row: where the walk stands. -/
def NextAt (m : Mk) (n : Nat) (t cuts : List (List Int)) (limit : Nat) (res : DSt) (r : Nat) (s : DSt) : Prop :=
 (actK s ∧ res = nextF m n t cuts limit r s) ∨ (¬ actK s ∧ res = s)
theorem NextAt.step {m : Mk} {n : Nat} {t cuts : List (List Int)} {limit : Nat} {res : DSt} {r : Nat} {s : DSt} (h : NextAt m n t cuts limit res (r + 1) s) (ha : actK s) : NextAt m n t cuts limit res r (backF m n t cuts limit r s).1 := by
 rcases h with ⟨_, h⟩ | ⟨h, _⟩
 ·have h1 := backF_actK (m := m) (n := n) (t := t) (cuts := cuts) (limit := limit) (row := r) ha
  unfold nextF at h
  by_cases hb : (backF m n t cuts limit r s).2 = true
  ·rw [if_pos hb] at h
   exact .inl ⟨h1.1 hb, h⟩
  ·rw [if_neg hb] at h
   exact .inr ⟨fun hh => hb (h1.2 hh), h⟩
 ·exact absurd ha h
theorem NextAt.last {m : Mk} {n : Nat} {t cuts : List (List Int)} {limit : Nat} {res : DSt} {s : DSt} (h : NextAt m n t cuts limit res 0 s) : res = s := by
 rcases h with ⟨_, h⟩ | ⟨_, h⟩ <;> exact h
theorem NextAt.stop {m : Mk} {n : Nat} {t cuts : List (List Int)} {limit : Nat} {res : DSt} {r : Nat} {s : DSt} (h : NextAt m n t cuts limit res r s) (hn : ¬ actK s) : res = s := by
 rcases h with ⟨h, _⟩ | ⟨_, h⟩
 ·exact absurd h hn
 ·exact h
/-- What a draw of a system and a number from a code answers. -/
def DrawFi (W : World) (e : Ending) (w' : World) : Prop :=
 ∃ (m : Mk) (u : Value) (T : List (List Int)) (n : Int), e = .returned (.tuple #[.agg #[.int .i64 m.c, .int .i64 m.d, .int .i64 m.s, .int .i64 m.e, .int .i64 m.l, u], .int .i64 n]) ∧ V2 (fun b => W.heap.size ≤ b) w' u T ∧ Below W.heap.size W w'
set_option maxRecDepth 100000 in
set_option maxHeartbeats 2000000 in
theorem DrawFindDesign_any {S : Nat → Prop} (v : Value) (l : List Int) (W : World) (h : VB S W v l) :
  Calls Tryz.prog 63 #[v] W (DrawFi W) := by
 obtain ⟨a, c, rfl, hm⟩ := h.form
 obtain ⟨W1, hW1, hB01, hz01, HZ01, _, hh01⟩ := box_facts W #[.int .i64 0, .int .i64 0, .int .i64 0, .int .i64 0, .int .i64 0, .slice none 0 0] 28
 have hz1e := HZ01.out
 have hz1l : W1.heap.size ≤ W.heap.size + 1 := by omega
 have HL := Lib.hid (And.intro (h.below hB01) (And.intro hB01 (And.intro hh01 hW1))); clear h hh01 hB01 hz1e
 go_enter Tryz.func63, Tryz.ntmps63
 go_wp2_with fail
 rw [← HL.out.2.2.2]
 clear hW1
 refine (l01From_any _ l W1 HL.out.1).mono ?_
 rintro e' w2 ⟨rfl, hs2, hb2⟩
 have hz2 := hb2.size
 have H2 := Lib.hid (And.intro hs2 (And.intro hb2 ((hb2.block _ hz01).trans HL.out.2.2.1))); clear hs2 hb2
 go_wp2_with fail
 refine (l17Draw_any W1.heap.size W1.heap.size w2 H2.out.1).mono ?_
 rintro e' w3 ⟨m, u, T, rfl, hsm, hu, hT12, hs3, ho3⟩
 have hz3 := ho3.size
 have hz23 : W1.heap.size < w2.heap.size := H2.out.1.lt
 obtain ⟨ta, tc, rfl, _⟩ := hu.form
 have hRw := ho3.heap H2.out.2.2 (fun e => by omega)
 have hBw : Below W.heap.size W w3 := HL.out.2.1.trans ((H2.out.2.1.trans (ho3.to_below (Nat.le_refl _) (by omega))).mono (by omega))
 obtain ⟨w4, hw4⟩ : ∃ w4, w4 = w3.alloc (.cells #[.int .i64 m.c, .int .i64 m.d, .int .i64 m.s, .int .i64 m.e, .int .i64 m.l, .slice ta T.length tc] 28) := ⟨_, rfl⟩
 have hb34 : Below w3.heap.size w3 w4 := by rw [hw4]; exact (Below.refl _ _).alloc (Nat.le_refl _) _
 have hM4 : w4.heap[w3.heap.size]? = some (.cells #[.int .i64 m.c, .int .i64 m.d, .int .i64 m.s, .int .i64 m.e, .int .i64 m.l, .slice ta T.length tc] 28 (0, 0)) := by rw [hw4]; exact heap_alloc_self _ _
 have hz4 : w3.heap.size < w4.heap.size := lt_of_heap hM4
 have H4 := Lib.hid (And.intro (hs3.below hb34) (And.intro (hBw.trans (hb34.mono (by omega))) (And.intro hM4 (And.intro ((hb34.block _ (by omega)).trans hRw) (And.intro (hu.below hb34) hw4))))); clear hs3 ho3 hRw hBw hb34 hM4 hu hsm hw4 hT12
 have hcM : ∀ o, w4.cell? ⟨w3.heap.size, o, none⟩ = (#[.int .i64 m.c, .int .i64 m.d, .int .i64 m.s, .int .i64 m.e, .int .i64 m.l, .slice ta T.length tc] : Array Value)[o]? := fun o => by rw [cell_of_block H4.out.2.2.1]
 have hSk : ∀ w' : World, w'.heap[w3.heap.size]? = w4.heap[w3.heap.size]? → w'.cell? ⟨w3.heap.size, 0, none⟩ = some (.int .i64 m.c) ∧ w'.cell? ⟨w3.heap.size, 1, none⟩ = some (.int .i64 m.d) ∧ w'.cell? ⟨w3.heap.size, 2, none⟩ = some (.int .i64 m.s) ∧ w'.cell? ⟨w3.heap.size, 3, none⟩ = some (.int .i64 m.e) ∧ w'.cell? ⟨w3.heap.size, 4, none⟩ = some (.int .i64 m.l) ∧ w'.cell? ⟨w3.heap.size, 5, none⟩ = some (.slice ta T.length tc) := fun w' hw => by
  refine ⟨?_, ?_, ?_, ?_, ?_, ?_⟩ <;> exact cell_keep (hcM _) hw
 go_wp2_with fail
 rw [← H4.out.2.2.2.2.2]
 refine wp_region_noPanic ?_
 refine wp_region_held_drew (S := fun w' => w'.cell? ⟨w3.heap.size, 0, none⟩ = some (.int .i64 m.c) ∧ w'.cell? ⟨w3.heap.size, 1, none⟩ = some (.int .i64 m.d) ∧ w'.cell? ⟨w3.heap.size, 2, none⟩ = some (.int .i64 m.s) ∧ w'.cell? ⟨w3.heap.size, 3, none⟩ = some (.int .i64 m.e) ∧ w'.cell? ⟨w3.heap.size, 4, none⟩ = some (.int .i64 m.l) ∧ w'.cell? ⟨w3.heap.size, 5, none⟩ = some (.slice ta T.length tc)) (by kernel_rfl) (hSk w4.drew rfl) (fun hHeld => ?_)
 (refine wpAnyH_take (i := 0) (v := .agg #[.int .i64 m.c, .int .i64 m.d, .int .i64 m.s, .int .i64 m.e, .int .i64 m.l, .slice ta T.length tc]) rfl (by kernel_rfl) (by kernel_rfl) (by kernel_rfl) (fun _ _ _ h => h) (Or.inl ⟨by kernel_rfl, fun w hSw => by (try dsimp only at hSw); go_split_ands; go_simp⟩) (by assumption) ?_; simp only [Act.put, List.setIfInBounds_toArray, List.set_cons_zero, List.set_cons_succ])
 (refine wpAnyH_take (i := 1) (v := .pointer (some ⟨W1.heap.size, 0, none⟩)) rfl (by kernel_rfl) (by kernel_rfl) (by kernel_rfl) (fun _ _ _ h => h) (Or.inl ⟨by kernel_rfl, fun w hSw => by (try dsimp only at hSw); go_split_ands; go_simp⟩) (by assumption) ?_; simp only [Act.put, List.setIfInBounds_toArray, List.set_cons_zero, List.set_cons_succ])
 have hbD : Below w4.heap.size w4 w4.drew := (Below.refl _ _).drew
 refine wpAnyH_ready (rs := [2]) (by kernel_rfl) (by simp) (AllReadyH.cons rfl (fun K hK => ?_) AllReadyH.nil)
 go_simp
 go_at_call 165
 refine (l17DrawLimit_any W1.heap.size W1.heap.size _ (H4.out.1.below hbD)).mono ?_
 rintro e' wb ⟨x, rfl, hsb, hob⟩
 have hob4 : Only W1.heap.size w4 wb := (Only.of_below hbD).trans hob
 have hzb := hob4.size
 have hMb : wb.heap[w3.heap.size]? = w4.heap[w3.heap.size]? := hob4.block _ (by omega) (fun e => by omega)
 have hBb : Below W.heap.size W wb := H4.out.2.1.trans ((hob4.to_below (B := W1.heap.size) (Nat.le_refl _) (by omega)).mono (by omega))
 have hRb := hob4.heap H4.out.2.2.2.1 (fun e => by omega)
 have hub := H4.out.2.2.2.2.1.mono (S' := fun b => W1.heap.size ≤ b) (fun b hb _ => by have hb : w2.heap.size ≤ b := hb; omega) (hob4.keep fun b hb e => by have hb : w2.heap.size ≤ b := hb; omega)
 have hC := Lib.hid (And.intro hBb (And.intro hRb (And.intro hub hMb))); clear hBb hRb hub hcM hsb hob hbD hob4
 dsimp only
 (refine hK.out _ _ (hSk wb hMb) (fun hHeld => ?_); clear hK K; (try simp only [Act.put, List.setIfInBounds_toArray, List.set_cons_zero, List.set_cons_succ]))
 have hcRz : ∀ o, wb.cell? ⟨W.heap.size, o, none⟩ = (#[.int .i64 0, .int .i64 0, .int .i64 0, .int .i64 0, .int .i64 0, .slice none 0 0] : Array Value)[o]? := fun o => by rw [cell_of_block hC.out.2.1]
 have hfRz := fun o => frozen_of_block hC.out.2.1 o
 (refine wpAnyH_ready (rs := [3]) (by kernel_rfl) (by simp) (AllReadyH.cons rfl (fun K hK => ?_) AllReadyH.nil); go_simp)
 have hdone := putS_new hC.out.1 hC.out.2.1 (.int .i64 m.c) (.int .i64 m.d) (.int .i64 m.s) (.int .i64 m.e) (.int .i64 m.l) (.slice ta T.length tc)
 obtain ⟨wz, hwz⟩ : ∃ wz, wz = putS wb W.heap.size (.int .i64 m.c) (.int .i64 m.d) (.int .i64 m.s) (.int .i64 m.e) (.int .i64 m.l) (.slice ta T.length tc) := ⟨_, rfl⟩
 rw [← hwz] at hdone
 obtain ⟨hd2, hd3, hd4⟩ := hdone
 have hFz : V2 (fun b => W.heap.size ≤ b) wz (.slice ta T.length tc) T := V2.mono (S := fun b => W1.heap.size ≤ b) hC.out.2.2.1 (fun b hb _ => by have hb : W1.heap.size ≤ b := hb; omega) (fun b hb _ => hd4 b (by have hb : W1.heap.size ≤ b := hb; omega))
 have hz0 : wz.cell? ⟨W.heap.size, 0, none⟩ = some (.int .i64 m.c) := by rw [cell_of_block hd3]; rfl
 have hz1 : wz.cell? ⟨W.heap.size, 1, none⟩ = some (.int .i64 m.d) := by rw [cell_of_block hd3]; rfl
 have hz2 : wz.cell? ⟨W.heap.size, 2, none⟩ = some (.int .i64 m.s) := by rw [cell_of_block hd3]; rfl
 have hz3 : wz.cell? ⟨W.heap.size, 3, none⟩ = some (.int .i64 m.e) := by rw [cell_of_block hd3]; rfl
 have hz4 : wz.cell? ⟨W.heap.size, 4, none⟩ = some (.int .i64 m.l) := by rw [cell_of_block hd3]; rfl
 have hz5 : wz.cell? ⟨W.heap.size, 5, none⟩ = some (.slice ta T.length tc) := by rw [cell_of_block hd3]; rfl
 unfold putS putR at hwz
 rw [← hwz]
 clear hwz
 have hSz := hSk wz ((hd4 _ (by omega)).trans hMb)
 (refine hK.out _ _ hSz (fun hHeld => ?_); clear hK K; (try simp only [Act.put, List.setIfInBounds_toArray, List.set_cons_zero, List.set_cons_succ]))
 (refine wpAnyH_ready (rs := [4]) (by kernel_rfl) (by simp) (AllReadyH.cons rfl (fun K hK => ?_) AllReadyH.nil); go_simp)
 (refine hK.out _ _ hSz (fun hHeld => ?_); clear hK K; (try simp only [Act.put, List.setIfInBounds_toArray, List.set_cons_zero, List.set_cons_succ]))
 refine wpAnyH_done (by kernel_rfl) (NoPanic.normal ?_) _
 go_wp2_with fail
 exact bodyPost_ret (v := .tuple #[.agg #[.int .i64 m.c, .int .i64 m.d, .int .i64 m.s, .int .i64 m.e, .int .i64 m.l, .slice ta T.length tc], .int .i64 x]) (by simp [results, Tryz.results63, go_sem, hz0, hz1, hz2, hz3, hz4, hz5]) rfl ⟨m, _, T, x, rfl, hFz, hd2⟩
/-- As Out2, the rows' values and their blocks named. -/
def Out2x (B : Nat) (w : World) (v : Value) (ls : List (List Int)) (vs : List Value) (bk : Nat → Nat) : Prop :=
 w.ownsRow B 35 1 v ls.length vs ∧ (∀ k, k < ls.length → ∃ rv, vs[k]? = some rv ∧ X1 w rv (getl ls k) (bk k)) ∧
  (∀ k, k < ls.length → getl ls k ≠ [] → B ≤ bk k ∧ v.ownBlock ≠ some (bk k) ∧ ∀ j, j < ls.length → j ≠ k → getl ls j ≠ [] → bk j ≠ bk k)
theorem Out2x.out {B : Nat} {w : World} {v : Value} {ls : List (List Int)} {vs : List Value} {bk : Nat → Nat} (h : Out2x B w v ls vs bk) : Out2 B w v ls := ⟨vs, bk, h.1, h.2.1, h.2.2⟩
theorem Out2x.push {B : Nat} {w w2 w1 : World} {v v1 rv : Value} {ls : List (List Int)} {l : List Int} {b : Nat} {vs : List Value} {bk : Nat → Nat}
  (h : Out2x B w v ls vs bk)
  (hB : B ≤ w.heap.size) (hb : Below w.heap.size w w2) (hx : X1 w2 rv l b) (hbn : l ≠ [] → w.heap.size ≤ b)
  (hown : w1.ownsRow B 35 1 v1 (ls.length + 1) (vs ++ [rv])) (hg : w2.grownBy w1 v.ownBlock) (hblk : v1.ownBlock = v.ownBlock ∨ ∃ g, v1.ownBlock = some g ∧ w2.heap.size ≤ g) : Out2x B w1 v1 (ls ++ [l]) (vs ++ [rv]) (fun k => if k < ls.length then bk k else b) := by
 obtain ⟨h1, h2, h3⟩ := h
 have hvl : ∀ g, v.ownBlock = some g → g < w.heap.size := fun g hgg => (h1.lt g hgg).2
 have hxl : ∀ k, k < ls.length → getl ls k ≠ [] → bk k < w.heap.size := fun k hk hn => by
  obtain ⟨rv, _, h⟩ := h2 k hk; exact h.lt hn
 have hne1 : ∀ c, c < w2.heap.size → v.ownBlock ≠ some c → v1.ownBlock ≠ some c := fun c hc hn e => by
  rcases hblk with e1 | ⟨g, e1, hge⟩
  ·exact hn (e1.symm.trans e)
  ·rw [e] at e1; cases e1; omega
 have hvl1 := h1.1
 refine ⟨by simpa using hown, fun k hk => ?_, fun k hk hn => ?_⟩
 ·by_cases hkl : k < ls.length
  ·obtain ⟨rv', h4, h5⟩ := h2 k hkl
   refine ⟨rv', by rw [List.getElem?_append_left (by omega)]; exact h4, ?_⟩
   rw [getl_app1 hkl]
   simp only [hkl, if_true]
   exact h5.keep fun hn => by
    rw [hg.block _ (Nat.lt_of_lt_of_le (hxl k hkl hn) hb.size) (fun e => (h3 k hkl hn).2.1 e.symm), hb.block _ (hxl k hkl hn)]
  ·have e : k = ls.length := by simp at hk; omega
   subst e
   refine ⟨rv, by rw [List.getElem?_append_right (by omega)]; simp [show ls.length - vs.length = 0 by omega], ?_⟩
   rw [getl_app2]
   simp only [Nat.lt_irrefl, if_false]
   exact hx.keep fun hn => hg.block _ (hx.lt hn) (fun e => by have := hvl b e.symm; have := hbn hn; omega)
 ·by_cases hkl : k < ls.length
  ·rw [getl_app1 hkl] at hn
   simp only [hkl, if_true]
   obtain ⟨h4, h5, h6⟩ := h3 k hkl hn
   refine ⟨h4, hne1 _ (Nat.lt_of_lt_of_le (hxl k hkl hn) hb.size) h5, fun j hj hjk hnj => ?_⟩
   by_cases hjl : j < ls.length
   ·rw [getl_app1 hjl] at hnj
    simp only [hjl, if_true]
    exact h6 j hjl hjk hnj
   ·have e : j = ls.length := by simp at hj; omega
    subst e
    rw [getl_app2] at hnj
    simp only [Nat.lt_irrefl, if_false]
    have := hbn hnj; have := hxl k hkl hn; omega
  ·have e : k = ls.length := by simp at hk; omega
   subst e
   rw [getl_app2] at hn
   simp only [Nat.lt_irrefl, if_false]
   refine ⟨by have := hbn hn; omega, hne1 _ (hx.lt hn) (fun e => by have := hvl b e; have := hbn hn; omega), fun j hj hjk hnj => ?_⟩
   have hjl : j < ls.length := by simp at hj; omega
   rw [getl_app1 hjl] at hnj
   simp only [hjl, if_true]
   have := hbn hn; have := hxl j hjl hnj; omega
/-- The blocks that a list of lists stands in, and the one of the cell that holds it. -/
def OutF (OB : Nat) (v : Value) (ls : List (List Int)) (bk : Nat → Nat) (b : Nat) : Prop := b = OB ∨ v.ownBlock = some b ∨ ∃ k, k < ls.length ∧ getl ls k ≠ [] ∧ b = bk k
theorem Out2x.stay {B OB : Nat} {w w' : World} {v : Value} {ls : List (List Int)} {vs : List Value} {bk : Nat → Nat} (h : Out2x B w v ls vs bk) (hk : ∀ b, OutF OB v ls bk b → w'.heap[b]? = w.heap[b]?) : Out2x B w' v ls vs bk := by
 obtain ⟨h1, h2, h3⟩ := h
 refine ⟨⟨h1.1, ?_⟩, fun k hkl => ?_, h3⟩
 ·rcases h1.2 with h0 | ⟨g, cap, cur, rfl, h4, h5, h6⟩
  ·exact .inl h0
  ·exact .inr ⟨g, cap, cur, rfl, h4, by rw [hk g (.inr (.inl rfl))]; exact h5, h6⟩
 ·obtain ⟨rv, h4, h5⟩ := h2 k hkl
  exact ⟨rv, h4, h5.keep fun hn => hk _ (.inr (.inr ⟨k, hkl, hn, rfl⟩))⟩
theorem Out2x.lt {B OB : Nat} {w : World} {v : Value} {ls : List (List Int)} {vs : List Value} {bk : Nat → Nat} (h : Out2x B w v ls vs bk) (ho : OB < w.heap.size) : ∀ b, OutF OB v ls bk b → b < w.heap.size := by
 rintro b (rfl | h1 | ⟨k, h1, h2, rfl⟩)
 ·exact ho
 ·exact (h.1.lt _ h1).2
 ·obtain ⟨rv, _, h5⟩ := h.2.1 k h1
  exact h5.lt h2
/-- The blocks that a list of lists stands in. -/
def OutG (v : Value) (ls : List (List Int)) (bk : Nat → Nat) (b : Nat) : Prop := v.ownBlock = some b ∨ ∃ k, k < ls.length ∧ getl ls k ≠ [] ∧ b = bk k
theorem Out2x.lo {B : Nat} {w w' : World} {v : Value} {ls : List (List Int)} {vs : List Value} {bk : Nat → Nat} (h : Out2x B w v ls vs bk) (hk : ∀ b, OutG v ls bk b → w'.heap[b]? = w.heap[b]?) : Out2x B w' v ls vs bk := by
 obtain ⟨h1, h2, h3⟩ := h
 refine ⟨⟨h1.1, ?_⟩, fun k hkl => ?_, h3⟩
 ·rcases h1.2 with h0 | ⟨g, cap, cur, rfl, h4, h5, h6⟩
  ·exact .inl h0
  ·exact .inr ⟨g, cap, cur, rfl, h4, by rw [hk g (.inl rfl)]; exact h5, h6⟩
 ·obtain ⟨rv, h4, h5⟩ := h2 k hkl
  exact ⟨rv, h4, h5.keep fun hn => hk _ (.inr ⟨k, hkl, hn, rfl⟩)⟩
theorem OutG.push {b3 z : Nat} {v v' : Value} {ls : List (List Int)} {l : List Int} {bk : Nat → Nat} (hblk : v'.ownBlock = v.ownBlock ∨ ∃ g, v'.ownBlock = some g ∧ z ≤ g) (hb3 : l ≠ [] → z ≤ b3) :
  ∀ b, OutG v' (ls ++ [l]) (fun k => if k < ls.length then bk k else b3) b → OutG v ls bk b ∨ z ≤ b := by
 rintro b (h1 | ⟨k, h1, h2, rfl⟩)
 ·rcases hblk with e | ⟨g, e, hz⟩
  ·exact .inl (.inl (e ▸ h1))
  ·rw [e] at h1; cases h1; exact .inr hz
 ·by_cases hk : k < ls.length
  ·rw [getl_app1 hk] at h2
   simp only [hk, if_true]
   exact .inl (.inr ⟨k, hk, h2, rfl⟩)
  ·have e : k = ls.length := by simp at h1; omega
   subst e
   rw [getl_app2] at h2
   simp only [Nat.lt_irrefl, if_false]
   exact .inr (hb3 h2)
theorem F1.nil {B : Nat} {w : World} : F1 B w (.slice none 0 0) [] := ⟨0, ⟨none, 0, rfl, Nat.le_refl _, Nat.zero_le _, fun hn => absurd rfl hn⟩, fun hn => absurd rfl hn⟩
theorem runL_found {limit : Nat} {Q : List (List Int) → Prop} {stay : List (List Int) → List Int → Bool} {rec : List (List Int) → DSt → DSt × Bool} {cuts : List (List Int)} : ∀ (l : List (List Int)) (s : DSt),
  (∀ k ∈ l, stay cuts k = true → ∀ s : DSt, (∀ x ∈ s.2.2, Q x) → ∀ x ∈ (rec (cuts ++ [k]) s).1.2.2, Q x) → (∀ x ∈ s.2.2, Q x) → ∀ x ∈ (runL (goStep limit stay rec cuts) s l).1.2.2, Q x
 | [], s, _, hs => hs
 | k :: l, s, hr, hs => by
   have h1 : ∀ x ∈ (goStep limit stay rec cuts s k).1.2.2, Q x := by
    unfold goStep
    split
    ·exact hs
    ·split
     ·rename_i hst
      exact hr k (List.mem_cons_self ..) hst _ hs
     ·exact hs
   unfold runL
   split
   ·exact runL_found l _ (fun k hk => hr k (List.mem_cons_of_mem _ hk)) h1
   ·exact h1
theorem goF_foundD {limit n : Nat} {t keys : List (List Int)} {most : Int} {Q : List (List Int) → Prop} {P : Nat → List (List Int) → Prop} (hQ : ∀ c, P 0 c → Q c) (hP : ∀ d c k, k ∈ keys → P (d + 1) c → stayP n t c k = true → P d (c ++ [k])) : ∀ {d : Nat} {cuts : List (List Int)} {s : DSt},
  P d cuts → (∀ x ∈ s.2.2, Q x) → ∀ x ∈ (goF limit (stayP n t) (visK most) keys d cuts s).1.2.2, Q x
 | 0, cuts, s, hc, hs => by
   intro x hx
   simp only [goF, visK, List.mem_append, List.mem_singleton] at hx
   rcases hx with hx | rfl
   ·exact hs x hx
   ·exact hQ _ hc
 | d + 1, cuts, s, hc, hs => runL_found keys s (fun k hk hst s hs => goF_foundD hQ hP (hP d cuts k hk hc hst) hs) hs
theorem stay_nil {n : Nat} {t c : List (List Int)} {k : List Int} (h : stayP n t c k = true) : falseL n t (c ++ [k]) = [] := by
 unfold stayP openP at h
 exact List.eq_nil_of_length_eq_zero (of_decide_eq_true h)
/-- What a draw of a system, cuts and a number from a code answers. -/
def DrawNd (W : World) (e : Ending) (w' : World) : Prop :=
 ∃ (m : Mk) (u cv : Value) (T cuts : List (List Int)) (n : Int), e = .returned (.tuple #[.agg #[.int .i64 m.c, .int .i64 m.d, .int .i64 m.s, .int .i64 m.e, .int .i64 m.l, u], cv, .int .i64 n]) ∧ (cuts = [] → PV cv) ∧ V2 (fun b => W.heap.size ≤ b) w' u T ∧ V2 (fun b => W.heap.size ≤ b) w' cv cuts ∧ Below W.heap.size W w'
theorem DrawNd.open {W w' : World} {e : Ending} (h : DrawNd W e w') : ∃ (m : Mk) (u cv : Value) (T cuts : List (List Int)) (n : Int), e = .returned (.tuple #[.agg #[.int .i64 m.c, .int .i64 m.d, .int .i64 m.s, .int .i64 m.e, .int .i64 m.l, u], cv, .int .i64 n]) ∧ (cuts = [] → PV cv) ∧ V2 (fun b => W.heap.size ≤ b) w' u T ∧ V2 (fun b => W.heap.size ≤ b) w' cv cuts ∧ Below W.heap.size W w' := h
structure NdAt (W W1 w2 w3 : World) (m : Mk) (tv : Value) (T : List (List Int)) (w : World) : Prop where
 src : Src W1.heap.size W1.heap.size w
 below : Below W.heap.size W w
 hm : w.heap[w3.heap.size]? = some (.cells #[.int .i64 m.c, .int .i64 m.d, .int .i64 m.s, .int .i64 m.e, .int .i64 m.l, tv] 28 (0, 0))
 hr : w.heap[W.heap.size]? = some (.cells #[.int .i64 0, .int .i64 0, .int .i64 0, .int .i64 0, .int .i64 0, .slice none 0 0] 28 (0, 0))
 tab : V2 (fun b => w2.heap.size ≤ b) w tv T
theorem NdAt.step {W W1 w2 w3 w w' : World} {m : Mk} {tv : Value} {T : List (List Int)} (h : NdAt W W1 w2 w3 m tv T w) (hs : Src W1.heap.size W1.heap.size w') (ho : Only W1.heap.size w w') (h1 : W.heap.size < W1.heap.size) (h2 : W1.heap.size < w2.heap.size) (h3 : W1.heap.size < w3.heap.size) : NdAt W W1 w2 w3 m tv T w' :=
 ⟨hs, h.below.trans ((ho.to_below (B := W1.heap.size) (Nat.le_refl _) (by have := h.src.lt; omega)).mono (by omega)), ho.heap h.hm (fun e => by omega), ho.heap h.hr (fun e => by omega), h.tab.mono (fun _ h _ => h) (fun b hb hlt => ho.block b hlt (fun e => by have hb : w2.heap.size ≤ b := hb; omega))⟩
end Go.Proofs.YtmaefilliggjiaaGreat
