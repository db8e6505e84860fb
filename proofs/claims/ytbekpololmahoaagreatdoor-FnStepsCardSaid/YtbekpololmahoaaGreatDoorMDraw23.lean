/- The reference's draws of systems for a refutation: the walk. No conditions. -/
import Derived.Lib.RabinKarpLaws
import Derived.Test.YtbekpololmahoaaGreatDoorMDraw14
import Derived.Test.YtbekpololmahoaaGreatDoorMEach5
import Derived.Test.YtbekpololmahoaaGreatDoorMStops
import Derived.Test.YtbekpololmahoaaGreatDoorMShelf0
import Derived.Test.YtbekpololmahoaaGreatDoorMLib
import Derived.Test.YtbekpololmahoaaGreatDoorMTable
import Derived.Test.YtbekpololmahoaaGreatDoorMFalse
import Derived.Test.YtbekpololmahoaaGreatDoorMDraw3
import Derived.Test.YtbekpololmahoaaGreatDoorMCount
namespace Go.Proofs.YtbekpololmahoaaGreatDoor
open Go.RowKit
set_option linter.unusedVariables false
set_option linter.unusedSimpArgs false
set_option maxRecDepth 100000 in
set_option maxHeartbeats 4000000 in
theorem l19DrawSystem_any (B0 SB : Nat) (W : World) (h : Src B0 SB W) :
  Calls Tryz.prog 38 #[.pointer (some ⟨SB, 0, none⟩)] W (DrawS1 B0 SB W) := by
 have hSl := h.lt
 have hB0 : B0 ≤ SB := h.1
 obtain ⟨W1, hW1, hB01, hz01, HZ01, _, hh01⟩ := box_facts W #[.int .i64 0, .int .i64 0, .int .i64 0, .int .i64 0, .int .i64 0, .slice none 0 0] 35
 have hz1e := HZ01.out
 have hz1l : W1.heap.size ≤ W.heap.size + 1 := by omega
 have hs1' := h.below hB01
 have HL := Lib.hid (And.intro hs1' (And.intro hB01 (And.intro hh01 hW1))); clear hs1' h hh01 hB01 hz1e
 go_enter Tryz.func38, Tryz.ntmps38
 go_wp2_with fail
 rw [← HL.out.2.2.2]
 clear hW1
 refine (l01Next_any B0 SB 5 _ HL.out.1).mono ?_
 rintro e' w2 ⟨x, rfl, ⟨hx0, hx1⟩, hs2, ho2⟩
 have hz2 := ho2.size
 have hR2 := ho2.heap HL.out.2.2.1 (fun e => by omega)
 have H2 := Lib.hid (And.intro hs2 (And.intro ((Only.of_below HL.out.2.1).trans ho2) hR2)); clear hs2 ho2 hR2
 by_cases hx : x = 0
 ·subst hx
  go_wp2_with fail
  refine (l17Draw_any B0 SB _ H2.out.1).mono ?_
  rintro e' w3 ⟨m, u, T, rfl, hsm, hu, hT12, hs3, ho3⟩
  have hz3 := ho3.size
  obtain ⟨ta, tc, rfl, _⟩ := hu.form
  have hR3 := ho3.heap H2.out.2.2 (fun e => by omega)
  have H3 := Lib.hid (And.intro hs3 (And.intro (H2.out.2.1.trans ho3) (And.intro hR3 (And.intro (hu.mono (S' := fun b => W1.heap.size ≤ b) (fun b hb _ => show W1.heap.size ≤ b by have hb : w2.heap.size ≤ b := hb; omega) (fun _ _ _ => rfl)) (And.intro hsm hT12))))); clear hs3 ho3 hR3 hu hsm hT12
  have hcRz : ∀ o, w3.cell? ⟨W.heap.size, o, none⟩ = (#[.int .i64 0, .int .i64 0, .int .i64 0, .int .i64 0, .int .i64 0, .slice none 0 0] : Array Value)[o]? := fun o => by rw [cell_of_block H3.out.2.2.1]
  have hfRz := fun o => frozen_of_block H3.out.2.2.1 o
  have hdone := putS_facts H3.out.1 H3.out.2.1 H3.out.2.2.1 (by omega) (Nat.le_refl _) (by omega) (.int .i64 m.c) (.int .i64 m.d) (.int .i64 m.s) (.int .i64 m.e) (.int .i64 m.l) (.slice ta T.length tc)
  obtain ⟨wz, hwz⟩ : ∃ wz, wz = putS w3 W.heap.size (.int .i64 m.c) (.int .i64 m.d) (.int .i64 m.s) (.int .i64 m.e) (.int .i64 m.l) (.slice ta T.length tc) := ⟨_, rfl⟩
  rw [← hwz] at hdone
  obtain ⟨hd1, hd2, hd3, hd4⟩ := hdone
  have hFz : V2 (fun b => W.heap.size ≤ b) wz (.slice ta T.length tc) T := V2.mono (S := fun b => W1.heap.size ≤ b) H3.out.2.2.2.1 (fun b hb _ => by have hb : W1.heap.size ≤ b := hb; omega) (fun b hb _ => hd4 b (by have hb : W1.heap.size ≤ b := hb; omega))
  have hz0 : wz.cell? ⟨W.heap.size, 0, none⟩ = some (.int .i64 m.c) := by rw [cell_of_block hd3]; rfl
  have hz1 : wz.cell? ⟨W.heap.size, 1, none⟩ = some (.int .i64 m.d) := by rw [cell_of_block hd3]; rfl
  have hz2 : wz.cell? ⟨W.heap.size, 2, none⟩ = some (.int .i64 m.s) := by rw [cell_of_block hd3]; rfl
  have hz3 : wz.cell? ⟨W.heap.size, 3, none⟩ = some (.int .i64 m.e) := by rw [cell_of_block hd3]; rfl
  have hz4 : wz.cell? ⟨W.heap.size, 4, none⟩ = some (.int .i64 m.l) := by rw [cell_of_block hd3]; rfl
  have hz5 : wz.cell? ⟨W.heap.size, 5, none⟩ = some (.slice ta T.length tc) := by rw [cell_of_block hd3]; rfl
  have HZ := Lib.hid (And.intro hd1 (And.intro hd2 (And.intro hFz (And.intro hwz (And.intro hz0 (And.intro hz1 (And.intro hz2 (And.intro hz3 (And.intro hz4 hz5))))))))); clear hd1 hd2 hd3 hd4 hFz hwz hz0 hz1 hz2 hz3 hz4 hz5
  go_wp2_with fail
  have hwz := HZ.out.2.2.2.1
  unfold putS putR at hwz
  skip
  rw [← hwz]
  clear hwz
  obtain ⟨hd1, hd2, hFz, hwzz, hz0, hz1, hz2, hz3, hz4, hz5⟩ := HZ.out
  clear hwzz
  exact bodyPost_ret (v := .agg #[.int .i64 m.c, .int .i64 m.d, .int .i64 m.s, .int .i64 m.e, .int .i64 m.l, (.slice ta T.length tc)]) (by simp [results, Tryz.results38, go_sem, hz0, hz1, hz2, hz3, hz4, hz5]) rfl ⟨m, _, T, rfl, H3.out.2.2.2.2.1, hFz, H3.out.2.2.2.2.2, hd1, hd2⟩
 ·have hxa : (x == 0) = false := by simp [hx]
  by_cases hxx : x = 1
  ·subst hxx
   clear hxa
   go_wp2_with fail
   refine (l15Draw_any B0 SB _ H2.out.1).mono ?_
   rintro e' w3 ⟨m, u, cv, T, cuts, rfl, hsm, hu, hT12, hcv, _, hs3, ho3⟩
   have hz3 := ho3.size
   obtain ⟨ta, tc, rfl, _⟩ := hu.form
   obtain ⟨w4, hw4⟩ : ∃ w4, w4 = w3.alloc (.cells #[.int .i64 m.c, .int .i64 m.d, .int .i64 m.s, .int .i64 m.e, .int .i64 m.l, .slice ta T.length tc] 35) := ⟨_, rfl⟩
   have hb34 : Below w3.heap.size w3 w4 := by rw [hw4]; exact (Below.refl _ _).alloc (Nat.le_refl _) _
   have hM4 : w4.heap[w3.heap.size]? = some (.cells #[.int .i64 m.c, .int .i64 m.d, .int .i64 m.s, .int .i64 m.e, .int .i64 m.l, .slice ta T.length tc] 35 (0, 0)) := by rw [hw4]; exact heap_alloc_self _ _
   have hR4 := (hb34.block _ (by omega)).trans (ho3.heap H2.out.2.2 (fun e => by omega))
   have hz4 : w3.heap.size < w4.heap.size := lt_of_heap hM4
   have H4 := Lib.hid (And.intro (hs3.below hb34) (And.intro ((H2.out.2.1.trans ho3).then_below hb34) (And.intro hR4 (And.intro ((hu.mono (fun b hb _ => show W1.heap.size ≤ b by omega) (fun _ _ _ => rfl)).below hb34) (And.intro hM4 (And.intro hsm (And.intro hw4 hT12))))))); clear hs3 ho3 hb34 hM4 hR4 hu hsm hw4 hcv hT12
   have hcM : ∀ o, (w3.alloc (.cells #[.int .i64 m.c, .int .i64 m.d, .int .i64 m.s, .int .i64 m.e, .int .i64 m.l, .slice ta T.length tc] 35)).cell? ⟨w3.heap.size, o, none⟩ = (#[.int .i64 m.c, .int .i64 m.d, .int .i64 m.s, .int .i64 m.e, .int .i64 m.l, .slice ta T.length tc] : Array Value)[o]? := fun o => by rw [← H4.out.2.2.2.2.2.2.1, cell_of_block H4.out.2.2.2.2.1]
   have hcRz : ∀ o, (w3.alloc (.cells #[.int .i64 m.c, .int .i64 m.d, .int .i64 m.s, .int .i64 m.e, .int .i64 m.l, .slice ta T.length tc] 35)).cell? ⟨W.heap.size, o, none⟩ = (#[.int .i64 0, .int .i64 0, .int .i64 0, .int .i64 0, .int .i64 0, .slice none 0 0] : Array Value)[o]? := fun o => by rw [← H4.out.2.2.2.2.2.2.1, cell_of_block H4.out.2.2.1]
   have hfRz : ∀ o, (w3.alloc (.cells #[.int .i64 m.c, .int .i64 m.d, .int .i64 m.s, .int .i64 m.e, .int .i64 m.l, .slice ta T.length tc] 35)).frozen? ⟨W.heap.size, o, none⟩ = false := fun o => by rw [← H4.out.2.2.2.2.2.2.1]; exact frozen_of_block H4.out.2.2.1 o
   have hdone := putS_facts H4.out.1 H4.out.2.1 H4.out.2.2.1 (by omega) (Nat.le_refl _) (by omega) (.int .i64 m.c) (.int .i64 m.d) (.int .i64 m.s) (.int .i64 m.e) (.int .i64 m.l) (.slice ta T.length tc)
   obtain ⟨wz, hwz⟩ : ∃ wz, wz = putS w4 W.heap.size (.int .i64 m.c) (.int .i64 m.d) (.int .i64 m.s) (.int .i64 m.e) (.int .i64 m.l) (.slice ta T.length tc) := ⟨_, rfl⟩
   rw [← hwz] at hdone
   obtain ⟨hd1, hd2, hd3, hd4⟩ := hdone
   have hFz : V2 (fun b => W.heap.size ≤ b) wz (.slice ta T.length tc) T := V2.mono (S := fun b => W1.heap.size ≤ b) H4.out.2.2.2.1 (fun b hb _ => by have hb : W1.heap.size ≤ b := hb; omega) (fun b hb _ => hd4 b (by have hb : W1.heap.size ≤ b := hb; omega))
   have hz0 : wz.cell? ⟨W.heap.size, 0, none⟩ = some (.int .i64 m.c) := by rw [cell_of_block hd3]; rfl
   have hz1 : wz.cell? ⟨W.heap.size, 1, none⟩ = some (.int .i64 m.d) := by rw [cell_of_block hd3]; rfl
   have hz2 : wz.cell? ⟨W.heap.size, 2, none⟩ = some (.int .i64 m.s) := by rw [cell_of_block hd3]; rfl
   have hz3 : wz.cell? ⟨W.heap.size, 3, none⟩ = some (.int .i64 m.e) := by rw [cell_of_block hd3]; rfl
   have hz4 : wz.cell? ⟨W.heap.size, 4, none⟩ = some (.int .i64 m.l) := by rw [cell_of_block hd3]; rfl
   have hz5 : wz.cell? ⟨W.heap.size, 5, none⟩ = some (.slice ta T.length tc) := by rw [cell_of_block hd3]; rfl
   have HZ := Lib.hid (And.intro hd1 (And.intro hd2 (And.intro hFz (And.intro hwz (And.intro hz0 (And.intro hz1 (And.intro hz2 (And.intro hz3 (And.intro hz4 hz5))))))))); clear hd1 hd2 hd3 hd4 hFz hwz hz0 hz1 hz2 hz3 hz4 hz5
   go_wp2_with fail
   have hwz := HZ.out.2.2.2.1
   unfold putS putR at hwz
   rw [H4.out.2.2.2.2.2.2.1] at hwz
   rw [← hwz]
   clear hwz
   obtain ⟨hd1, hd2, hFz, hwzz, hz0, hz1, hz2, hz3, hz4, hz5⟩ := HZ.out
   clear hwzz
   exact bodyPost_ret (v := .agg #[.int .i64 m.c, .int .i64 m.d, .int .i64 m.s, .int .i64 m.e, .int .i64 m.l, (.slice ta T.length tc)]) (by simp [results, Tryz.results38, go_sem, hz0, hz1, hz2, hz3, hz4, hz5]) rfl ⟨m, _, T, rfl, H4.out.2.2.2.2.2.1, hFz, H4.out.2.2.2.2.2.2.2, hd1, hd2⟩
  ·have hxb : (x == 1) = false := by simp [hxx]
   clear hx hxx hx0 hx1
   go_wp2_with fail
   refine (l01Next_any B0 SB 2 _ H2.out.1).mono ?_
   rintro e' w3 ⟨y, rfl, ⟨hy0, hy1⟩, hs3, ho3⟩
   have hz3 := ho3.size
   have hwy : wrap64 (1 + y) = 1 + y := IntWalk.wrap64_in _ (by omega)
   have hy3 : 1 + y ≤ 2 := by omega
   obtain ⟨w4, hw4⟩ : ∃ w4, w4 = w3.alloc (.cells #[.int .i64 2, .int .i64 2, .int .i64 1, .int .i64 (1 + y), .int .i64 1] 32) := ⟨_, rfl⟩
   have hb34 : Below w3.heap.size w3 w4 := by rw [hw4]; exact (Below.refl _ _).alloc (Nat.le_refl _) _
   have hM4 : w4.heap[w3.heap.size]? = some (.cells #[.int .i64 2, .int .i64 2, .int .i64 1, .int .i64 (1 + y), .int .i64 1] 32 (0, 0)) := by rw [hw4]; exact heap_alloc_self _ _
   have hR4 := (hb34.block _ (by omega)).trans (ho3.heap H2.out.2.2 (fun e => by omega))
   have hz4 : w3.heap.size < w4.heap.size := lt_of_heap hM4
   have he4 : w4.heap.size = w3.heap.size + 1 := by rw [hw4]; simp
   have H4 := Lib.hid (And.intro (hs3.below hb34) (And.intro ((H2.out.2.1.trans ho3).then_below hb34) (And.intro hM4 (And.intro hR4 hw4)))); clear hs3 ho3 hb34 hM4 hR4 hw4
   obtain ⟨w5, hw5, hL5, hb45, hz5⟩ := lit43 w4 (w3.heap.size + 1) he4
   have H5 := Lib.hid (And.intro (H4.out.1.below hb45) (And.intro (Only.of_below (SB := SB) hb45) (And.intro hL5 hw5))); clear hw5 hL5 hb45
   go_wp2_with fail
   rw [← H4.out.2.2.2.2, ← H5.out.2.2.2]
   refine (l01Next_any B0 SB 2 _ H5.out.1).mono ?_
   rintro e' w6 ⟨z, rfl, ⟨hzz0, hzz1⟩, hs6, ho6⟩
   have hz6 := ho6.size
   have H6 := Lib.hid (And.intro hs6 (And.intro (H5.out.2.1.trans ho6) (H5.out.2.2.1.keep (fun b h1 h2 => ho6.block b h2 (fun e => by omega))))); clear hs6 ho6
   by_cases hz : z = 0
   ·subst hz
    obtain ⟨w7, hw7, hL7, hb67, hz7⟩ := lit32 w6 w6.heap.size rfl
    have H7 := Lib.hid (And.intro (H6.out.1.below hb67) (And.intro (H6.out.2.1.then_below hb67) (And.intro hL7 hw7))); clear hw7 hL7 hb67
    go_wp2_with fail
    rw [← H7.out.2.2.2]
    obtain ⟨OB, hOB⟩ : ∃ OB, w6.heap.size + 1 + 1 + 1 = OB := ⟨_, rfl⟩
    obtain ⟨TB, hTB⟩ : ∃ TB, TB = w6.heap.size := ⟨_, rfl⟩
    have hTB4 : w4.heap.size ≤ TB := by omega
    rw [hOB]
    rw [← hTB] at hOB ⊢
    have hL7 := H7.out.2.2.1
    rw [← hTB] at hL7
    have HL7 := Lib.hid hL7; clear hL7 hTB
    refine (l01Next_any B0 SB 3 _ H7.out.1).mono ?_
    rintro e' w8 ⟨n8, rfl, ⟨hn0, hn1⟩, hs8, ho8⟩
    obtain ⟨nn, rfl⟩ : ∃ q : Nat, n8 = (q : Int) := ⟨n8.toNat, by omega⟩
    have hnn : nn ≤ 2 := by omega
    have hz8 := ho8.size
    have H8 := Lib.hid (And.intro hs8 (And.intro (LitT.keep HL7.out (fun b h1 h2 => ho8.block b h2 (fun e => by omega))) (Only.trans H7.out.2.1 ho8))); clear hs8 ho8 hn0 hn1
    go_wp2_with fail
    go_loopw [7] (fun nv wr => ∃ (n : Nat) (T' : List (List Int)), n ≤ 2 ∧ nv = .int .i64 (n : Int) ∧ LitT wr TB 3 2 T' ∧ Src B0 SB wr ∧ Only SB w4 wr) (fun nv _ => (intOf nv).toNat)
    case atStart => exact ⟨nn, _, hnn, rfl, H8.out.2.1, H8.out.1, H8.out.2.2⟩
    case round =>
     obtain ⟨n, T', hn2, rfl, hL, hsr, hor⟩ := hrel
     have hzr := hor.size
     obtain ⟨wo, rfl⟩ : ∃ x, x = wr := ⟨_, rfl⟩
     by_cases hn : n = 0
     ·subst hn
      have hMo := hor.heap H4.out.2.2.1 (fun e => by omega)
      have hRo := hor.heap H4.out.2.2.2.1 (fun e => by omega)
      have hcM : ∀ o, wo.cell? ⟨w3.heap.size, o, none⟩ = (#[.int .i64 2, .int .i64 2, .int .i64 1, .int .i64 (1 + y), .int .i64 1] : Array Value)[o]? := fun o => by rw [cell_of_block hMo]
      have HX := Lib.hid (And.intro hsr (And.intro (H4.out.2.1.trans hor) (And.intro hRo (And.intro ((hL.f2 (by omega) (by omega)).v2.mono (S' := fun b => W1.heap.size ≤ b) (fun b hb _ => by have hb : TB ≤ b := hb; omega) (fun _ _ _ => rfl)) hL.1)))); clear hsr hor hRo hMo hL
      have hcRz : ∀ o, wo.cell? ⟨W.heap.size, o, none⟩ = (#[.int .i64 0, .int .i64 0, .int .i64 0, .int .i64 0, .int .i64 0, .slice none 0 0] : Array Value)[o]? := fun o => by rw [cell_of_block HX.out.2.2.1]
      have hfRz := fun o => frozen_of_block HX.out.2.2.1 o
      have hV := HX.out.2.2.2.1
      rw [show TB + 3 = OB from hOB] at hV
      have HV := Lib.hid hV; clear hV
      have hdone := putS_facts HX.out.1 HX.out.2.1 HX.out.2.2.1 (by omega) (Nat.le_refl _) (by omega) (.int .i64 (Mk.mk 2 2 1 (1 + y) 1).c) (.int .i64 (Mk.mk 2 2 1 (1 + y) 1).d) (.int .i64 (Mk.mk 2 2 1 (1 + y) 1).s) (.int .i64 (Mk.mk 2 2 1 (1 + y) 1).e) (.int .i64 (Mk.mk 2 2 1 (1 + y) 1).l) (.slice (some ⟨OB, 0, none⟩) 3 3)
      obtain ⟨wz, hwz⟩ : ∃ wz, wz = putS wo W.heap.size (.int .i64 (Mk.mk 2 2 1 (1 + y) 1).c) (.int .i64 (Mk.mk 2 2 1 (1 + y) 1).d) (.int .i64 (Mk.mk 2 2 1 (1 + y) 1).s) (.int .i64 (Mk.mk 2 2 1 (1 + y) 1).e) (.int .i64 (Mk.mk 2 2 1 (1 + y) 1).l) (.slice (some ⟨OB, 0, none⟩) 3 3) := ⟨_, rfl⟩
      rw [← hwz] at hdone
      obtain ⟨hd1, hd2, hd3, hd4⟩ := hdone
      have hFz : V2 (fun b => W.heap.size ≤ b) wz (.slice (some ⟨OB, 0, none⟩) 3 3) T' := V2.mono (S := fun b => W1.heap.size ≤ b) HV.out (fun b hb _ => by have hb : W1.heap.size ≤ b := hb; omega) (fun b hb _ => hd4 b (by have hb : W1.heap.size ≤ b := hb; omega))
      have hz0 : wz.cell? ⟨W.heap.size, 0, none⟩ = some (.int .i64 (Mk.mk 2 2 1 (1 + y) 1).c) := by rw [cell_of_block hd3]; rfl
      have hz1 : wz.cell? ⟨W.heap.size, 1, none⟩ = some (.int .i64 (Mk.mk 2 2 1 (1 + y) 1).d) := by rw [cell_of_block hd3]; rfl
      have hz2 : wz.cell? ⟨W.heap.size, 2, none⟩ = some (.int .i64 (Mk.mk 2 2 1 (1 + y) 1).s) := by rw [cell_of_block hd3]; rfl
      have hz3 : wz.cell? ⟨W.heap.size, 3, none⟩ = some (.int .i64 (Mk.mk 2 2 1 (1 + y) 1).e) := by rw [cell_of_block hd3]; rfl
      have hz4 : wz.cell? ⟨W.heap.size, 4, none⟩ = some (.int .i64 (Mk.mk 2 2 1 (1 + y) 1).l) := by rw [cell_of_block hd3]; rfl
      have hz5 : wz.cell? ⟨W.heap.size, 5, none⟩ = some (.slice (some ⟨OB, 0, none⟩) 3 3) := by rw [cell_of_block hd3]; rfl
      have HZ := Lib.hid (And.intro hd1 (And.intro hd2 (And.intro hFz (And.intro hwz (And.intro hz0 (And.intro hz1 (And.intro hz2 (And.intro hz3 (And.intro hz4 hz5))))))))); clear hd1 hd2 hd3 hd4 hFz hwz hz0 hz1 hz2 hz3 hz4 hz5
      go_wp2_with fail
      have hwz := HZ.out.2.2.2.1
      unfold putS putR at hwz
      skip
      rw [← hwz]
      clear hwz
      obtain ⟨hd1, hd2, hFz, hwzz, hz0, hz1, hz2, hz3, hz4, hz5⟩ := HZ.out
      clear hwzz
      exact bodyPost_ret (v := .agg #[.int .i64 (Mk.mk 2 2 1 (1 + y) 1).c, .int .i64 (Mk.mk 2 2 1 (1 + y) 1).d, .int .i64 (Mk.mk 2 2 1 (1 + y) 1).s, .int .i64 (Mk.mk 2 2 1 (1 + y) 1).e, .int .i64 (Mk.mk 2 2 1 (1 + y) 1).l, (.slice (some ⟨OB, 0, none⟩) 3 3)]) (by simp [results, Tryz.results38, go_sem, hz0, hz1, hz2, hz3, hz4, hz5]) rfl ⟨(Mk.mk 2 2 1 (1 + y) 1), _, T', rfl, (by unfold SmallM; simp only; omega), hFz, (by rw [HX.out.2.2.2.2]; omega), hd1, hd2⟩
     ·obtain ⟨k, rfl⟩ : ∃ k, n = k + 1 := ⟨n - 1, by omega⟩
      have hnd : decide ((0 : Int) < ((k + 1 : Nat) : Int)) = true := decide_eq_true (by omega)
      have hnd2 : decide ((0 : Int) < (k : Int) + 1) = true := decide_eq_true (by omega)
      have hnd3 : decide (0 < k + 1) = true := decide_eq_true (by omega)
      have hk1 : k ≤ 1 := by omega
      have hbD : Below wo.heap.size wo wo.drew := (Below.refl _ _).drew
      have hS : ∀ q, q < 3 → wo.drew.cell? ⟨OB, q, none⟩ = some (.slice (some ⟨TB + q, 0, none⟩) 2 2) := fun q hq => by have := hL.rows q hq; rw [show TB + 3 = OB from hOB] at this; exact this
      have hlO : OB < wo.heap.size := lt_of_cell (hS 0 (by omega))
      have hlT : ∀ q, q < 3 → TB + q < wo.heap.size := fun q hq => by rw [← hOB] at hlO; omega
      have HX := Lib.hid (And.intro (hsr.below hbD) (And.intro (hL.keep (w' := wo.drew) (fun b _ _ => rfl)) (And.intro (hor.then_below hbD) (And.intro hS hlT)))); clear hsr hL hor hS hlT hbD hn hn2
      go_wp2_with fail
      refine wp_region_noPanic ?_
      refine wp_region_held_drew (S := fun w' => ∀ q, q < 3 → w'.cell? ⟨OB, q, none⟩ = some (.slice (some ⟨TB + q, 0, none⟩) 2 2)) (by kernel_rfl) HX.out.2.2.2.1 (fun hHeld => ?_)
      (refine wpAnyH_take (i := 0) (v := .slice (some ⟨OB, 0, none⟩) 3 3) rfl (by kernel_rfl) (by kernel_rfl) (by kernel_rfl) (fun _ _ _ h => h) (Or.inl ⟨by kernel_rfl, fun w hSw => by (try dsimp only at hSw); go_split_ands; go_simp⟩) (by assumption) ?_; simp only [Act.put, List.setIfInBounds_toArray, List.set_cons_zero, List.set_cons_succ])
      (refine wpAnyH_take (i := 1) (v := .pointer (some ⟨SB, 0, none⟩)) rfl (by kernel_rfl) (by kernel_rfl) (by kernel_rfl) (fun _ _ _ h => h) (Or.inl ⟨by kernel_rfl, fun w hSw => by (try dsimp only at hSw); go_split_ands; go_simp⟩) (by assumption) ?_; simp only [Act.put, List.setIfInBounds_toArray, List.set_cons_zero, List.set_cons_succ])
      (refine wpAnyH_take (i := 2) (v := .slice (some ⟨OB, 0, none⟩) 3 3) rfl (by kernel_rfl) (by kernel_rfl) (by kernel_rfl) (fun _ _ _ h => h) (Or.inl ⟨by kernel_rfl, fun w hSw => by (try dsimp only at hSw); go_split_ands; go_simp⟩) (by assumption) ?_; simp only [Act.put, List.setIfInBounds_toArray, List.set_cons_zero, List.set_cons_succ])
      (refine wpAnyH_take (i := 3) (v := .int .i64 3) rfl (by kernel_rfl) (by kernel_rfl) (by kernel_rfl) (fun _ _ _ h => h) (Or.inl ⟨by kernel_rfl, fun w hSw => by (try dsimp only at hSw); go_split_ands; go_simp⟩) (by assumption) ?_; simp only [Act.put, List.setIfInBounds_toArray, List.set_cons_zero, List.set_cons_succ])
      (refine wpAnyH_take (i := 7) (v := .pointer (some ⟨SB, 0, none⟩)) rfl (by kernel_rfl) (by kernel_rfl) (by kernel_rfl) (fun _ _ _ h => h) (Or.inl ⟨by kernel_rfl, fun w hSw => by (try dsimp only at hSw); go_split_ands; go_simp⟩) (by assumption) ?_; simp only [Act.put, List.setIfInBounds_toArray, List.set_cons_zero, List.set_cons_succ])
      (refine wpAnyH_take (i := 8) (v := .slice (some ⟨OB, 0, none⟩) 3 3) rfl (by kernel_rfl) (by kernel_rfl) (by kernel_rfl) (fun _ _ _ h => h) (Or.inl ⟨by kernel_rfl, fun w hSw => by (try dsimp only at hSw); go_split_ands; go_simp⟩) (by assumption) ?_; simp only [Act.put, List.setIfInBounds_toArray, List.set_cons_zero, List.set_cons_succ])
      (refine wpAnyH_take (i := 9) (v := .pointer (some ⟨OB, 0, none⟩)) rfl (by kernel_rfl) (by kernel_rfl) (by kernel_rfl) (fun _ _ _ h => h) (Or.inl ⟨by kernel_rfl, fun w hSw => by (try dsimp only at hSw); go_split_ands; go_simp⟩) (by assumption) ?_; simp only [Act.put, List.setIfInBounds_toArray, List.set_cons_zero, List.set_cons_succ])
      (refine wpAnyH_take (i := 10) (v := .slice (some ⟨TB, 0, none⟩) 2 2) rfl (by kernel_rfl) (by kernel_rfl) (by kernel_rfl) (fun _ _ _ h => h) (Or.inl ⟨by kernel_rfl, fun w hSw => by (try dsimp only at hSw); have hq0 := hSw 0 (by omega); rw [Nat.add_zero] at hq0; clear hSw; go_simp⟩) (by assumption) ?_; simp only [Act.put, List.setIfInBounds_toArray, List.set_cons_zero, List.set_cons_succ])
      (refine wpAnyH_take (i := 11) (v := .int .i64 2) rfl (by kernel_rfl) (by kernel_rfl) (by kernel_rfl) (fun _ _ _ h => h) (Or.inl ⟨by kernel_rfl, fun w hSw => by (try dsimp only at hSw); go_split_ands; go_simp⟩) (by assumption) ?_; simp only [Act.put, List.setIfInBounds_toArray, List.set_cons_zero, List.set_cons_succ])
      (refine wpAnyH_take (i := 13) (v := .pointer (some ⟨SB, 0, none⟩)) rfl (by kernel_rfl) (by kernel_rfl) (by kernel_rfl) (fun _ _ _ h => h) (Or.inl ⟨by kernel_rfl, fun w hSw => by (try dsimp only at hSw); go_split_ands; go_simp⟩) (by assumption) ?_; simp only [Act.put, List.setIfInBounds_toArray, List.set_cons_zero, List.set_cons_succ])
      refine wpAnyH_ready (rs := [4]) (by kernel_rfl) (by simp) (AllReadyH.cons rfl (fun K hK => ?_) AllReadyH.nil)
      go_simp
      go_at_call 27
      refine (l01Next_any B0 SB 3 _ HX.out.1).mono ?_
      rintro e' wa ⟨a0, rfl, ⟨ha0, ha1⟩, hsa, hoa⟩
      obtain ⟨rr, rfl⟩ : ∃ q : Nat, a0 = (q : Int) := ⟨a0.toNat, by omega⟩
      have hrr : rr < 3 := by omega
      have hrrn : ¬ 3 ≤ rr := by omega
      have hrrn2 : ¬ (3 : Int) ≤ (rr : Int) := by omega
      have hzD : wo.drew.heap.size = wo.heap.size := rfl
      have hza := hoa.size
      have HA := Lib.hid (And.intro hsa (And.intro (HX.out.2.2.1.trans hoa) (And.intro (HX.out.2.1.keep (w' := wa) (fun b h1 h2 => hoa.block b h2 (fun e => by omega))) (fun q (hq : q < 3) => cell_keep (HX.out.2.2.2.1 q hq) (hoa.block _ hlO (fun e => by omega)))))); clear hsa hoa ha0 ha1
      dsimp only
      (refine hK.out _ _ HA.out.2.2.2 (fun hHeld => ?_); clear hK K; (try simp only [Act.put, List.setIfInBounds_toArray, List.set_cons_zero, List.set_cons_succ]))
      (refine wpAnyH_take (i := 5) (v := .pointer (some ⟨OB, rr, none⟩)) rfl (by kernel_rfl) (by kernel_rfl) (by kernel_rfl) (fun _ _ _ h => h) (Or.inl ⟨by kernel_rfl, fun w hSw => by (try dsimp only at hSw); go_split_ands; go_simp⟩) (by assumption) ?_; simp only [Act.put, List.setIfInBounds_toArray, List.set_cons_zero, List.set_cons_succ])
      (refine wpAnyH_take (i := 6) (v := .slice (some ⟨TB + rr, 0, none⟩) 2 2) rfl (by kernel_rfl) (by kernel_rfl) (by kernel_rfl) (fun _ _ _ h => h) (Or.inl ⟨by kernel_rfl, fun w hSw => by (try dsimp only at hSw); have hq0 := hSw rr hrr; clear hSw; go_simp⟩) (by assumption) ?_; simp only [Act.put, List.setIfInBounds_toArray, List.set_cons_zero, List.set_cons_succ])
      refine wpAnyH_ready (rs := [12]) (by kernel_rfl) (by simp) (AllReadyH.cons rfl (fun K hK => ?_) AllReadyH.nil)
      go_simp
      go_at_call 27
      refine (l01Next_any B0 SB 2 _ HA.out.1).mono ?_
      rintro e' wb ⟨b0, rfl, ⟨hb0, hb1⟩, hsb, hob⟩
      obtain ⟨ci, rfl⟩ : ∃ q : Nat, b0 = (q : Int) := ⟨b0.toNat, by omega⟩
      have hci : ci < 2 := by omega
      have hcin : ¬ 2 ≤ ci := by omega
      have hcin2 : ¬ (2 : Int) ≤ (ci : Int) := by omega
      have hci3 : (ci : Int) < 2 := by omega
      have hzb := hob.size
      have HB := Lib.hid (And.intro hsb (And.intro (HA.out.2.1.trans hob) (And.intro (HA.out.2.2.1.keep (w' := wb) (fun b h1 h2 => hob.block b h2 (fun e => by omega))) (fun q (hq : q < 3) => cell_keep (HA.out.2.2.2 q hq) (hob.block _ (by omega) (fun e => by omega)))))); clear hsb hob hb0 hb1
      dsimp only
      (refine hK.out _ _ HB.out.2.2.2 (fun hHeld => ?_); clear hK K; (try simp only [Act.put, List.setIfInBounds_toArray, List.set_cons_zero, List.set_cons_succ]))
      refine wpAnyH_ready (rs := [14]) (by kernel_rfl) (by simp) (AllReadyH.cons rfl (fun K hK => ?_) AllReadyH.nil)
      go_simp
      go_at_call 27
      refine (l01Next_any B0 SB 2 _ HB.out.1).mono ?_
      rintro e' wc ⟨yy, rfl, _, hsc, hoc⟩
      have hzc := hoc.size
      have hLc := HB.out.2.2.1.keep (w' := wc) (fun b h1 h2 => hoc.block b h2 (fun e => by omega))
      obtain ⟨⟨xo, hxo⟩, hfo⟩ := hLc.cell hrr hci
      obtain ⟨wd, hwd⟩ : ∃ wd, wd = wc.setCell ⟨TB + rr, ci, none⟩ (.int .i64 yy) := ⟨_, rfl⟩
      have hLd := hLc.put (x := yy) hrr hci
      rw [← hwd] at hLd
      have hsd : Src B0 SB wd := hsc.only (b := TB + rr) (off := ci) (by omega) (by omega) _ hwd
      have hod : Only SB w4 wd := by rw [hwd]; exact (HB.out.2.1.trans hoc).setNew (by omega) _
      have HC := Lib.hid (And.intro hsd (And.intro hod (And.intro hLd (And.intro hwd (fun q (hq : q < 3) => cell_keep (HB.out.2.2.2 q hq) (hoc.block _ (by omega) (fun e => by omega))))))); clear hsd hod hLd hwd hsc hoc hLc
      dsimp only
      (refine hK.out _ _ HC.out.2.2.2.2 (fun hHeld => ?_); clear hK K; (try simp only [Act.put, List.setIfInBounds_toArray, List.set_cons_zero, List.set_cons_succ]))
      (refine wpAnyH_ready (rs := [15]) (by kernel_rfl) (by simp) (AllReadyH.cons rfl (fun K hK => ?_) AllReadyH.nil); go_simp)
      (refine hK.out _ _ HC.out.2.2.2.2 (fun hHeld => ?_); clear hK K; (try simp only [Act.put, List.setIfInBounds_toArray, List.set_cons_zero, List.set_cons_succ]))
      (refine wpAnyH_ready (rs := [16]) (by kernel_rfl) (by simp) (AllReadyH.cons rfl (fun K hK => ?_) AllReadyH.nil); go_simp)
      rw [← HC.out.2.2.2.1]
      have hSd : ∀ q, q < 3 → wd.cell? ⟨OB, q, none⟩ = some (.slice (some ⟨TB + q, 0, none⟩) 2 2) := fun q hq => by have := HC.out.2.2.1.rows q hq; rw [show TB + 3 = OB from hOB] at this; exact this
      have HS := Lib.hid hSd; clear hSd
      (refine hK.out _ _ HS.out (fun hHeld => ?_); clear hK K; (try simp only [Act.put, List.setIfInBounds_toArray, List.set_cons_zero, List.set_cons_succ]))
      refine wpAnyH_done (by kernel_rfl) (NoPanic.normal ?_) _
      clear hHeld
      go_wp2_with fail
      go_roundw
      case rel => exact ⟨k, _, by omega, by go_num, HC.out.2.2.1, HC.out.1, HC.out.2.1⟩
      case measure => simp [intOf]
   ·have hzd : (z == 0) = false := by simp [hz]
    clear hz hzz0 hzz1
    go_wp2_with fail
    obtain ⟨OB, hOB⟩ : ∃ OB, w3.heap.size + 1 + 1 + 1 + 1 + 1 = OB := ⟨_, rfl⟩
    obtain ⟨TB, hTB⟩ : ∃ TB, TB = w3.heap.size + 1 := ⟨_, rfl⟩
    have hTB4 : w4.heap.size ≤ TB := by omega
    rw [hOB]
    rw [← hTB] at hOB ⊢
    have hL7 := H6.out.2.2
    rw [← hTB] at hL7
    have HL7 := Lib.hid hL7; clear hL7 hTB
    refine (l01Next_any B0 SB 3 _ H6.out.1).mono ?_
    rintro e' w8 ⟨n8, rfl, ⟨hn0, hn1⟩, hs8, ho8⟩
    obtain ⟨nn, rfl⟩ : ∃ q : Nat, n8 = (q : Int) := ⟨n8.toNat, by omega⟩
    have hnn : nn ≤ 2 := by omega
    have hz8 := ho8.size
    have H8 := Lib.hid (And.intro hs8 (And.intro (LitT.keep HL7.out (fun b h1 h2 => ho8.block b h2 (fun e => by omega))) (Only.trans H6.out.2.1 ho8))); clear hs8 ho8 hn0 hn1
    go_wp2_with fail
    go_loopw [7] (fun nv wr => ∃ (n : Nat) (T' : List (List Int)), n ≤ 2 ∧ nv = .int .i64 (n : Int) ∧ LitT wr TB 4 3 T' ∧ Src B0 SB wr ∧ Only SB w4 wr) (fun nv _ => (intOf nv).toNat)
    case atStart => exact ⟨nn, _, hnn, rfl, H8.out.2.1, H8.out.1, H8.out.2.2⟩
    case round =>
     obtain ⟨n, T', hn2, rfl, hL, hsr, hor⟩ := hrel
     have hzr := hor.size
     obtain ⟨wo, rfl⟩ : ∃ x, x = wr := ⟨_, rfl⟩
     by_cases hn : n = 0
     ·subst hn
      have hMo := hor.heap H4.out.2.2.1 (fun e => by omega)
      have hRo := hor.heap H4.out.2.2.2.1 (fun e => by omega)
      have hcM : ∀ o, wo.cell? ⟨w3.heap.size, o, none⟩ = (#[.int .i64 2, .int .i64 2, .int .i64 1, .int .i64 (1 + y), .int .i64 1] : Array Value)[o]? := fun o => by rw [cell_of_block hMo]
      have HX := Lib.hid (And.intro hsr (And.intro (H4.out.2.1.trans hor) (And.intro hRo (And.intro ((hL.f2 (by omega) (by omega)).v2.mono (S' := fun b => W1.heap.size ≤ b) (fun b hb _ => by have hb : TB ≤ b := hb; omega) (fun _ _ _ => rfl)) hL.1)))); clear hsr hor hRo hMo hL
      have hcRz : ∀ o, wo.cell? ⟨W.heap.size, o, none⟩ = (#[.int .i64 0, .int .i64 0, .int .i64 0, .int .i64 0, .int .i64 0, .slice none 0 0] : Array Value)[o]? := fun o => by rw [cell_of_block HX.out.2.2.1]
      have hfRz := fun o => frozen_of_block HX.out.2.2.1 o
      have hV := HX.out.2.2.2.1
      rw [show TB + 4 = OB from hOB] at hV
      have HV := Lib.hid hV; clear hV
      have hdone := putS_facts HX.out.1 HX.out.2.1 HX.out.2.2.1 (by omega) (Nat.le_refl _) (by omega) (.int .i64 (Mk.mk 2 2 1 (1 + y) 1).c) (.int .i64 (Mk.mk 2 2 1 (1 + y) 1).d) (.int .i64 (Mk.mk 2 2 1 (1 + y) 1).s) (.int .i64 (Mk.mk 2 2 1 (1 + y) 1).e) (.int .i64 (Mk.mk 2 2 1 (1 + y) 1).l) (.slice (some ⟨OB, 0, none⟩) 4 4)
      obtain ⟨wz, hwz⟩ : ∃ wz, wz = putS wo W.heap.size (.int .i64 (Mk.mk 2 2 1 (1 + y) 1).c) (.int .i64 (Mk.mk 2 2 1 (1 + y) 1).d) (.int .i64 (Mk.mk 2 2 1 (1 + y) 1).s) (.int .i64 (Mk.mk 2 2 1 (1 + y) 1).e) (.int .i64 (Mk.mk 2 2 1 (1 + y) 1).l) (.slice (some ⟨OB, 0, none⟩) 4 4) := ⟨_, rfl⟩
      rw [← hwz] at hdone
      obtain ⟨hd1, hd2, hd3, hd4⟩ := hdone
      have hFz : V2 (fun b => W.heap.size ≤ b) wz (.slice (some ⟨OB, 0, none⟩) 4 4) T' := V2.mono (S := fun b => W1.heap.size ≤ b) HV.out (fun b hb _ => by have hb : W1.heap.size ≤ b := hb; omega) (fun b hb _ => hd4 b (by have hb : W1.heap.size ≤ b := hb; omega))
      have hz0 : wz.cell? ⟨W.heap.size, 0, none⟩ = some (.int .i64 (Mk.mk 2 2 1 (1 + y) 1).c) := by rw [cell_of_block hd3]; rfl
      have hz1 : wz.cell? ⟨W.heap.size, 1, none⟩ = some (.int .i64 (Mk.mk 2 2 1 (1 + y) 1).d) := by rw [cell_of_block hd3]; rfl
      have hz2 : wz.cell? ⟨W.heap.size, 2, none⟩ = some (.int .i64 (Mk.mk 2 2 1 (1 + y) 1).s) := by rw [cell_of_block hd3]; rfl
      have hz3 : wz.cell? ⟨W.heap.size, 3, none⟩ = some (.int .i64 (Mk.mk 2 2 1 (1 + y) 1).e) := by rw [cell_of_block hd3]; rfl
      have hz4 : wz.cell? ⟨W.heap.size, 4, none⟩ = some (.int .i64 (Mk.mk 2 2 1 (1 + y) 1).l) := by rw [cell_of_block hd3]; rfl
      have hz5 : wz.cell? ⟨W.heap.size, 5, none⟩ = some (.slice (some ⟨OB, 0, none⟩) 4 4) := by rw [cell_of_block hd3]; rfl
      have HZ := Lib.hid (And.intro hd1 (And.intro hd2 (And.intro hFz (And.intro hwz (And.intro hz0 (And.intro hz1 (And.intro hz2 (And.intro hz3 (And.intro hz4 hz5))))))))); clear hd1 hd2 hd3 hd4 hFz hwz hz0 hz1 hz2 hz3 hz4 hz5
      go_wp2_with fail
      have hwz := HZ.out.2.2.2.1
      unfold putS putR at hwz
      skip
      rw [← hwz]
      clear hwz
      obtain ⟨hd1, hd2, hFz, hwzz, hz0, hz1, hz2, hz3, hz4, hz5⟩ := HZ.out
      clear hwzz
      exact bodyPost_ret (v := .agg #[.int .i64 (Mk.mk 2 2 1 (1 + y) 1).c, .int .i64 (Mk.mk 2 2 1 (1 + y) 1).d, .int .i64 (Mk.mk 2 2 1 (1 + y) 1).s, .int .i64 (Mk.mk 2 2 1 (1 + y) 1).e, .int .i64 (Mk.mk 2 2 1 (1 + y) 1).l, (.slice (some ⟨OB, 0, none⟩) 4 4)]) (by simp [results, Tryz.results38, go_sem, hz0, hz1, hz2, hz3, hz4, hz5]) rfl ⟨(Mk.mk 2 2 1 (1 + y) 1), _, T', rfl, (by unfold SmallM; simp only; omega), hFz, (by rw [HX.out.2.2.2.2]; omega), hd1, hd2⟩
     ·obtain ⟨k, rfl⟩ : ∃ k, n = k + 1 := ⟨n - 1, by omega⟩
      have hnd : decide ((0 : Int) < ((k + 1 : Nat) : Int)) = true := decide_eq_true (by omega)
      have hnd2 : decide ((0 : Int) < (k : Int) + 1) = true := decide_eq_true (by omega)
      have hnd3 : decide (0 < k + 1) = true := decide_eq_true (by omega)
      have hk1 : k ≤ 1 := by omega
      have hbD : Below wo.heap.size wo wo.drew := (Below.refl _ _).drew
      have hS : ∀ q, q < 4 → wo.drew.cell? ⟨OB, q, none⟩ = some (.slice (some ⟨TB + q, 0, none⟩) 3 3) := fun q hq => by have := hL.rows q hq; rw [show TB + 4 = OB from hOB] at this; exact this
      have hlO : OB < wo.heap.size := lt_of_cell (hS 0 (by omega))
      have hlT : ∀ q, q < 4 → TB + q < wo.heap.size := fun q hq => by rw [← hOB] at hlO; omega
      have HX := Lib.hid (And.intro (hsr.below hbD) (And.intro (hL.keep (w' := wo.drew) (fun b _ _ => rfl)) (And.intro (hor.then_below hbD) (And.intro hS hlT)))); clear hsr hL hor hS hlT hbD hn hn2
      go_wp2_with fail
      refine wp_region_noPanic ?_
      refine wp_region_held_drew (S := fun w' => ∀ q, q < 4 → w'.cell? ⟨OB, q, none⟩ = some (.slice (some ⟨TB + q, 0, none⟩) 3 3)) (by kernel_rfl) HX.out.2.2.2.1 (fun hHeld => ?_)
      (refine wpAnyH_take (i := 0) (v := .slice (some ⟨OB, 0, none⟩) 4 4) rfl (by kernel_rfl) (by kernel_rfl) (by kernel_rfl) (fun _ _ _ h => h) (Or.inl ⟨by kernel_rfl, fun w hSw => by (try dsimp only at hSw); go_split_ands; go_simp⟩) (by assumption) ?_; simp only [Act.put, List.setIfInBounds_toArray, List.set_cons_zero, List.set_cons_succ])
      (refine wpAnyH_take (i := 1) (v := .pointer (some ⟨SB, 0, none⟩)) rfl (by kernel_rfl) (by kernel_rfl) (by kernel_rfl) (fun _ _ _ h => h) (Or.inl ⟨by kernel_rfl, fun w hSw => by (try dsimp only at hSw); go_split_ands; go_simp⟩) (by assumption) ?_; simp only [Act.put, List.setIfInBounds_toArray, List.set_cons_zero, List.set_cons_succ])
      (refine wpAnyH_take (i := 2) (v := .slice (some ⟨OB, 0, none⟩) 4 4) rfl (by kernel_rfl) (by kernel_rfl) (by kernel_rfl) (fun _ _ _ h => h) (Or.inl ⟨by kernel_rfl, fun w hSw => by (try dsimp only at hSw); go_split_ands; go_simp⟩) (by assumption) ?_; simp only [Act.put, List.setIfInBounds_toArray, List.set_cons_zero, List.set_cons_succ])
      (refine wpAnyH_take (i := 3) (v := .int .i64 4) rfl (by kernel_rfl) (by kernel_rfl) (by kernel_rfl) (fun _ _ _ h => h) (Or.inl ⟨by kernel_rfl, fun w hSw => by (try dsimp only at hSw); go_split_ands; go_simp⟩) (by assumption) ?_; simp only [Act.put, List.setIfInBounds_toArray, List.set_cons_zero, List.set_cons_succ])
      (refine wpAnyH_take (i := 7) (v := .pointer (some ⟨SB, 0, none⟩)) rfl (by kernel_rfl) (by kernel_rfl) (by kernel_rfl) (fun _ _ _ h => h) (Or.inl ⟨by kernel_rfl, fun w hSw => by (try dsimp only at hSw); go_split_ands; go_simp⟩) (by assumption) ?_; simp only [Act.put, List.setIfInBounds_toArray, List.set_cons_zero, List.set_cons_succ])
      (refine wpAnyH_take (i := 8) (v := .slice (some ⟨OB, 0, none⟩) 4 4) rfl (by kernel_rfl) (by kernel_rfl) (by kernel_rfl) (fun _ _ _ h => h) (Or.inl ⟨by kernel_rfl, fun w hSw => by (try dsimp only at hSw); go_split_ands; go_simp⟩) (by assumption) ?_; simp only [Act.put, List.setIfInBounds_toArray, List.set_cons_zero, List.set_cons_succ])
      (refine wpAnyH_take (i := 9) (v := .pointer (some ⟨OB, 0, none⟩)) rfl (by kernel_rfl) (by kernel_rfl) (by kernel_rfl) (fun _ _ _ h => h) (Or.inl ⟨by kernel_rfl, fun w hSw => by (try dsimp only at hSw); go_split_ands; go_simp⟩) (by assumption) ?_; simp only [Act.put, List.setIfInBounds_toArray, List.set_cons_zero, List.set_cons_succ])
      (refine wpAnyH_take (i := 10) (v := .slice (some ⟨TB, 0, none⟩) 3 3) rfl (by kernel_rfl) (by kernel_rfl) (by kernel_rfl) (fun _ _ _ h => h) (Or.inl ⟨by kernel_rfl, fun w hSw => by (try dsimp only at hSw); have hq0 := hSw 0 (by omega); rw [Nat.add_zero] at hq0; clear hSw; go_simp⟩) (by assumption) ?_; simp only [Act.put, List.setIfInBounds_toArray, List.set_cons_zero, List.set_cons_succ])
      (refine wpAnyH_take (i := 11) (v := .int .i64 3) rfl (by kernel_rfl) (by kernel_rfl) (by kernel_rfl) (fun _ _ _ h => h) (Or.inl ⟨by kernel_rfl, fun w hSw => by (try dsimp only at hSw); go_split_ands; go_simp⟩) (by assumption) ?_; simp only [Act.put, List.setIfInBounds_toArray, List.set_cons_zero, List.set_cons_succ])
      (refine wpAnyH_take (i := 13) (v := .pointer (some ⟨SB, 0, none⟩)) rfl (by kernel_rfl) (by kernel_rfl) (by kernel_rfl) (fun _ _ _ h => h) (Or.inl ⟨by kernel_rfl, fun w hSw => by (try dsimp only at hSw); go_split_ands; go_simp⟩) (by assumption) ?_; simp only [Act.put, List.setIfInBounds_toArray, List.set_cons_zero, List.set_cons_succ])
      refine wpAnyH_ready (rs := [4]) (by kernel_rfl) (by simp) (AllReadyH.cons rfl (fun K hK => ?_) AllReadyH.nil)
      go_simp
      go_at_call 27
      refine (l01Next_any B0 SB 4 _ HX.out.1).mono ?_
      rintro e' wa ⟨a0, rfl, ⟨ha0, ha1⟩, hsa, hoa⟩
      obtain ⟨rr, rfl⟩ : ∃ q : Nat, a0 = (q : Int) := ⟨a0.toNat, by omega⟩
      have hrr : rr < 4 := by omega
      have hrrn : ¬ 4 ≤ rr := by omega
      have hrrn2 : ¬ (4 : Int) ≤ (rr : Int) := by omega
      have hzD : wo.drew.heap.size = wo.heap.size := rfl
      have hza := hoa.size
      have HA := Lib.hid (And.intro hsa (And.intro (HX.out.2.2.1.trans hoa) (And.intro (HX.out.2.1.keep (w' := wa) (fun b h1 h2 => hoa.block b h2 (fun e => by omega))) (fun q (hq : q < 4) => cell_keep (HX.out.2.2.2.1 q hq) (hoa.block _ hlO (fun e => by omega)))))); clear hsa hoa ha0 ha1
      dsimp only
      (refine hK.out _ _ HA.out.2.2.2 (fun hHeld => ?_); clear hK K; (try simp only [Act.put, List.setIfInBounds_toArray, List.set_cons_zero, List.set_cons_succ]))
      (refine wpAnyH_take (i := 5) (v := .pointer (some ⟨OB, rr, none⟩)) rfl (by kernel_rfl) (by kernel_rfl) (by kernel_rfl) (fun _ _ _ h => h) (Or.inl ⟨by kernel_rfl, fun w hSw => by (try dsimp only at hSw); go_split_ands; go_simp⟩) (by assumption) ?_; simp only [Act.put, List.setIfInBounds_toArray, List.set_cons_zero, List.set_cons_succ])
      (refine wpAnyH_take (i := 6) (v := .slice (some ⟨TB + rr, 0, none⟩) 3 3) rfl (by kernel_rfl) (by kernel_rfl) (by kernel_rfl) (fun _ _ _ h => h) (Or.inl ⟨by kernel_rfl, fun w hSw => by (try dsimp only at hSw); have hq0 := hSw rr hrr; clear hSw; go_simp⟩) (by assumption) ?_; simp only [Act.put, List.setIfInBounds_toArray, List.set_cons_zero, List.set_cons_succ])
      refine wpAnyH_ready (rs := [12]) (by kernel_rfl) (by simp) (AllReadyH.cons rfl (fun K hK => ?_) AllReadyH.nil)
      go_simp
      go_at_call 27
      refine (l01Next_any B0 SB 3 _ HA.out.1).mono ?_
      rintro e' wb ⟨b0, rfl, ⟨hb0, hb1⟩, hsb, hob⟩
      obtain ⟨ci, rfl⟩ : ∃ q : Nat, b0 = (q : Int) := ⟨b0.toNat, by omega⟩
      have hci : ci < 3 := by omega
      have hcin : ¬ 3 ≤ ci := by omega
      have hcin2 : ¬ (3 : Int) ≤ (ci : Int) := by omega
      have hci3 : (ci : Int) < 3 := by omega
      have hzb := hob.size
      have HB := Lib.hid (And.intro hsb (And.intro (HA.out.2.1.trans hob) (And.intro (HA.out.2.2.1.keep (w' := wb) (fun b h1 h2 => hob.block b h2 (fun e => by omega))) (fun q (hq : q < 4) => cell_keep (HA.out.2.2.2 q hq) (hob.block _ (by omega) (fun e => by omega)))))); clear hsb hob hb0 hb1
      dsimp only
      (refine hK.out _ _ HB.out.2.2.2 (fun hHeld => ?_); clear hK K; (try simp only [Act.put, List.setIfInBounds_toArray, List.set_cons_zero, List.set_cons_succ]))
      refine wpAnyH_ready (rs := [14]) (by kernel_rfl) (by simp) (AllReadyH.cons rfl (fun K hK => ?_) AllReadyH.nil)
      go_simp
      go_at_call 27
      refine (l01Next_any B0 SB 2 _ HB.out.1).mono ?_
      rintro e' wc ⟨yy, rfl, _, hsc, hoc⟩
      have hzc := hoc.size
      have hLc := HB.out.2.2.1.keep (w' := wc) (fun b h1 h2 => hoc.block b h2 (fun e => by omega))
      obtain ⟨⟨xo, hxo⟩, hfo⟩ := hLc.cell hrr hci
      obtain ⟨wd, hwd⟩ : ∃ wd, wd = wc.setCell ⟨TB + rr, ci, none⟩ (.int .i64 yy) := ⟨_, rfl⟩
      have hLd := hLc.put (x := yy) hrr hci
      rw [← hwd] at hLd
      have hsd : Src B0 SB wd := hsc.only (b := TB + rr) (off := ci) (by omega) (by omega) _ hwd
      have hod : Only SB w4 wd := by rw [hwd]; exact (HB.out.2.1.trans hoc).setNew (by omega) _
      have HC := Lib.hid (And.intro hsd (And.intro hod (And.intro hLd (And.intro hwd (fun q (hq : q < 4) => cell_keep (HB.out.2.2.2 q hq) (hoc.block _ (by omega) (fun e => by omega))))))); clear hsd hod hLd hwd hsc hoc hLc
      dsimp only
      (refine hK.out _ _ HC.out.2.2.2.2 (fun hHeld => ?_); clear hK K; (try simp only [Act.put, List.setIfInBounds_toArray, List.set_cons_zero, List.set_cons_succ]))
      (refine wpAnyH_ready (rs := [15]) (by kernel_rfl) (by simp) (AllReadyH.cons rfl (fun K hK => ?_) AllReadyH.nil); go_simp)
      (refine hK.out _ _ HC.out.2.2.2.2 (fun hHeld => ?_); clear hK K; (try simp only [Act.put, List.setIfInBounds_toArray, List.set_cons_zero, List.set_cons_succ]))
      (refine wpAnyH_ready (rs := [16]) (by kernel_rfl) (by simp) (AllReadyH.cons rfl (fun K hK => ?_) AllReadyH.nil); go_simp)
      rw [← HC.out.2.2.2.1]
      have hSd : ∀ q, q < 4 → wd.cell? ⟨OB, q, none⟩ = some (.slice (some ⟨TB + q, 0, none⟩) 3 3) := fun q hq => by have := HC.out.2.2.1.rows q hq; rw [show TB + 4 = OB from hOB] at this; exact this
      have HS := Lib.hid hSd; clear hSd
      (refine hK.out _ _ HS.out (fun hHeld => ?_); clear hK K; (try simp only [Act.put, List.setIfInBounds_toArray, List.set_cons_zero, List.set_cons_succ]))
      refine wpAnyH_done (by kernel_rfl) (NoPanic.normal ?_) _
      clear hHeld
      go_wp2_with fail
      go_roundw
      case rel => exact ⟨k, _, by omega, by go_num, HC.out.2.2.1, HC.out.1, HC.out.2.1⟩
      case measure => simp [intOf]
/-- A fresh list that may grow in place. -/
def FO (B : Nat) (w : World) (v : Value) (l : List Int) : Prop := F1 B w v l ∧ (l ≠ [] → w.ownsRow B 2 1 v l.length (l.map (Value.int .i64)))
theorem FO.below {B : Nat} {w w' : World} {v : Value} {l : List Int} (h : FO B w v l) (hb : Below w.heap.size w w') : FO B w' v l :=
 ⟨h.1.below hb, fun hn => own_chg (h.2 hn) (Chg.of_below (F := fun _ => False) hb) (fun _ _ h => h)⟩
theorem FO.mono {B B' : Nat} {w : World} {v : Value} {l : List Int} (h : FO B w v l) (hb : B' ≤ B) : FO B' w v l := ⟨h.1.mono hb, fun hn => own_base (h.2 hn) hb⟩
theorem F1.nil {B : Nat} {w : World} : F1 B w (.slice none 0 0) [] := ⟨0, ⟨none, 0, rfl, Nat.le_refl _, Nat.zero_le _, fun hn => absurd rfl hn⟩, fun hn => absurd rfl hn⟩
theorem geti_put {l : List Int} {p j : Nat} {x : Int} (hp : p < l.length) : geti (l.set p x) j = if p = j then x else geti l j := by
 unfold geti
 rw [List.getD_eq_getElem?_getD, List.getD_eq_getElem?_getD, List.getElem?_set]
 by_cases e : p = j
 ·simp [e, e ▸ hp]
 ·simp [e]
theorem X1.put {w : World} {b off n c k : Nat} {l : List Int} (h : X1 w (.slice (some ⟨b, off, none⟩) n c) l b) (hk : k < l.length) (x : Int) : X1 (w.setCell ⟨b, off + k, none⟩ (.int .i64 x)) (.slice (some ⟨b, off, none⟩) n c) (l.set k x) b := by
 obtain ⟨a', c', e, h1, h2, h3⟩ := h
 simp only [Value.slice.injEq] at e
 obtain ⟨rfl, rfl, rfl⟩ := e
 obtain ⟨off', cs, T, e, h4, h5⟩ := h3 (by intro e; subst e; simp at hk)
 cases e
 refine ⟨_, c, by rw [List.length_set], by rw [List.length_set]; exact h1, h2, fun _ => ⟨off, _, T, rfl, heap_setCell_self h4 _, fun j hj => ?_⟩⟩
 rw [List.length_set] at hj
 rw [Array.getElem?_setIfInBounds]
 have hlt : off + k < cs.size := (Array.getElem?_eq_some_iff.1 (h5 k hk)).1
 by_cases e : k = j
 ·subst e; rw [if_pos rfl, if_pos hlt, geti_put hk, if_pos rfl]
 ·rw [if_neg (by omega), h5 j hj, geti_put hk, if_neg e]
/-- What the program keeps of the best choice so far. -/
def BestV (B : Nat) (w : World) (bv lv : Value) : Option (List Int) → Prop
 | none => bv = .slice none 0 0 ∧ ∃ n : Nat, lv = .int .i64 (n : Int) ∧ n ≤ 100
 | some b => FO B w bv b ∧ lv = .int .i64 ((diffI b).length : Int)
theorem BestV.below {B : Nat} {w w' : World} {bv lv : Value} {o : Option (List Int)} (h : BestV B w bv lv o) (hb : Below w.heap.size w w') : BestV B w' bv lv o := by
 cases o with
 | none => exact h
 | some b => exact ⟨h.1.below hb, h.2⟩
theorem BestV.mono {B B' : Nat} {w : World} {bv lv : Value} {o : Option (List Int)} (h : BestV B w bv lv o) (hb : B' ≤ B) : BestV B' w bv lv o := by
 cases o with
 | none => exact h
 | some b => exact ⟨h.1.mono hb, h.2⟩
theorem falseL_get {n : Nat} {t cuts : List (List Int)} {k : Nat} (hk : k < (falseL n t cuts).length) : ∃ i d : Nat, i < cuts.length ∧ d < (getl t 0).length ∧ getl (falseL n t cuts) k = [(i : Int), (d : Int)] ∧ geti (getl t i) d = 0 ∧ opensB (lockR n t cuts d) (getl cuts i) = true := by
 obtain ⟨i, d, h1, h2, h3, h4, h5⟩ := mem_falseRows.1 (getl_mem hk)
 rw [locksTo_get h2] at h5
 exact ⟨i, d, h1, h2, h3, h4, h5⟩
theorem runL_inv {σ α : Type} {f : σ → α → σ × Bool} {P : σ → Prop} (h : ∀ s k, P s → P (f s k).1) : ∀ (l : List α) (s : σ), P s → P (runL f s l).1
 | [], s, hs => hs
 | k :: l, s, hs => by
   unfold runL
   split
   ·exact runL_inv h l _ (h s k hs)
   ·exact h s k hs
/-- The run with the last answer kept. -/
def flag {σ α : Type} (f : σ → α → σ × Bool) (s : σ × Bool) (k : α) : (σ × Bool) × Bool := (f s.1 k, (f s.1 k).2)
theorem runL_flag {σ α : Type} {f : σ → α → σ × Bool} : ∀ (l : List α) (s : σ), runL (flag f) (s, true) l = (runL f s l, (runL f s l).2)
 | [], s => rfl
 | k :: l, s => by
   unfold runL
   by_cases h : (f s k).2 = true
   ·rw [if_pos (show (flag f (s, true) k).2 = true from h), if_pos h]
    have : (flag f (s, true) k).1 = ((f s k).1, true) := by show f s k = _; rw [← h]
    rw [this]
    exact runL_flag l _
   ·rw [if_neg (show ¬ (flag f (s, true) k).2 = true from h), if_neg h]
    have : (flag f (s, true) k).1 = ((f s k).1, false) := by show f s k = _; rw [Bool.not_eq_true] at h; rw [← h]
    rw [this]
/-- Cuts, one more. -/
structure PartOk (m : Mk) (t cuts : List (List Int)) : Prop where
 sys : isSys m t = true
 few : cuts.length ≤ t.length
 keys : allKeys m cuts = true
theorem PartOk.c {m : Mk} {t cuts : List (List Int)} (h : PartOk m t cuts) : partC m t cuts = 0 := partC_ok.2 ⟨h.sys, h.few, h.keys⟩
theorem PartOk.fits {m : Mk} {t cuts : List (List Int)} (h : PartOk m t cuts) : Fits m t cuts := fits_of h.c
theorem PartOk.more {m : Mk} {t cuts : List (List Int)} (h : PartOk m t cuts) (hl : cuts.length < t.length) {key : List Int} (hk : isKeyB m key = true) : PartOk m t (cuts ++ [key]) := by
 refine ⟨h.sys, by simp; omega, allKeys_iff.2 fun k hkl => ?_⟩
 by_cases e : k < cuts.length
 ·rw [getl_append1 e]; exact allKeys_iff.1 h.keys k e
 ·have e2 : k = cuts.length := by simp at hkl; omega
  subst e2
  rw [getl_last]; exact hk
theorem PartOk.nil {m : Mk} {t : List (List Int)} (h : isSys m t = true) : PartOk m t [] := ⟨h, Nat.zero_le _, allKeys_iff.2 fun k hk => by simp at hk⟩
theorem own_V2S {S : Nat → Prop} {w : World} {B : Nat} {e : TypeId} {v : Value} {n : Nat} {vs : List Value} {ls : List (List Int)} (h : w.ownsRow B e 1 v n vs) (hr : RowVs S w vs ls) : V2 (fun b => S b ∨ B ≤ b) w v ls := by
 obtain ⟨hl, h⟩ := h
 have hn : n = ls.length := by have := hr.1; omega
 subst hn
 rcases h with ⟨rfl, h0⟩ | ⟨g, cap, cur, rfl, hb, hh, hc, hm, hs, ht⟩
 ·exact ⟨none, 0, by rw [h0], by omega, Nat.zero_le _, fun k hk => by omega⟩
 ·refine ⟨_, _, rfl, hc, hm, fun k hk => ?_⟩
  obtain ⟨ev, h1, h2⟩ := hr.2 k hk
  refine ⟨g, 0, ev, rfl, .inr hb, ?_, h2.mono (fun b hb _ => .inl hb) (fun _ _ _ => rfl)⟩
  have h3 : (cur.toList.take (ls.length * 1))[k]? = vs[k]? := by rw [ht]
  rw [List.getElem?_take, if_pos (by omega), h1] at h3
  rw [cell_of_block hh, Nat.zero_add, ← Array.getElem?_toList, h3]
/-- What a reader has read, and the greatest steps for these. -/
abbrev RSt := Nat × List (Int × Int)
def lastStep (L : List (List Int)) : Int × Int := (geti (getl L (L.length - 1)) 0, geti (getl L (L.length - 1)) 1)
def rdStep (n : Nat) (t : List (List Int)) (steps : List (Int × Int)) (rec : List (List Int) → RSt → RSt × Bool) (cuts : List (List Int)) (s : RSt) (key : List Int) : RSt × Bool :=
 if s.1 = steps.length then (s, false)
 else if openS (gets steps s.1) = true then (if cuts.length + 1 < t.length then rec (cuts ++ [key]) (s.1 + 1, s.2 ++ [gets steps s.1]) else (s, false))
 else if hasL (falseL n t (cuts ++ [key])) [(gets steps s.1).1, (gets steps s.1).2] = true then ((s.1 + 1, s.2 ++ [lastStep (falseL n t (cuts ++ [key]))]), true) else (s, false)
def readF (n : Nat) (t keys : List (List Int)) (steps : List (Int × Int)) : Nat → List (List Int) → RSt → RSt × Bool
 | 0 => fun _ s => (s, false)
 | d + 1 => fun cuts s => runL (rdStep n t steps (readF n t keys steps d) cuts) s keys
/-- What a reader keeps. -/
def RdOk (steps : List (Int × Int)) (s : RSt) : Prop := s.1 ≤ steps.length ∧ s.2.length = s.1
theorem rdStep_ok {n : Nat} {t : List (List Int)} {steps : List (Int × Int)} {rec : List (List Int) → RSt → RSt × Bool} (hr : ∀ c s, RdOk steps s → RdOk steps (rec c s).1) {cuts : List (List Int)} {s : RSt} {key : List Int} (h : RdOk steps s) : RdOk steps (rdStep n t steps rec cuts s key).1 := by
 unfold rdStep
 obtain ⟨h1, h2⟩ := h
 split
 ·exact ⟨h1, h2⟩
 ·split
  ·split
   ·exact hr _ _ ⟨by show s.1 + 1 ≤ _; omega, by simp [h2]⟩
   ·exact ⟨h1, h2⟩
  ·split
   ·exact ⟨by show s.1 + 1 ≤ _; omega, by simp [h2]⟩
   ·exact ⟨h1, h2⟩
theorem readF_ok {n : Nat} {t keys : List (List Int)} {steps : List (Int × Int)} : ∀ {d : Nat} {cuts : List (List Int)} {s : RSt}, RdOk steps s → RdOk steps (readF n t keys steps d cuts s).1
 | 0, _, _, h => h
 | d + 1, cuts, s, h => runL_inv (P := RdOk steps) (fun s k hs => rdStep_ok (fun c s hs => readF_ok hs) hs) keys s h
/-- The numbers of steps, one behind the other. -/
def flatS (l : List (Int × Int)) : List Value := l.flatMap fun x => [.int .i64 x.1, .int .i64 x.2]
theorem flatS_snoc (l : List (Int × Int)) (x : Int × Int) : flatS (l ++ [x]) = flatS l ++ [.int .i64 x.1, .int .i64 x.2] := by simp [flatS]
/-- The steps so far, and the code. -/
abbrev FSt := List (Int × Int) × Int
def firstStep (L : List (List Int)) : Int × Int := (geti (getl L 0) 0, geti (getl L 0) 1)
def rfStep (n : Nat) (t : List (List Int)) (rec : List (List Int) → List (Int × Int) → FSt) (cuts : List (List Int)) (s : FSt) (key : List Int) : FSt × Bool :=
 if s.1.length = 1200 then ((s.1, 3), false)
 else if 0 < (falseL n t (cuts ++ [key])).length then ((s.1 ++ [firstStep (falseL n t (cuts ++ [key]))], 0), true)
 else if cuts.length + 1 = t.length then ((s.1, 5), false)
 else (rec (cuts ++ [key]) (s.1 ++ [(-1, 0)]), decide ((rec (cuts ++ [key]) (s.1 ++ [(-1, 0)])).2 = 0))
def rfF (n : Nat) (t keys : List (List Int)) : Nat → List (List Int) → List (Int × Int) → FSt
 | 0 => fun _ l => (l, 0)
 | d + 1 => fun cuts l => (runL (rfStep n t (rfF n t keys d) cuts) (l, 0) keys).1
def RfOk (s : FSt) : Prop := s.1.length ≤ 1200 ∧ (s.2 = 0 ∨ s.2 = 3 ∨ s.2 = 5)
theorem rfStep_ok {n : Nat} {t : List (List Int)} {rec : List (List Int) → List (Int × Int) → FSt} (hr : ∀ c l, l.length ≤ 1200 → RfOk (rec c l)) {cuts : List (List Int)} {s : FSt} {key : List Int} (h : s.1.length ≤ 1200) :
  RfOk (rfStep n t rec cuts s key).1 ∧ (rfStep n t rec cuts s key).2 = decide ((rfStep n t rec cuts s key).1.2 = 0) := by
 unfold rfStep
 split
 ·exact ⟨⟨h, .inr (.inl rfl)⟩, rfl⟩
 ·split
  ·exact ⟨⟨by show (s.1 ++ [_]).length ≤ _; rw [List.length_append]; simp only [List.length_cons, List.length_nil]; omega, .inl rfl⟩, rfl⟩
  ·split
   ·exact ⟨⟨h, .inr (.inr rfl)⟩, rfl⟩
   ·exact ⟨hr _ _ (by rw [List.length_append]; simp only [List.length_cons, List.length_nil]; omega), rfl⟩
theorem runL_rf {n : Nat} {t : List (List Int)} {rec : List (List Int) → List (Int × Int) → FSt} (hr : ∀ c l, l.length ≤ 1200 → RfOk (rec c l)) {cuts : List (List Int)} : ∀ (keys : List (List Int)) (s : FSt), RfOk s → s.2 = 0 →
  RfOk (runL (rfStep n t rec cuts) s keys).1 ∧ (runL (rfStep n t rec cuts) s keys).2 = decide ((runL (rfStep n t rec cuts) s keys).1.2 = 0)
 | [], s, hs, h0 => ⟨hs, by show true = decide (s.2 = 0); rw [h0]; rfl⟩
 | k :: l, s, hs, h0 => by
   have h1 := rfStep_ok (n := n) (t := t) hr (cuts := cuts) (s := s) (key := k) hs.1
   unfold runL
   split
   ·rename_i h2
    rw [h1.2, decide_eq_true_iff] at h2
    exact runL_rf hr l _ h1.1 h2
   ·rename_i h2
    refine ⟨h1.1, ?_⟩
    rw [Bool.not_eq_true] at h2
    rw [← h1.2, h2]
theorem rfF_ok {n : Nat} {t keys : List (List Int)} : ∀ {d : Nat} {cuts : List (List Int)} {l : List (Int × Int)}, l.length ≤ 1200 → RfOk (rfF n t keys d cuts l)
 | 0, _, l, h => ⟨h, .inl rfl⟩
 | d + 1, cuts, l, h => (runL_rf (fun c l h => rfF_ok h) keys (l, 0) ⟨h, .inl rfl⟩ rfl).1
/-- What the program's list holds: a step more, where a design is found. -/
def rfL (s : FSt) : List (Int × Int) := if s.2 = 5 then s.1 ++ [(-1, 0)] else s.1
def refuteAns (m : Mk) (t : List (List Int)) : List (Int × Int) × Int :=
 if isSys m t = false then ([], 1) else if (rfF m.c.toNat t (keysOf m) t.length [] []).2 = 0 then ((rfF m.c.toNat t (keysOf m) t.length [] []).1, 0) else ([], (rfF m.c.toNat t (keysOf m) t.length [] []).2)
theorem refuteAns_len (m : Mk) (t : List (List Int)) : (refuteAns m t).1.length ≤ 1048576 := by
 unfold refuteAns
 split
 ·simp
 ·split
  ·have := (rfF_ok (n := m.c.toNat) (t := t) (keys := keysOf m) (d := t.length) (cuts := []) (l := []) (by simp)).1
   show (rfF m.c.toNat t (keysOf m) t.length [] []).1.length ≤ _
   omega
  ·simp
end Go.Proofs.YtbekpololmahoaaGreatDoor
