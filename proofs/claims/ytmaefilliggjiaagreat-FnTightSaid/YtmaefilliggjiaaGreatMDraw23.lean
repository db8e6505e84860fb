/- The reference's draws of systems for a refutation: the walk. No conditions. -/
import Derived.Test.YtmaefilliggjiaaGreatMGoC
namespace Go.Proofs.YtmaefilliggjiaaGreat
open Go.RowKit
set_option linter.unusedVariables false
set_option linter.unusedSimpArgs false
set_option maxRecDepth 100000 in
set_option maxHeartbeats 4000000 in
theorem l19DrawSystem_any (B0 SB : Nat) (W : World) (h : Src B0 SB W) :
  Calls Tryz.prog 169 #[.pointer (some ⟨SB, 0, none⟩)] W (DrawS1 B0 SB W) := by
 have hSl := h.lt
 have hB0 : B0 ≤ SB := h.1
 obtain ⟨W1, hW1, hB01, hz01, HZ01, _, hh01⟩ := box_facts W #[.int .i64 0, .int .i64 0, .int .i64 0, .int .i64 0, .int .i64 0, .slice none 0 0] 28
 have hz1e := HZ01.out
 have hz1l : W1.heap.size ≤ W.heap.size + 1 := by omega
 have hs1' := h.below hB01
 have HL := Lib.hid (And.intro hs1' (And.intro hB01 (And.intro hh01 hW1))); clear hs1' h hh01 hB01 hz1e
 go_enter Tryz.func169, Tryz.ntmps169
 go_wp2_with fail
 rw [← HL.out.2.2.2]
 clear hW1
 refine (l01Next_any B0 SB 5 _ HL.out.1).mono ?_
 rintro e' w2 ⟨x, rfl, ⟨hx0, hx1⟩, hs2, ho2⟩
 have hz2 := ho2.size
 have hR2 := ho2.heap HL.out.2.2.1 (fun e => by omega)
 have H2 := Lib.hid (And.intro hs2 (And.intro ((Only.of_below HL.out.2.1).trans ho2) hR2)); clear hs2 ho2 hR2
 by_cases hx : x = 0
 ·subst hx
  go_wp2_with fail
  refine (l17Draw_any B0 SB _ H2.out.1).mono ?_
  rintro e' w3 ⟨m, u, T, rfl, hsm, hu, hT12, hs3, ho3⟩
  have hz3 := ho3.size
  obtain ⟨ta, tc, rfl, _⟩ := hu.form
  have hR3 := ho3.heap H2.out.2.2 (fun e => by omega)
  have H3 := Lib.hid (And.intro hs3 (And.intro (H2.out.2.1.trans ho3) (And.intro hR3 (And.intro (hu.mono (S' := fun b => W1.heap.size ≤ b) (fun b hb _ => show W1.heap.size ≤ b by have hb : w2.heap.size ≤ b := hb; omega) (fun _ _ _ => rfl)) (And.intro hsm hT12))))); clear hs3 ho3 hR3 hu hsm hT12
  have hcRz : ∀ o, w3.cell? ⟨W.heap.size, o, none⟩ = (#[.int .i64 0, .int .i64 0, .int .i64 0, .int .i64 0, .int .i64 0, .slice none 0 0] : Array Value)[o]? := fun o => by rw [cell_of_block H3.out.2.2.1]
  have hfRz := fun o => frozen_of_block H3.out.2.2.1 o
  have hdone := putS_facts H3.out.1 H3.out.2.1 H3.out.2.2.1 (by omega) (Nat.le_refl _) (by omega) (.int .i64 m.c) (.int .i64 m.d) (.int .i64 m.s) (.int .i64 m.e) (.int .i64 m.l) (.slice ta T.length tc)
  obtain ⟨wz, hwz⟩ : ∃ wz, wz = putS w3 W.heap.size (.int .i64 m.c) (.int .i64 m.d) (.int .i64 m.s) (.int .i64 m.e) (.int .i64 m.l) (.slice ta T.length tc) := ⟨_, rfl⟩
  rw [← hwz] at hdone
  obtain ⟨hd1, hd2, hd3, hd4⟩ := hdone
  have hFz : V2 (fun b => W.heap.size ≤ b) wz (.slice ta T.length tc) T := V2.mono (S := fun b => W1.heap.size ≤ b) H3.out.2.2.2.1 (fun b hb _ => by have hb : W1.heap.size ≤ b := hb; omega) (fun b hb _ => hd4 b (by have hb : W1.heap.size ≤ b := hb; omega))
  have hz0 : wz.cell? ⟨W.heap.size, 0, none⟩ = some (.int .i64 m.c) := by rw [cell_of_block hd3]; rfl
  have hz1 : wz.cell? ⟨W.heap.size, 1, none⟩ = some (.int .i64 m.d) := by rw [cell_of_block hd3]; rfl
  have hz2 : wz.cell? ⟨W.heap.size, 2, none⟩ = some (.int .i64 m.s) := by rw [cell_of_block hd3]; rfl
  have hz3 : wz.cell? ⟨W.heap.size, 3, none⟩ = some (.int .i64 m.e) := by rw [cell_of_block hd3]; rfl
  have hz4 : wz.cell? ⟨W.heap.size, 4, none⟩ = some (.int .i64 m.l) := by rw [cell_of_block hd3]; rfl
  have hz5 : wz.cell? ⟨W.heap.size, 5, none⟩ = some (.slice ta T.length tc) := by rw [cell_of_block hd3]; rfl
  have HZ := Lib.hid (And.intro hd1 (And.intro hd2 (And.intro hFz (And.intro hwz (And.intro hz0 (And.intro hz1 (And.intro hz2 (And.intro hz3 (And.intro hz4 hz5))))))))); clear hd1 hd2 hd3 hd4 hFz hwz hz0 hz1 hz2 hz3 hz4 hz5
  go_wp2_with fail
  have hwz := HZ.out.2.2.2.1
  unfold putS putR at hwz
  skip
  rw [← hwz]
  clear hwz
  obtain ⟨hd1, hd2, hFz, hwzz, hz0, hz1, hz2, hz3, hz4, hz5⟩ := HZ.out
  clear hwzz
  exact bodyPost_ret (v := .agg #[.int .i64 m.c, .int .i64 m.d, .int .i64 m.s, .int .i64 m.e, .int .i64 m.l, (.slice ta T.length tc)]) (by simp [results, Tryz.results169, go_sem, hz0, hz1, hz2, hz3, hz4, hz5]) rfl ⟨m, _, T, rfl, H3.out.2.2.2.2.1, hFz, H3.out.2.2.2.2.2, hd1, hd2⟩
 ·have hxa : (x == 0) = false := by simp [hx]
  by_cases hxx : x = 1
  ·subst hxx
   clear hxa
   go_wp2_with fail
   refine (l15Draw_any B0 SB _ H2.out.1).mono ?_
   rintro e' w3 ⟨m, u, cv, T, cuts, rfl, hsm, hu, hT12, hcv, _, hs3, ho3⟩
   have hz3 := ho3.size
   obtain ⟨ta, tc, rfl, _⟩ := hu.form
   obtain ⟨w4, hw4⟩ : ∃ w4, w4 = w3.alloc (.cells #[.int .i64 m.c, .int .i64 m.d, .int .i64 m.s, .int .i64 m.e, .int .i64 m.l, .slice ta T.length tc] 28) := ⟨_, rfl⟩
   have hb34 : Below w3.heap.size w3 w4 := by rw [hw4]; exact (Below.refl _ _).alloc (Nat.le_refl _) _
   have hM4 : w4.heap[w3.heap.size]? = some (.cells #[.int .i64 m.c, .int .i64 m.d, .int .i64 m.s, .int .i64 m.e, .int .i64 m.l, .slice ta T.length tc] 28 (0, 0)) := by rw [hw4]; exact heap_alloc_self _ _
   have hR4 := (hb34.block _ (by omega)).trans (ho3.heap H2.out.2.2 (fun e => by omega))
   have hz4 : w3.heap.size < w4.heap.size := lt_of_heap hM4
   have H4 := Lib.hid (And.intro (hs3.below hb34) (And.intro ((H2.out.2.1.trans ho3).then_below hb34) (And.intro hR4 (And.intro ((hu.mono (fun b hb _ => show W1.heap.size ≤ b by omega) (fun _ _ _ => rfl)).below hb34) (And.intro hM4 (And.intro hsm (And.intro hw4 hT12))))))); clear hs3 ho3 hb34 hM4 hR4 hu hsm hw4 hcv hT12
   have hcM : ∀ o, (w3.alloc (.cells #[.int .i64 m.c, .int .i64 m.d, .int .i64 m.s, .int .i64 m.e, .int .i64 m.l, .slice ta T.length tc] 28)).cell? ⟨w3.heap.size, o, none⟩ = (#[.int .i64 m.c, .int .i64 m.d, .int .i64 m.s, .int .i64 m.e, .int .i64 m.l, .slice ta T.length tc] : Array Value)[o]? := fun o => by rw [← H4.out.2.2.2.2.2.2.1, cell_of_block H4.out.2.2.2.2.1]
   have hcRz : ∀ o, (w3.alloc (.cells #[.int .i64 m.c, .int .i64 m.d, .int .i64 m.s, .int .i64 m.e, .int .i64 m.l, .slice ta T.length tc] 28)).cell? ⟨W.heap.size, o, none⟩ = (#[.int .i64 0, .int .i64 0, .int .i64 0, .int .i64 0, .int .i64 0, .slice none 0 0] : Array Value)[o]? := fun o => by rw [← H4.out.2.2.2.2.2.2.1, cell_of_block H4.out.2.2.1]
   have hfRz : ∀ o, (w3.alloc (.cells #[.int .i64 m.c, .int .i64 m.d, .int .i64 m.s, .int .i64 m.e, .int .i64 m.l, .slice ta T.length tc] 28)).frozen? ⟨W.heap.size, o, none⟩ = false := fun o => by rw [← H4.out.2.2.2.2.2.2.1]; exact frozen_of_block H4.out.2.2.1 o
   have hdone := putS_facts H4.out.1 H4.out.2.1 H4.out.2.2.1 (by omega) (Nat.le_refl _) (by omega) (.int .i64 m.c) (.int .i64 m.d) (.int .i64 m.s) (.int .i64 m.e) (.int .i64 m.l) (.slice ta T.length tc)
   obtain ⟨wz, hwz⟩ : ∃ wz, wz = putS w4 W.heap.size (.int .i64 m.c) (.int .i64 m.d) (.int .i64 m.s) (.int .i64 m.e) (.int .i64 m.l) (.slice ta T.length tc) := ⟨_, rfl⟩
   rw [← hwz] at hdone
   obtain ⟨hd1, hd2, hd3, hd4⟩ := hdone
   have hFz : V2 (fun b => W.heap.size ≤ b) wz (.slice ta T.length tc) T := V2.mono (S := fun b => W1.heap.size ≤ b) H4.out.2.2.2.1 (fun b hb _ => by have hb : W1.heap.size ≤ b := hb; omega) (fun b hb _ => hd4 b (by have hb : W1.heap.size ≤ b := hb; omega))
   have hz0 : wz.cell? ⟨W.heap.size, 0, none⟩ = some (.int .i64 m.c) := by rw [cell_of_block hd3]; rfl
   have hz1 : wz.cell? ⟨W.heap.size, 1, none⟩ = some (.int .i64 m.d) := by rw [cell_of_block hd3]; rfl
   have hz2 : wz.cell? ⟨W.heap.size, 2, none⟩ = some (.int .i64 m.s) := by rw [cell_of_block hd3]; rfl
   have hz3 : wz.cell? ⟨W.heap.size, 3, none⟩ = some (.int .i64 m.e) := by rw [cell_of_block hd3]; rfl
   have hz4 : wz.cell? ⟨W.heap.size, 4, none⟩ = some (.int .i64 m.l) := by rw [cell_of_block hd3]; rfl
   have hz5 : wz.cell? ⟨W.heap.size, 5, none⟩ = some (.slice ta T.length tc) := by rw [cell_of_block hd3]; rfl
   have HZ := Lib.hid (And.intro hd1 (And.intro hd2 (And.intro hFz (And.intro hwz (And.intro hz0 (And.intro hz1 (And.intro hz2 (And.intro hz3 (And.intro hz4 hz5))))))))); clear hd1 hd2 hd3 hd4 hFz hwz hz0 hz1 hz2 hz3 hz4 hz5
   go_wp2_with fail
   have hwz := HZ.out.2.2.2.1
   unfold putS putR at hwz
   rw [H4.out.2.2.2.2.2.2.1] at hwz
   rw [← hwz]
   clear hwz
   obtain ⟨hd1, hd2, hFz, hwzz, hz0, hz1, hz2, hz3, hz4, hz5⟩ := HZ.out
   clear hwzz
   exact bodyPost_ret (v := .agg #[.int .i64 m.c, .int .i64 m.d, .int .i64 m.s, .int .i64 m.e, .int .i64 m.l, (.slice ta T.length tc)]) (by simp [results, Tryz.results169, go_sem, hz0, hz1, hz2, hz3, hz4, hz5]) rfl ⟨m, _, T, rfl, H4.out.2.2.2.2.2.1, hFz, H4.out.2.2.2.2.2.2.2, hd1, hd2⟩
  ·have hxb : (x == 1) = false := by simp [hxx]
   clear hx hxx hx0 hx1
   go_wp2_with fail
   refine (l01Next_any B0 SB 2 _ H2.out.1).mono ?_
   rintro e' w3 ⟨y, rfl, ⟨hy0, hy1⟩, hs3, ho3⟩
   have hz3 := ho3.size
   have hwy : wrap64 (1 + y) = 1 + y := IntWalk.wrap64_in _ (by omega)
   have hy3 : 1 + y ≤ 2 := by omega
   obtain ⟨w4, hw4⟩ : ∃ w4, w4 = w3.alloc (.cells #[.int .i64 2, .int .i64 2, .int .i64 1, .int .i64 (1 + y), .int .i64 1] 25) := ⟨_, rfl⟩
   have hb34 : Below w3.heap.size w3 w4 := by rw [hw4]; exact (Below.refl _ _).alloc (Nat.le_refl _) _
   have hM4 : w4.heap[w3.heap.size]? = some (.cells #[.int .i64 2, .int .i64 2, .int .i64 1, .int .i64 (1 + y), .int .i64 1] 25 (0, 0)) := by rw [hw4]; exact heap_alloc_self _ _
   have hR4 := (hb34.block _ (by omega)).trans (ho3.heap H2.out.2.2 (fun e => by omega))
   have hz4 : w3.heap.size < w4.heap.size := lt_of_heap hM4
   have he4 : w4.heap.size = w3.heap.size + 1 := by rw [hw4]; simp
   have H4 := Lib.hid (And.intro (hs3.below hb34) (And.intro ((H2.out.2.1.trans ho3).then_below hb34) (And.intro hM4 (And.intro hR4 hw4)))); clear hs3 ho3 hb34 hM4 hR4 hw4
   obtain ⟨w5, hw5, hL5, hb45, hz5⟩ := lit43 w4 (w3.heap.size + 1) he4
   have H5 := Lib.hid (And.intro (H4.out.1.below hb45) (And.intro (Only.of_below (SB := SB) hb45) (And.intro hL5 hw5))); clear hw5 hL5 hb45
   go_wp2_with fail
   rw [← H4.out.2.2.2.2, ← H5.out.2.2.2]
   refine (l01Next_any B0 SB 2 _ H5.out.1).mono ?_
   rintro e' w6 ⟨z, rfl, ⟨hzz0, hzz1⟩, hs6, ho6⟩
   have hz6 := ho6.size
   have H6 := Lib.hid (And.intro hs6 (And.intro (H5.out.2.1.trans ho6) (H5.out.2.2.1.keep (fun b h1 h2 => ho6.block b h2 (fun e => by omega))))); clear hs6 ho6
   by_cases hz : z = 0
   ·subst hz
    obtain ⟨w7, hw7, hL7, hb67, hz7⟩ := lit32 w6 w6.heap.size rfl
    have H7 := Lib.hid (And.intro (H6.out.1.below hb67) (And.intro (H6.out.2.1.then_below hb67) (And.intro hL7 hw7))); clear hw7 hL7 hb67
    go_wp2_with fail
    rw [← H7.out.2.2.2]
    obtain ⟨OB, hOB⟩ : ∃ OB, w6.heap.size + 1 + 1 + 1 = OB := ⟨_, rfl⟩
    obtain ⟨TB, hTB⟩ : ∃ TB, TB = w6.heap.size := ⟨_, rfl⟩
    have hTB4 : w4.heap.size ≤ TB := by omega
    rw [hOB]
    rw [← hTB] at hOB ⊢
    have hL7 := H7.out.2.2.1
    rw [← hTB] at hL7
    have HL7 := Lib.hid hL7; clear hL7 hTB
    refine (l01Next_any B0 SB 3 _ H7.out.1).mono ?_
    rintro e' w8 ⟨n8, rfl, ⟨hn0, hn1⟩, hs8, ho8⟩
    obtain ⟨nn, rfl⟩ : ∃ q : Nat, n8 = (q : Int) := ⟨n8.toNat, by omega⟩
    have hnn : nn ≤ 2 := by omega
    have hz8 := ho8.size
    have H8 := Lib.hid (And.intro hs8 (And.intro (LitT.keep HL7.out (fun b h1 h2 => ho8.block b h2 (fun e => by omega))) (Only.trans H7.out.2.1 ho8))); clear hs8 ho8 hn0 hn1
    go_wp2_with fail
    go_loopw [7] (fun nv wr => ∃ (n : Nat) (T' : List (List Int)), n ≤ 2 ∧ nv = .int .i64 (n : Int) ∧ LitT wr TB 3 2 T' ∧ Src B0 SB wr ∧ Only SB w4 wr) (fun nv _ => (intOf nv).toNat)
    case atStart => exact ⟨nn, _, hnn, rfl, H8.out.2.1, H8.out.1, H8.out.2.2⟩
    case round =>
     obtain ⟨n, T', hn2, rfl, hL, hsr, hor⟩ := hrel
     have hzr := hor.size
     obtain ⟨wo, rfl⟩ : ∃ x, x = wr := ⟨_, rfl⟩
     by_cases hn : n = 0
     ·subst hn
      have hMo := hor.heap H4.out.2.2.1 (fun e => by omega)
      have hRo := hor.heap H4.out.2.2.2.1 (fun e => by omega)
      have hcM : ∀ o, wo.cell? ⟨w3.heap.size, o, none⟩ = (#[.int .i64 2, .int .i64 2, .int .i64 1, .int .i64 (1 + y), .int .i64 1] : Array Value)[o]? := fun o => by rw [cell_of_block hMo]
      have HX := Lib.hid (And.intro hsr (And.intro (H4.out.2.1.trans hor) (And.intro hRo (And.intro ((hL.f2 (by omega) (by omega)).v2.mono (S' := fun b => W1.heap.size ≤ b) (fun b hb _ => by have hb : TB ≤ b := hb; omega) (fun _ _ _ => rfl)) hL.1)))); clear hsr hor hRo hMo hL
      have hcRz : ∀ o, wo.cell? ⟨W.heap.size, o, none⟩ = (#[.int .i64 0, .int .i64 0, .int .i64 0, .int .i64 0, .int .i64 0, .slice none 0 0] : Array Value)[o]? := fun o => by rw [cell_of_block HX.out.2.2.1]
      have hfRz := fun o => frozen_of_block HX.out.2.2.1 o
      have hV := HX.out.2.2.2.1
      rw [show TB + 3 = OB from hOB] at hV
      have HV := Lib.hid hV; clear hV
      have hdone := putS_facts HX.out.1 HX.out.2.1 HX.out.2.2.1 (by omega) (Nat.le_refl _) (by omega) (.int .i64 (Mk.mk 2 2 1 (1 + y) 1).c) (.int .i64 (Mk.mk 2 2 1 (1 + y) 1).d) (.int .i64 (Mk.mk 2 2 1 (1 + y) 1).s) (.int .i64 (Mk.mk 2 2 1 (1 + y) 1).e) (.int .i64 (Mk.mk 2 2 1 (1 + y) 1).l) (.slice (some ⟨OB, 0, none⟩) 3 3)
      obtain ⟨wz, hwz⟩ : ∃ wz, wz = putS wo W.heap.size (.int .i64 (Mk.mk 2 2 1 (1 + y) 1).c) (.int .i64 (Mk.mk 2 2 1 (1 + y) 1).d) (.int .i64 (Mk.mk 2 2 1 (1 + y) 1).s) (.int .i64 (Mk.mk 2 2 1 (1 + y) 1).e) (.int .i64 (Mk.mk 2 2 1 (1 + y) 1).l) (.slice (some ⟨OB, 0, none⟩) 3 3) := ⟨_, rfl⟩
      rw [← hwz] at hdone
      obtain ⟨hd1, hd2, hd3, hd4⟩ := hdone
      have hFz : V2 (fun b => W.heap.size ≤ b) wz (.slice (some ⟨OB, 0, none⟩) 3 3) T' := V2.mono (S := fun b => W1.heap.size ≤ b) HV.out (fun b hb _ => by have hb : W1.heap.size ≤ b := hb; omega) (fun b hb _ => hd4 b (by have hb : W1.heap.size ≤ b := hb; omega))
      have hz0 : wz.cell? ⟨W.heap.size, 0, none⟩ = some (.int .i64 (Mk.mk 2 2 1 (1 + y) 1).c) := by rw [cell_of_block hd3]; rfl
      have hz1 : wz.cell? ⟨W.heap.size, 1, none⟩ = some (.int .i64 (Mk.mk 2 2 1 (1 + y) 1).d) := by rw [cell_of_block hd3]; rfl
      have hz2 : wz.cell? ⟨W.heap.size, 2, none⟩ = some (.int .i64 (Mk.mk 2 2 1 (1 + y) 1).s) := by rw [cell_of_block hd3]; rfl
      have hz3 : wz.cell? ⟨W.heap.size, 3, none⟩ = some (.int .i64 (Mk.mk 2 2 1 (1 + y) 1).e) := by rw [cell_of_block hd3]; rfl
      have hz4 : wz.cell? ⟨W.heap.size, 4, none⟩ = some (.int .i64 (Mk.mk 2 2 1 (1 + y) 1).l) := by rw [cell_of_block hd3]; rfl
      have hz5 : wz.cell? ⟨W.heap.size, 5, none⟩ = some (.slice (some ⟨OB, 0, none⟩) 3 3) := by rw [cell_of_block hd3]; rfl
      have HZ := Lib.hid (And.intro hd1 (And.intro hd2 (And.intro hFz (And.intro hwz (And.intro hz0 (And.intro hz1 (And.intro hz2 (And.intro hz3 (And.intro hz4 hz5))))))))); clear hd1 hd2 hd3 hd4 hFz hwz hz0 hz1 hz2 hz3 hz4 hz5
      go_wp2_with fail
      have hwz := HZ.out.2.2.2.1
      unfold putS putR at hwz
      skip
      rw [← hwz]
      clear hwz
      obtain ⟨hd1, hd2, hFz, hwzz, hz0, hz1, hz2, hz3, hz4, hz5⟩ := HZ.out
      clear hwzz
      exact bodyPost_ret (v := .agg #[.int .i64 (Mk.mk 2 2 1 (1 + y) 1).c, .int .i64 (Mk.mk 2 2 1 (1 + y) 1).d, .int .i64 (Mk.mk 2 2 1 (1 + y) 1).s, .int .i64 (Mk.mk 2 2 1 (1 + y) 1).e, .int .i64 (Mk.mk 2 2 1 (1 + y) 1).l, (.slice (some ⟨OB, 0, none⟩) 3 3)]) (by simp [results, Tryz.results169, go_sem, hz0, hz1, hz2, hz3, hz4, hz5]) rfl ⟨(Mk.mk 2 2 1 (1 + y) 1), _, T', rfl, (by unfold SmallM; simp only; omega), hFz, (by rw [HX.out.2.2.2.2]; omega), hd1, hd2⟩
     ·obtain ⟨k, rfl⟩ : ∃ k, n = k + 1 := ⟨n - 1, by omega⟩
      have hnd : decide ((0 : Int) < ((k + 1 : Nat) : Int)) = true := decide_eq_true (by omega)
      have hnd2 : decide ((0 : Int) < (k : Int) + 1) = true := decide_eq_true (by omega)
      have hnd3 : decide (0 < k + 1) = true := decide_eq_true (by omega)
      have hk1 : k ≤ 1 := by omega
      have hbD : Below wo.heap.size wo wo.drew := (Below.refl _ _).drew
      have hS : ∀ q, q < 3 → wo.drew.cell? ⟨OB, q, none⟩ = some (.slice (some ⟨TB + q, 0, none⟩) 2 2) := fun q hq => by have := hL.rows q hq; rw [show TB + 3 = OB from hOB] at this; exact this
      have hlO : OB < wo.heap.size := lt_of_cell (hS 0 (by omega))
      have hlT : ∀ q, q < 3 → TB + q < wo.heap.size := fun q hq => by rw [← hOB] at hlO; omega
      have HX := Lib.hid (And.intro (hsr.below hbD) (And.intro (hL.keep (w' := wo.drew) (fun b _ _ => rfl)) (And.intro (hor.then_below hbD) (And.intro hS hlT)))); clear hsr hL hor hS hlT hbD hn hn2
      go_wp2_with fail
      refine wp_region_noPanic ?_
      refine wp_region_held_drew (S := fun w' => ∀ q, q < 3 → w'.cell? ⟨OB, q, none⟩ = some (.slice (some ⟨TB + q, 0, none⟩) 2 2)) (by kernel_rfl) HX.out.2.2.2.1 (fun hHeld => ?_)
      (refine wpAnyH_take (i := 0) (v := .slice (some ⟨OB, 0, none⟩) 3 3) rfl (by kernel_rfl) (by kernel_rfl) (by kernel_rfl) (fun _ _ _ h => h) (Or.inl ⟨by kernel_rfl, fun w hSw => by (try dsimp only at hSw); go_split_ands; go_simp⟩) (by assumption) ?_; simp only [Act.put, List.setIfInBounds_toArray, List.set_cons_zero, List.set_cons_succ])
      (refine wpAnyH_take (i := 1) (v := .pointer (some ⟨SB, 0, none⟩)) rfl (by kernel_rfl) (by kernel_rfl) (by kernel_rfl) (fun _ _ _ h => h) (Or.inl ⟨by kernel_rfl, fun w hSw => by (try dsimp only at hSw); go_split_ands; go_simp⟩) (by assumption) ?_; simp only [Act.put, List.setIfInBounds_toArray, List.set_cons_zero, List.set_cons_succ])
      (refine wpAnyH_take (i := 2) (v := .slice (some ⟨OB, 0, none⟩) 3 3) rfl (by kernel_rfl) (by kernel_rfl) (by kernel_rfl) (fun _ _ _ h => h) (Or.inl ⟨by kernel_rfl, fun w hSw => by (try dsimp only at hSw); go_split_ands; go_simp⟩) (by assumption) ?_; simp only [Act.put, List.setIfInBounds_toArray, List.set_cons_zero, List.set_cons_succ])
      (refine wpAnyH_take (i := 3) (v := .int .i64 3) rfl (by kernel_rfl) (by kernel_rfl) (by kernel_rfl) (fun _ _ _ h => h) (Or.inl ⟨by kernel_rfl, fun w hSw => by (try dsimp only at hSw); go_split_ands; go_simp⟩) (by assumption) ?_; simp only [Act.put, List.setIfInBounds_toArray, List.set_cons_zero, List.set_cons_succ])
      (refine wpAnyH_take (i := 7) (v := .pointer (some ⟨SB, 0, none⟩)) rfl (by kernel_rfl) (by kernel_rfl) (by kernel_rfl) (fun _ _ _ h => h) (Or.inl ⟨by kernel_rfl, fun w hSw => by (try dsimp only at hSw); go_split_ands; go_simp⟩) (by assumption) ?_; simp only [Act.put, List.setIfInBounds_toArray, List.set_cons_zero, List.set_cons_succ])
      (refine wpAnyH_take (i := 8) (v := .slice (some ⟨OB, 0, none⟩) 3 3) rfl (by kernel_rfl) (by kernel_rfl) (by kernel_rfl) (fun _ _ _ h => h) (Or.inl ⟨by kernel_rfl, fun w hSw => by (try dsimp only at hSw); go_split_ands; go_simp⟩) (by assumption) ?_; simp only [Act.put, List.setIfInBounds_toArray, List.set_cons_zero, List.set_cons_succ])
      (refine wpAnyH_take (i := 9) (v := .pointer (some ⟨OB, 0, none⟩)) rfl (by kernel_rfl) (by kernel_rfl) (by kernel_rfl) (fun _ _ _ h => h) (Or.inl ⟨by kernel_rfl, fun w hSw => by (try dsimp only at hSw); go_split_ands; go_simp⟩) (by assumption) ?_; simp only [Act.put, List.setIfInBounds_toArray, List.set_cons_zero, List.set_cons_succ])
      (refine wpAnyH_take (i := 10) (v := .slice (some ⟨TB, 0, none⟩) 2 2) rfl (by kernel_rfl) (by kernel_rfl) (by kernel_rfl) (fun _ _ _ h => h) (Or.inl ⟨by kernel_rfl, fun w hSw => by (try dsimp only at hSw); have hq0 := hSw 0 (by omega); rw [Nat.add_zero] at hq0; clear hSw; go_simp⟩) (by assumption) ?_; simp only [Act.put, List.setIfInBounds_toArray, List.set_cons_zero, List.set_cons_succ])
      (refine wpAnyH_take (i := 11) (v := .int .i64 2) rfl (by kernel_rfl) (by kernel_rfl) (by kernel_rfl) (fun _ _ _ h => h) (Or.inl ⟨by kernel_rfl, fun w hSw => by (try dsimp only at hSw); go_split_ands; go_simp⟩) (by assumption) ?_; simp only [Act.put, List.setIfInBounds_toArray, List.set_cons_zero, List.set_cons_succ])
      (refine wpAnyH_take (i := 13) (v := .pointer (some ⟨SB, 0, none⟩)) rfl (by kernel_rfl) (by kernel_rfl) (by kernel_rfl) (fun _ _ _ h => h) (Or.inl ⟨by kernel_rfl, fun w hSw => by (try dsimp only at hSw); go_split_ands; go_simp⟩) (by assumption) ?_; simp only [Act.put, List.setIfInBounds_toArray, List.set_cons_zero, List.set_cons_succ])
      refine wpAnyH_ready (rs := [4]) (by kernel_rfl) (by simp) (AllReadyH.cons rfl (fun K hK => ?_) AllReadyH.nil)
      go_simp
      go_at_call 96
      refine (l01Next_any B0 SB 3 _ HX.out.1).mono ?_
      rintro e' wa ⟨a0, rfl, ⟨ha0, ha1⟩, hsa, hoa⟩
      obtain ⟨rr, rfl⟩ : ∃ q : Nat, a0 = (q : Int) := ⟨a0.toNat, by omega⟩
      have hrr : rr < 3 := by omega
      have hrrn : ¬ 3 ≤ rr := by omega
      have hrrn2 : ¬ (3 : Int) ≤ (rr : Int) := by omega
      have hzD : wo.drew.heap.size = wo.heap.size := rfl
      have hza := hoa.size
      have HA := Lib.hid (And.intro hsa (And.intro (HX.out.2.2.1.trans hoa) (And.intro (HX.out.2.1.keep (w' := wa) (fun b h1 h2 => hoa.block b h2 (fun e => by omega))) (fun q (hq : q < 3) => cell_keep (HX.out.2.2.2.1 q hq) (hoa.block _ hlO (fun e => by omega)))))); clear hsa hoa ha0 ha1
      dsimp only
      (refine hK.out _ _ HA.out.2.2.2 (fun hHeld => ?_); clear hK K; (try simp only [Act.put, List.setIfInBounds_toArray, List.set_cons_zero, List.set_cons_succ]))
      (refine wpAnyH_take (i := 5) (v := .pointer (some ⟨OB, rr, none⟩)) rfl (by kernel_rfl) (by kernel_rfl) (by kernel_rfl) (fun _ _ _ h => h) (Or.inl ⟨by kernel_rfl, fun w hSw => by (try dsimp only at hSw); go_split_ands; go_simp⟩) (by assumption) ?_; simp only [Act.put, List.setIfInBounds_toArray, List.set_cons_zero, List.set_cons_succ])
      (refine wpAnyH_take (i := 6) (v := .slice (some ⟨TB + rr, 0, none⟩) 2 2) rfl (by kernel_rfl) (by kernel_rfl) (by kernel_rfl) (fun _ _ _ h => h) (Or.inl ⟨by kernel_rfl, fun w hSw => by (try dsimp only at hSw); have hq0 := hSw rr hrr; clear hSw; go_simp⟩) (by assumption) ?_; simp only [Act.put, List.setIfInBounds_toArray, List.set_cons_zero, List.set_cons_succ])
      refine wpAnyH_ready (rs := [12]) (by kernel_rfl) (by simp) (AllReadyH.cons rfl (fun K hK => ?_) AllReadyH.nil)
      go_simp
      go_at_call 96
      refine (l01Next_any B0 SB 2 _ HA.out.1).mono ?_
      rintro e' wb ⟨b0, rfl, ⟨hb0, hb1⟩, hsb, hob⟩
      obtain ⟨ci, rfl⟩ : ∃ q : Nat, b0 = (q : Int) := ⟨b0.toNat, by omega⟩
      have hci : ci < 2 := by omega
      have hcin : ¬ 2 ≤ ci := by omega
      have hcin2 : ¬ (2 : Int) ≤ (ci : Int) := by omega
      have hci3 : (ci : Int) < 2 := by omega
      have hzb := hob.size
      have HB := Lib.hid (And.intro hsb (And.intro (HA.out.2.1.trans hob) (And.intro (HA.out.2.2.1.keep (w' := wb) (fun b h1 h2 => hob.block b h2 (fun e => by omega))) (fun q (hq : q < 3) => cell_keep (HA.out.2.2.2 q hq) (hob.block _ (by omega) (fun e => by omega)))))); clear hsb hob hb0 hb1
      dsimp only
      (refine hK.out _ _ HB.out.2.2.2 (fun hHeld => ?_); clear hK K; (try simp only [Act.put, List.setIfInBounds_toArray, List.set_cons_zero, List.set_cons_succ]))
      refine wpAnyH_ready (rs := [14]) (by kernel_rfl) (by simp) (AllReadyH.cons rfl (fun K hK => ?_) AllReadyH.nil)
      go_simp
      go_at_call 96
      refine (l01Next_any B0 SB 2 _ HB.out.1).mono ?_
      rintro e' wc ⟨yy, rfl, _, hsc, hoc⟩
      have hzc := hoc.size
      have hLc := HB.out.2.2.1.keep (w' := wc) (fun b h1 h2 => hoc.block b h2 (fun e => by omega))
      obtain ⟨⟨xo, hxo⟩, hfo⟩ := hLc.cell hrr hci
      obtain ⟨wd, hwd⟩ : ∃ wd, wd = wc.setCell ⟨TB + rr, ci, none⟩ (.int .i64 yy) := ⟨_, rfl⟩
      have hLd := hLc.put (x := yy) hrr hci
      rw [← hwd] at hLd
      have hsd : Src B0 SB wd := hsc.only (b := TB + rr) (off := ci) (by omega) (by omega) _ hwd
      have hod : Only SB w4 wd := by rw [hwd]; exact (HB.out.2.1.trans hoc).setNew (by omega) _
      have HC := Lib.hid (And.intro hsd (And.intro hod (And.intro hLd (And.intro hwd (fun q (hq : q < 3) => cell_keep (HB.out.2.2.2 q hq) (hoc.block _ (by omega) (fun e => by omega))))))); clear hsd hod hLd hwd hsc hoc hLc
      dsimp only
      (refine hK.out _ _ HC.out.2.2.2.2 (fun hHeld => ?_); clear hK K; (try simp only [Act.put, List.setIfInBounds_toArray, List.set_cons_zero, List.set_cons_succ]))
      (refine wpAnyH_ready (rs := [15]) (by kernel_rfl) (by simp) (AllReadyH.cons rfl (fun K hK => ?_) AllReadyH.nil); go_simp)
      (refine hK.out _ _ HC.out.2.2.2.2 (fun hHeld => ?_); clear hK K; (try simp only [Act.put, List.setIfInBounds_toArray, List.set_cons_zero, List.set_cons_succ]))
      (refine wpAnyH_ready (rs := [16]) (by kernel_rfl) (by simp) (AllReadyH.cons rfl (fun K hK => ?_) AllReadyH.nil); go_simp)
      rw [← HC.out.2.2.2.1]
      have hSd : ∀ q, q < 3 → wd.cell? ⟨OB, q, none⟩ = some (.slice (some ⟨TB + q, 0, none⟩) 2 2) := fun q hq => by have := HC.out.2.2.1.rows q hq; rw [show TB + 3 = OB from hOB] at this; exact this
      have HS := Lib.hid hSd; clear hSd
      (refine hK.out _ _ HS.out (fun hHeld => ?_); clear hK K; (try simp only [Act.put, List.setIfInBounds_toArray, List.set_cons_zero, List.set_cons_succ]))
      refine wpAnyH_done (by kernel_rfl) (NoPanic.normal ?_) _
      clear hHeld
      go_wp2_with fail
      go_roundw
      case rel => exact ⟨k, _, by omega, by go_num, HC.out.2.2.1, HC.out.1, HC.out.2.1⟩
      case measure => simp [intOf]
   ·have hzd : (z == 0) = false := by simp [hz]
    clear hz hzz0 hzz1
    go_wp2_with fail
    obtain ⟨OB, hOB⟩ : ∃ OB, w3.heap.size + 1 + 1 + 1 + 1 + 1 = OB := ⟨_, rfl⟩
    obtain ⟨TB, hTB⟩ : ∃ TB, TB = w3.heap.size + 1 := ⟨_, rfl⟩
    have hTB4 : w4.heap.size ≤ TB := by omega
    rw [hOB]
    rw [← hTB] at hOB ⊢
    have hL7 := H6.out.2.2
    rw [← hTB] at hL7
    have HL7 := Lib.hid hL7; clear hL7 hTB
    refine (l01Next_any B0 SB 3 _ H6.out.1).mono ?_
    rintro e' w8 ⟨n8, rfl, ⟨hn0, hn1⟩, hs8, ho8⟩
    obtain ⟨nn, rfl⟩ : ∃ q : Nat, n8 = (q : Int) := ⟨n8.toNat, by omega⟩
    have hnn : nn ≤ 2 := by omega
    have hz8 := ho8.size
    have H8 := Lib.hid (And.intro hs8 (And.intro (LitT.keep HL7.out (fun b h1 h2 => ho8.block b h2 (fun e => by omega))) (Only.trans H6.out.2.1 ho8))); clear hs8 ho8 hn0 hn1
    go_wp2_with fail
    go_loopw [7] (fun nv wr => ∃ (n : Nat) (T' : List (List Int)), n ≤ 2 ∧ nv = .int .i64 (n : Int) ∧ LitT wr TB 4 3 T' ∧ Src B0 SB wr ∧ Only SB w4 wr) (fun nv _ => (intOf nv).toNat)
    case atStart => exact ⟨nn, _, hnn, rfl, H8.out.2.1, H8.out.1, H8.out.2.2⟩
    case round =>
     obtain ⟨n, T', hn2, rfl, hL, hsr, hor⟩ := hrel
     have hzr := hor.size
     obtain ⟨wo, rfl⟩ : ∃ x, x = wr := ⟨_, rfl⟩
     by_cases hn : n = 0
     ·subst hn
      have hMo := hor.heap H4.out.2.2.1 (fun e => by omega)
      have hRo := hor.heap H4.out.2.2.2.1 (fun e => by omega)
      have hcM : ∀ o, wo.cell? ⟨w3.heap.size, o, none⟩ = (#[.int .i64 2, .int .i64 2, .int .i64 1, .int .i64 (1 + y), .int .i64 1] : Array Value)[o]? := fun o => by rw [cell_of_block hMo]
      have HX := Lib.hid (And.intro hsr (And.intro (H4.out.2.1.trans hor) (And.intro hRo (And.intro ((hL.f2 (by omega) (by omega)).v2.mono (S' := fun b => W1.heap.size ≤ b) (fun b hb _ => by have hb : TB ≤ b := hb; omega) (fun _ _ _ => rfl)) hL.1)))); clear hsr hor hRo hMo hL
      have hcRz : ∀ o, wo.cell? ⟨W.heap.size, o, none⟩ = (#[.int .i64 0, .int .i64 0, .int .i64 0, .int .i64 0, .int .i64 0, .slice none 0 0] : Array Value)[o]? := fun o => by rw [cell_of_block HX.out.2.2.1]
      have hfRz := fun o => frozen_of_block HX.out.2.2.1 o
      have hV := HX.out.2.2.2.1
      rw [show TB + 4 = OB from hOB] at hV
      have HV := Lib.hid hV; clear hV
      have hdone := putS_facts HX.out.1 HX.out.2.1 HX.out.2.2.1 (by omega) (Nat.le_refl _) (by omega) (.int .i64 (Mk.mk 2 2 1 (1 + y) 1).c) (.int .i64 (Mk.mk 2 2 1 (1 + y) 1).d) (.int .i64 (Mk.mk 2 2 1 (1 + y) 1).s) (.int .i64 (Mk.mk 2 2 1 (1 + y) 1).e) (.int .i64 (Mk.mk 2 2 1 (1 + y) 1).l) (.slice (some ⟨OB, 0, none⟩) 4 4)
      obtain ⟨wz, hwz⟩ : ∃ wz, wz = putS wo W.heap.size (.int .i64 (Mk.mk 2 2 1 (1 + y) 1).c) (.int .i64 (Mk.mk 2 2 1 (1 + y) 1).d) (.int .i64 (Mk.mk 2 2 1 (1 + y) 1).s) (.int .i64 (Mk.mk 2 2 1 (1 + y) 1).e) (.int .i64 (Mk.mk 2 2 1 (1 + y) 1).l) (.slice (some ⟨OB, 0, none⟩) 4 4) := ⟨_, rfl⟩
      rw [← hwz] at hdone
      obtain ⟨hd1, hd2, hd3, hd4⟩ := hdone
      have hFz : V2 (fun b => W.heap.size ≤ b) wz (.slice (some ⟨OB, 0, none⟩) 4 4) T' := V2.mono (S := fun b => W1.heap.size ≤ b) HV.out (fun b hb _ => by have hb : W1.heap.size ≤ b := hb; omega) (fun b hb _ => hd4 b (by have hb : W1.heap.size ≤ b := hb; omega))
      have hz0 : wz.cell? ⟨W.heap.size, 0, none⟩ = some (.int .i64 (Mk.mk 2 2 1 (1 + y) 1).c) := by rw [cell_of_block hd3]; rfl
      have hz1 : wz.cell? ⟨W.heap.size, 1, none⟩ = some (.int .i64 (Mk.mk 2 2 1 (1 + y) 1).d) := by rw [cell_of_block hd3]; rfl
      have hz2 : wz.cell? ⟨W.heap.size, 2, none⟩ = some (.int .i64 (Mk.mk 2 2 1 (1 + y) 1).s) := by rw [cell_of_block hd3]; rfl
      have hz3 : wz.cell? ⟨W.heap.size, 3, none⟩ = some (.int .i64 (Mk.mk 2 2 1 (1 + y) 1).e) := by rw [cell_of_block hd3]; rfl
      have hz4 : wz.cell? ⟨W.heap.size, 4, none⟩ = some (.int .i64 (Mk.mk 2 2 1 (1 + y) 1).l) := by rw [cell_of_block hd3]; rfl
      have hz5 : wz.cell? ⟨W.heap.size, 5, none⟩ = some (.slice (some ⟨OB, 0, none⟩) 4 4) := by rw [cell_of_block hd3]; rfl
      have HZ := Lib.hid (And.intro hd1 (And.intro hd2 (And.intro hFz (And.intro hwz (And.intro hz0 (And.intro hz1 (And.intro hz2 (And.intro hz3 (And.intro hz4 hz5))))))))); clear hd1 hd2 hd3 hd4 hFz hwz hz0 hz1 hz2 hz3 hz4 hz5
      go_wp2_with fail
      have hwz := HZ.out.2.2.2.1
      unfold putS putR at hwz
      skip
      rw [← hwz]
      clear hwz
      obtain ⟨hd1, hd2, hFz, hwzz, hz0, hz1, hz2, hz3, hz4, hz5⟩ := HZ.out
      clear hwzz
      exact bodyPost_ret (v := .agg #[.int .i64 (Mk.mk 2 2 1 (1 + y) 1).c, .int .i64 (Mk.mk 2 2 1 (1 + y) 1).d, .int .i64 (Mk.mk 2 2 1 (1 + y) 1).s, .int .i64 (Mk.mk 2 2 1 (1 + y) 1).e, .int .i64 (Mk.mk 2 2 1 (1 + y) 1).l, (.slice (some ⟨OB, 0, none⟩) 4 4)]) (by simp [results, Tryz.results169, go_sem, hz0, hz1, hz2, hz3, hz4, hz5]) rfl ⟨(Mk.mk 2 2 1 (1 + y) 1), _, T', rfl, (by unfold SmallM; simp only; omega), hFz, (by rw [HX.out.2.2.2.2]; omega), hd1, hd2⟩
     ·obtain ⟨k, rfl⟩ : ∃ k, n = k + 1 := ⟨n - 1, by omega⟩
      have hnd : decide ((0 : Int) < ((k + 1 : Nat) : Int)) = true := decide_eq_true (by omega)
      have hnd2 : decide ((0 : Int) < (k : Int) + 1) = true := decide_eq_true (by omega)
      have hnd3 : decide (0 < k + 1) = true := decide_eq_true (by omega)
      have hk1 : k ≤ 1 := by omega
      have hbD : Below wo.heap.size wo wo.drew := (Below.refl _ _).drew
      have hS : ∀ q, q < 4 → wo.drew.cell? ⟨OB, q, none⟩ = some (.slice (some ⟨TB + q, 0, none⟩) 3 3) := fun q hq => by have := hL.rows q hq; rw [show TB + 4 = OB from hOB] at this; exact this
      have hlO : OB < wo.heap.size := lt_of_cell (hS 0 (by omega))
      have hlT : ∀ q, q < 4 → TB + q < wo.heap.size := fun q hq => by rw [← hOB] at hlO; omega
      have HX := Lib.hid (And.intro (hsr.below hbD) (And.intro (hL.keep (w' := wo.drew) (fun b _ _ => rfl)) (And.intro (hor.then_below hbD) (And.intro hS hlT)))); clear hsr hL hor hS hlT hbD hn hn2
      go_wp2_with fail
      refine wp_region_noPanic ?_
      refine wp_region_held_drew (S := fun w' => ∀ q, q < 4 → w'.cell? ⟨OB, q, none⟩ = some (.slice (some ⟨TB + q, 0, none⟩) 3 3)) (by kernel_rfl) HX.out.2.2.2.1 (fun hHeld => ?_)
      (refine wpAnyH_take (i := 0) (v := .slice (some ⟨OB, 0, none⟩) 4 4) rfl (by kernel_rfl) (by kernel_rfl) (by kernel_rfl) (fun _ _ _ h => h) (Or.inl ⟨by kernel_rfl, fun w hSw => by (try dsimp only at hSw); go_split_ands; go_simp⟩) (by assumption) ?_; simp only [Act.put, List.setIfInBounds_toArray, List.set_cons_zero, List.set_cons_succ])
      (refine wpAnyH_take (i := 1) (v := .pointer (some ⟨SB, 0, none⟩)) rfl (by kernel_rfl) (by kernel_rfl) (by kernel_rfl) (fun _ _ _ h => h) (Or.inl ⟨by kernel_rfl, fun w hSw => by (try dsimp only at hSw); go_split_ands; go_simp⟩) (by assumption) ?_; simp only [Act.put, List.setIfInBounds_toArray, List.set_cons_zero, List.set_cons_succ])
      (refine wpAnyH_take (i := 2) (v := .slice (some ⟨OB, 0, none⟩) 4 4) rfl (by kernel_rfl) (by kernel_rfl) (by kernel_rfl) (fun _ _ _ h => h) (Or.inl ⟨by kernel_rfl, fun w hSw => by (try dsimp only at hSw); go_split_ands; go_simp⟩) (by assumption) ?_; simp only [Act.put, List.setIfInBounds_toArray, List.set_cons_zero, List.set_cons_succ])
      (refine wpAnyH_take (i := 3) (v := .int .i64 4) rfl (by kernel_rfl) (by kernel_rfl) (by kernel_rfl) (fun _ _ _ h => h) (Or.inl ⟨by kernel_rfl, fun w hSw => by (try dsimp only at hSw); go_split_ands; go_simp⟩) (by assumption) ?_; simp only [Act.put, List.setIfInBounds_toArray, List.set_cons_zero, List.set_cons_succ])
      (refine wpAnyH_take (i := 7) (v := .pointer (some ⟨SB, 0, none⟩)) rfl (by kernel_rfl) (by kernel_rfl) (by kernel_rfl) (fun _ _ _ h => h) (Or.inl ⟨by kernel_rfl, fun w hSw => by (try dsimp only at hSw); go_split_ands; go_simp⟩) (by assumption) ?_; simp only [Act.put, List.setIfInBounds_toArray, List.set_cons_zero, List.set_cons_succ])
      (refine wpAnyH_take (i := 8) (v := .slice (some ⟨OB, 0, none⟩) 4 4) rfl (by kernel_rfl) (by kernel_rfl) (by kernel_rfl) (fun _ _ _ h => h) (Or.inl ⟨by kernel_rfl, fun w hSw => by (try dsimp only at hSw); go_split_ands; go_simp⟩) (by assumption) ?_; simp only [Act.put, List.setIfInBounds_toArray, List.set_cons_zero, List.set_cons_succ])
      (refine wpAnyH_take (i := 9) (v := .pointer (some ⟨OB, 0, none⟩)) rfl (by kernel_rfl) (by kernel_rfl) (by kernel_rfl) (fun _ _ _ h => h) (Or.inl ⟨by kernel_rfl, fun w hSw => by (try dsimp only at hSw); go_split_ands; go_simp⟩) (by assumption) ?_; simp only [Act.put, List.setIfInBounds_toArray, List.set_cons_zero, List.set_cons_succ])
      (refine wpAnyH_take (i := 10) (v := .slice (some ⟨TB, 0, none⟩) 3 3) rfl (by kernel_rfl) (by kernel_rfl) (by kernel_rfl) (fun _ _ _ h => h) (Or.inl ⟨by kernel_rfl, fun w hSw => by (try dsimp only at hSw); have hq0 := hSw 0 (by omega); rw [Nat.add_zero] at hq0; clear hSw; go_simp⟩) (by assumption) ?_; simp only [Act.put, List.setIfInBounds_toArray, List.set_cons_zero, List.set_cons_succ])
      (refine wpAnyH_take (i := 11) (v := .int .i64 3) rfl (by kernel_rfl) (by kernel_rfl) (by kernel_rfl) (fun _ _ _ h => h) (Or.inl ⟨by kernel_rfl, fun w hSw => by (try dsimp only at hSw); go_split_ands; go_simp⟩) (by assumption) ?_; simp only [Act.put, List.setIfInBounds_toArray, List.set_cons_zero, List.set_cons_succ])
      (refine wpAnyH_take (i := 13) (v := .pointer (some ⟨SB, 0, none⟩)) rfl (by kernel_rfl) (by kernel_rfl) (by kernel_rfl) (fun _ _ _ h => h) (Or.inl ⟨by kernel_rfl, fun w hSw => by (try dsimp only at hSw); go_split_ands; go_simp⟩) (by assumption) ?_; simp only [Act.put, List.setIfInBounds_toArray, List.set_cons_zero, List.set_cons_succ])
      refine wpAnyH_ready (rs := [4]) (by kernel_rfl) (by simp) (AllReadyH.cons rfl (fun K hK => ?_) AllReadyH.nil)
      go_simp
      go_at_call 96
      refine (l01Next_any B0 SB 4 _ HX.out.1).mono ?_
      rintro e' wa ⟨a0, rfl, ⟨ha0, ha1⟩, hsa, hoa⟩
      obtain ⟨rr, rfl⟩ : ∃ q : Nat, a0 = (q : Int) := ⟨a0.toNat, by omega⟩
      have hrr : rr < 4 := by omega
      have hrrn : ¬ 4 ≤ rr := by omega
      have hrrn2 : ¬ (4 : Int) ≤ (rr : Int) := by omega
      have hzD : wo.drew.heap.size = wo.heap.size := rfl
      have hza := hoa.size
      have HA := Lib.hid (And.intro hsa (And.intro (HX.out.2.2.1.trans hoa) (And.intro (HX.out.2.1.keep (w' := wa) (fun b h1 h2 => hoa.block b h2 (fun e => by omega))) (fun q (hq : q < 4) => cell_keep (HX.out.2.2.2.1 q hq) (hoa.block _ hlO (fun e => by omega)))))); clear hsa hoa ha0 ha1
      dsimp only
      (refine hK.out _ _ HA.out.2.2.2 (fun hHeld => ?_); clear hK K; (try simp only [Act.put, List.setIfInBounds_toArray, List.set_cons_zero, List.set_cons_succ]))
      (refine wpAnyH_take (i := 5) (v := .pointer (some ⟨OB, rr, none⟩)) rfl (by kernel_rfl) (by kernel_rfl) (by kernel_rfl) (fun _ _ _ h => h) (Or.inl ⟨by kernel_rfl, fun w hSw => by (try dsimp only at hSw); go_split_ands; go_simp⟩) (by assumption) ?_; simp only [Act.put, List.setIfInBounds_toArray, List.set_cons_zero, List.set_cons_succ])
      (refine wpAnyH_take (i := 6) (v := .slice (some ⟨TB + rr, 0, none⟩) 3 3) rfl (by kernel_rfl) (by kernel_rfl) (by kernel_rfl) (fun _ _ _ h => h) (Or.inl ⟨by kernel_rfl, fun w hSw => by (try dsimp only at hSw); have hq0 := hSw rr hrr; clear hSw; go_simp⟩) (by assumption) ?_; simp only [Act.put, List.setIfInBounds_toArray, List.set_cons_zero, List.set_cons_succ])
      refine wpAnyH_ready (rs := [12]) (by kernel_rfl) (by simp) (AllReadyH.cons rfl (fun K hK => ?_) AllReadyH.nil)
      go_simp
      go_at_call 96
      refine (l01Next_any B0 SB 3 _ HA.out.1).mono ?_
      rintro e' wb ⟨b0, rfl, ⟨hb0, hb1⟩, hsb, hob⟩
      obtain ⟨ci, rfl⟩ : ∃ q : Nat, b0 = (q : Int) := ⟨b0.toNat, by omega⟩
      have hci : ci < 3 := by omega
      have hcin : ¬ 3 ≤ ci := by omega
      have hcin2 : ¬ (3 : Int) ≤ (ci : Int) := by omega
      have hci3 : (ci : Int) < 3 := by omega
      have hzb := hob.size
      have HB := Lib.hid (And.intro hsb (And.intro (HA.out.2.1.trans hob) (And.intro (HA.out.2.2.1.keep (w' := wb) (fun b h1 h2 => hob.block b h2 (fun e => by omega))) (fun q (hq : q < 4) => cell_keep (HA.out.2.2.2 q hq) (hob.block _ (by omega) (fun e => by omega)))))); clear hsb hob hb0 hb1
      dsimp only
      (refine hK.out _ _ HB.out.2.2.2 (fun hHeld => ?_); clear hK K; (try simp only [Act.put, List.setIfInBounds_toArray, List.set_cons_zero, List.set_cons_succ]))
      refine wpAnyH_ready (rs := [14]) (by kernel_rfl) (by simp) (AllReadyH.cons rfl (fun K hK => ?_) AllReadyH.nil)
      go_simp
      go_at_call 96
      refine (l01Next_any B0 SB 2 _ HB.out.1).mono ?_
      rintro e' wc ⟨yy, rfl, _, hsc, hoc⟩
      have hzc := hoc.size
      have hLc := HB.out.2.2.1.keep (w' := wc) (fun b h1 h2 => hoc.block b h2 (fun e => by omega))
      obtain ⟨⟨xo, hxo⟩, hfo⟩ := hLc.cell hrr hci
      obtain ⟨wd, hwd⟩ : ∃ wd, wd = wc.setCell ⟨TB + rr, ci, none⟩ (.int .i64 yy) := ⟨_, rfl⟩
      have hLd := hLc.put (x := yy) hrr hci
      rw [← hwd] at hLd
      have hsd : Src B0 SB wd := hsc.only (b := TB + rr) (off := ci) (by omega) (by omega) _ hwd
      have hod : Only SB w4 wd := by rw [hwd]; exact (HB.out.2.1.trans hoc).setNew (by omega) _
      have HC := Lib.hid (And.intro hsd (And.intro hod (And.intro hLd (And.intro hwd (fun q (hq : q < 4) => cell_keep (HB.out.2.2.2 q hq) (hoc.block _ (by omega) (fun e => by omega))))))); clear hsd hod hLd hwd hsc hoc hLc
      dsimp only
      (refine hK.out _ _ HC.out.2.2.2.2 (fun hHeld => ?_); clear hK K; (try simp only [Act.put, List.setIfInBounds_toArray, List.set_cons_zero, List.set_cons_succ]))
      (refine wpAnyH_ready (rs := [15]) (by kernel_rfl) (by simp) (AllReadyH.cons rfl (fun K hK => ?_) AllReadyH.nil); go_simp)
      (refine hK.out _ _ HC.out.2.2.2.2 (fun hHeld => ?_); clear hK K; (try simp only [Act.put, List.setIfInBounds_toArray, List.set_cons_zero, List.set_cons_succ]))
      (refine wpAnyH_ready (rs := [16]) (by kernel_rfl) (by simp) (AllReadyH.cons rfl (fun K hK => ?_) AllReadyH.nil); go_simp)
      rw [← HC.out.2.2.2.1]
      have hSd : ∀ q, q < 4 → wd.cell? ⟨OB, q, none⟩ = some (.slice (some ⟨TB + q, 0, none⟩) 3 3) := fun q hq => by have := HC.out.2.2.1.rows q hq; rw [show TB + 4 = OB from hOB] at this; exact this
      have HS := Lib.hid hSd; clear hSd
      (refine hK.out _ _ HS.out (fun hHeld => ?_); clear hK K; (try simp only [Act.put, List.setIfInBounds_toArray, List.set_cons_zero, List.set_cons_succ]))
      refine wpAnyH_done (by kernel_rfl) (NoPanic.normal ?_) _
      clear hHeld
      go_wp2_with fail
      go_roundw
      case rel => exact ⟨k, _, by omega, by go_num, HC.out.2.2.1, HC.out.1, HC.out.2.1⟩
      case measure => simp [intOf]
/-- What a draw of a system from a code answers. -/
def DrawSy (W : World) (e : Ending) (w' : World) : Prop :=
 ∃ (m : Mk) (u : Value) (T : List (List Int)), e = .returned (.agg #[.int .i64 m.c, .int .i64 m.d, .int .i64 m.s, .int .i64 m.e, .int .i64 m.l, u]) ∧ V2 (fun b => W.heap.size ≤ b) w' u T ∧ Below W.heap.size W w'
theorem DrawSy.open {W w' : World} {e : Ending} (h : DrawSy W e w') : ∃ (m : Mk) (u : Value) (T : List (List Int)), e = .returned (.agg #[.int .i64 m.c, .int .i64 m.d, .int .i64 m.s, .int .i64 m.e, .int .i64 m.l, u]) ∧ V2 (fun b => W.heap.size ≤ b) w' u T ∧ Below W.heap.size W w' := h
theorem DrawFi.open {W w' : World} {e : Ending} (h : DrawFi W e w') : ∃ (m : Mk) (u : Value) (T : List (List Int)) (n : Int), e = .returned (.tuple #[.agg #[.int .i64 m.c, .int .i64 m.d, .int .i64 m.s, .int .i64 m.e, .int .i64 m.l, u], .int .i64 n]) ∧ V2 (fun b => W.heap.size ≤ b) w' u T ∧ Below W.heap.size W w' := h
/-- What a draw of a system and two numbers from a code answers. -/
def DrawF2 (W : World) (e : Ending) (w' : World) : Prop :=
 ∃ (m : Mk) (u : Value) (T : List (List Int)) (k n : Int), e = .returned (.tuple #[.agg #[.int .i64 m.c, .int .i64 m.d, .int .i64 m.s, .int .i64 m.e, .int .i64 m.l, u], .int .i64 k, .int .i64 n]) ∧ V2 (fun b => W.heap.size ≤ b) w' u T ∧ Below W.heap.size W w'
theorem DrawF2.open {W w' : World} {e : Ending} (h : DrawF2 W e w') : ∃ (m : Mk) (u : Value) (T : List (List Int)) (k n : Int), e = .returned (.tuple #[.agg #[.int .i64 m.c, .int .i64 m.d, .int .i64 m.s, .int .i64 m.e, .int .i64 m.l, u], .int .i64 k, .int .i64 n]) ∧ V2 (fun b => W.heap.size ≤ b) w' u T ∧ Below W.heap.size W w' := h
end Go.Proofs.YtmaefilliggjiaaGreat
