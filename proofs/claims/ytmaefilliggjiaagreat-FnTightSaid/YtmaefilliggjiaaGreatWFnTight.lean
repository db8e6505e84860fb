/- The walk of 'laws.FnTight'. No conditions. -/
import Derived.Test.YtmaefilliggjiaaGreatMDraw1
import Derived.Test.YtmaefilliggjiaaGreatMRefFirst
import Derived.Test.YtmaefilliggjiaaGreatMDraw32
import Derived.Test.YtmaefilliggjiaaGreatMPlTight
import Derived.Test.YtmaefilliggjiaaGreatMTable
namespace Go.Proofs.YtmaefilliggjiaaGreat
open Go.RowKit
set_option linter.unusedVariables false
set_option linter.unusedSimpArgs false
theorem LongestChainR_b {S : Nat → Prop} (v : Value) (t : List (List Int)) (W : World) (h : V2 S W v t) :
  Calls Tryz.prog 51 #[v] W fun e' w' => e' = .returned (.tuple #[.int .i64 (longAns t).1, .int .i64 (longAns t).2]) ∧ Below W.heap.size W w' :=
 (LongestChainR_any v t W h).mono fun _ _ ⟨h1, n, h2⟩ => ⟨h1, by rw [h2]; exact below_drewN (Below.refl _ _) n⟩
set_option maxHeartbeats 4000000 in
set_option maxRecDepth 100000 in
theorem fnTight_walk (W : World) (v : Value) (l : List Int) (h : VB (Old W) W v l) :
  Calls Tryz.prog 6 #[v] W fun e' w' => e' = .returned (.bool true) ∧ Below W.heap.size W w' := by
 have hV := h
 obtain ⟨a, c, rfl, hm⟩ := h.form
 have HV := Lib.hid hV; clear hV h
 cases hbig : decide (4096 < l.length)
 rotate_left
 ·have Hbig := Lib.hid hbig; clear hbig
  go_enter Tryz.func6, Tryz.ntmps6
  go_wp2_with fail
  refine (big_any _ l W true Hbig.out HV.out).mono ?_
  rintro e' w' ⟨rfl, hW⟩
  subst hW
  go_wp2_with fail
  go_ret
  exact ⟨rfl, Below.refl _ _⟩
 have Hbig := Lib.hid hbig; clear hbig
 go_enter Tryz.func6, Tryz.ntmps6
 go_wp2_with fail
 refine (big_any _ l W false Hbig.out HV.out).mono ?_
 rintro e' w' ⟨rfl, hW⟩
 subst hW
 have HB := Lib.hid (Below.refl W.heap.size W)
 go_wp2_with fail
 refine (DrawIsTooTight_any _ l _ HV.out).mono ?_
 rintro e' w2 hD
 obtain ⟨m, u, T, rfl, hu, hb⟩ := hD.open
 obtain ⟨ua, uc, rfl, _⟩ := hu.form
 obtain ⟨w3, hw3, hb3, hz3, _, hc3, _⟩ := box_facts w2 (#[.int .i64 m.c, .int .i64 m.d, .int .i64 m.s, .int .i64 m.e, .int .i64 m.l, .slice ua T.length uc] : Array Value) 28
 have hu := Lib.hid (hu.any.below hb3)
 have Hw := Lib.hid hw3; clear hw3
 have hz_w2 := hb.size
 have HVx := Lib.hid (HV.out.below hb); clear HV; have HV := HVx; clear HVx
 have HBx := Lib.hid (HB.out.trans (hb.mono (by omega))); clear HB; have HB := HBx; clear HBx
 clear hb
 have hz_w3 := hb3.size
 have HVx := Lib.hid (HV.out.below hb3); clear HV; have HV := HVx; clear HVx
 have HBx := Lib.hid (HB.out.trans (hb3.mono (by omega))); clear HB; have HB := HBx; clear HBx
 clear hb3
 have HT := hu; clear hu
 have hxb_w3 := hc3; clear hc3
 have hzb := hz3; clear hz3
 go_wp2_with fail
 rw [← Hw.out]
 (try go_wp2_with fail)
 clear Hw
 obtain ⟨A, hA⟩ : ∃ x, tightAns m T = x := ⟨_, rfl⟩
 have EA := Lib.hid hA; clear hA
 refine (IsTooTight_any m _ T _ HT.out).mono ?_
 rintro e' w4 ⟨rfl, hb⟩
 rw [EA.out]
 have hxb_w4 : ∀ o, w4.cell? ⟨w2.heap.size, o, none⟩ = (#[.int .i64 m.c, .int .i64 m.d, .int .i64 m.s, .int .i64 m.e, .int .i64 m.l, .slice ua T.length uc] : Array Value)[o]? := fun o => by rw [(bcell hb).1 _ _ (by omega), hxb_w3]
 have hz_w4 := hb.size
 have HVx := Lib.hid (HV.out.below hb); clear HV; have HV := HVx; clear HVx
 have HTx := Lib.hid (HT.out.below hb); clear HT; have HT := HTx; clear HTx
 have HBx := Lib.hid (HB.out.trans (hb.mono (by omega))); clear HB; have HB := HBx; clear HBx
 clear hxb_w3
 clear hb
 go_wp2_with fail
 refine (IsTooTightR_any m _ T _ HT.out).mono ?_
 rintro e' w5 ⟨rfl, hb⟩
 rw [EA.out]
 have hxb_w5 : ∀ o, w5.cell? ⟨w2.heap.size, o, none⟩ = (#[.int .i64 m.c, .int .i64 m.d, .int .i64 m.s, .int .i64 m.e, .int .i64 m.l, .slice ua T.length uc] : Array Value)[o]? := fun o => by rw [(bcell hb).1 _ _ (by omega), hxb_w4]
 have hz_w5 := hb.size
 have HVx := Lib.hid (HV.out.below hb); clear HV; have HV := HVx; clear HVx
 have HTx := Lib.hid (HT.out.below hb); clear HT; have HT := HTx; clear HTx
 have HBx := Lib.hid (HB.out.trans (hb.mono (by omega))); clear HB; have HB := HBx; clear HBx
 clear hxb_w4
 clear hb
 go_wp2_with fail
 obtain ⟨B, hB⟩ : ∃ x, spareAns m T = x := ⟨_, rfl⟩
 have EB := Lib.hid hB; clear hB
 refine (SpareKeys_any m _ T _ HT.out).mono ?_
 rintro e' w6 ⟨rfl, hb⟩
 rw [EB.out]
 have hxb_w6 : ∀ o, w6.cell? ⟨w2.heap.size, o, none⟩ = (#[.int .i64 m.c, .int .i64 m.d, .int .i64 m.s, .int .i64 m.e, .int .i64 m.l, .slice ua T.length uc] : Array Value)[o]? := fun o => by rw [(bcell hb).1 _ _ (by omega), hxb_w5]
 have hz_w6 := hb.size
 have HVx := Lib.hid (HV.out.below hb); clear HV; have HV := HVx; clear HVx
 have HTx := Lib.hid (HT.out.below hb); clear HT; have HT := HTx; clear HTx
 have HBx := Lib.hid (HB.out.trans (hb.mono (by omega))); clear HB; have HB := HBx; clear HBx
 clear hxb_w5
 clear hb
 go_wp2_with fail
 refine (SpareKeysR_any m _ T _ HT.out).mono ?_
 rintro e' w7 ⟨rfl, hb⟩
 rw [EB.out]
 have hxb_w7 : ∀ o, w7.cell? ⟨w2.heap.size, o, none⟩ = (#[.int .i64 m.c, .int .i64 m.d, .int .i64 m.s, .int .i64 m.e, .int .i64 m.l, .slice ua T.length uc] : Array Value)[o]? := fun o => by rw [(bcell hb).1 _ _ (by omega), hxb_w6]
 have hz_w7 := hb.size
 have HVx := Lib.hid (HV.out.below hb); clear HV; have HV := HVx; clear HVx
 have HTx := Lib.hid (HT.out.below hb); clear HT; have HT := HTx; clear HTx
 have HBx := Lib.hid (HB.out.trans (hb.mono (by omega))); clear HB; have HB := HBx; clear HBx
 clear hxb_w6
 clear hb
 go_wp2_with fail
 refine (DrawLongestChain_any _ l _ HV.out).mono ?_
 rintro e' w8 hD
 obtain ⟨uy, Ty, rfl, hu, hb⟩ := hD
 obtain ⟨uay, ucy, rfl, _⟩ := hu.form
 have hux := hu.any; clear hu; have hu := hux; clear hux
 have hxb_w8 : ∀ o, w8.cell? ⟨w2.heap.size, o, none⟩ = (#[.int .i64 m.c, .int .i64 m.d, .int .i64 m.s, .int .i64 m.e, .int .i64 m.l, .slice ua T.length uc] : Array Value)[o]? := fun o => by rw [(bcell hb).1 _ _ (by omega), hxb_w7]
 have hz_w8 := hb.size
 have HVx := Lib.hid (HV.out.below hb); clear HV; have HV := HVx; clear HVx
 have HTx := Lib.hid (HT.out.below hb); clear HT; have HT := HTx; clear HTx
 have HBx := Lib.hid (HB.out.trans (hb.mono (by omega))); clear HB; have HB := HBx; clear HBx
 clear hxb_w7
 clear hb
 have HTy := Lib.hid hu; clear hu
 go_wp2_with fail
 obtain ⟨C, hC⟩ : ∃ x, longAns Ty = x := ⟨_, rfl⟩
 have EC := Lib.hid hC; clear hC
 refine (LongestChain_any _ Ty _ HTy.out).mono ?_
 rintro e' w9 ⟨rfl, hb⟩
 rw [EC.out]
 have hxb_w9 : ∀ o, w9.cell? ⟨w2.heap.size, o, none⟩ = (#[.int .i64 m.c, .int .i64 m.d, .int .i64 m.s, .int .i64 m.e, .int .i64 m.l, .slice ua T.length uc] : Array Value)[o]? := fun o => by rw [(bcell hb).1 _ _ (by omega), hxb_w8]
 have hz_w9 := hb.size
 have HVx := Lib.hid (HV.out.below hb); clear HV; have HV := HVx; clear HVx
 have HTx := Lib.hid (HT.out.below hb); clear HT; have HT := HTx; clear HTx
 have HTyx := Lib.hid (HTy.out.below hb); clear HTy; have HTy := HTyx; clear HTyx
 have HBx := Lib.hid (HB.out.trans (hb.mono (by omega))); clear HB; have HB := HBx; clear HBx
 clear hxb_w8
 clear hb
 go_wp2_with fail
 refine (LongestChainR_b _ Ty _ HTy.out).mono ?_
 rintro e' w10 ⟨rfl, hb⟩
 rw [EC.out]
 have hxb_w10 : ∀ o, w10.cell? ⟨w2.heap.size, o, none⟩ = (#[.int .i64 m.c, .int .i64 m.d, .int .i64 m.s, .int .i64 m.e, .int .i64 m.l, .slice ua T.length uc] : Array Value)[o]? := fun o => by rw [(bcell hb).1 _ _ (by omega), hxb_w9]
 have hz_w10 := hb.size
 have HVx := Lib.hid (HV.out.below hb); clear HV; have HV := HVx; clear HVx
 have HTx := Lib.hid (HT.out.below hb); clear HT; have HT := HTx; clear HTx
 have HTyx := Lib.hid (HTy.out.below hb); clear HTy; have HTy := HTyx; clear HTyx
 have HBx := Lib.hid (HB.out.trans (hb.mono (by omega))); clear HB; have HB := HBx; clear HBx
 clear hxb_w9
 clear hb
 go_wp2_with fail
 obtain ⟨D, hD⟩ : ∃ x, diffAns Ty = x := ⟨_, rfl⟩
 have ED := Lib.hid hD; clear hD
 refine (DifferentRows_any _ Ty _ HTy.out).mono ?_
 rintro e' w11 ⟨rfl, hb⟩
 rw [ED.out]
 have hxb_w11 : ∀ o, w11.cell? ⟨w2.heap.size, o, none⟩ = (#[.int .i64 m.c, .int .i64 m.d, .int .i64 m.s, .int .i64 m.e, .int .i64 m.l, .slice ua T.length uc] : Array Value)[o]? := fun o => by rw [(bcell hb).1 _ _ (by omega), hxb_w10]
 have hz_w11 := hb.size
 have HVx := Lib.hid (HV.out.below hb); clear HV; have HV := HVx; clear HVx
 have HTx := Lib.hid (HT.out.below hb); clear HT; have HT := HTx; clear HTx
 have HTyx := Lib.hid (HTy.out.below hb); clear HTy; have HTy := HTyx; clear HTyx
 have HBx := Lib.hid (HB.out.trans (hb.mono (by omega))); clear HB; have HB := HBx; clear HBx
 clear hxb_w10
 clear hb
 go_wp2_with fail
 refine (DifferentRowsR_any _ Ty _ HTy.out).mono ?_
 rintro e' w12 ⟨rfl, hb⟩
 rw [ED.out]
 have hxb_w12 : ∀ o, w12.cell? ⟨w2.heap.size, o, none⟩ = (#[.int .i64 m.c, .int .i64 m.d, .int .i64 m.s, .int .i64 m.e, .int .i64 m.l, .slice ua T.length uc] : Array Value)[o]? := fun o => by rw [(bcell hb).1 _ _ (by omega), hxb_w11]
 have hz_w12 := hb.size
 have HVx := Lib.hid (HV.out.below hb); clear HV; have HV := HVx; clear HVx
 have HTx := Lib.hid (HT.out.below hb); clear HT; have HT := HTx; clear HTx
 have HTyx := Lib.hid (HTy.out.below hb); clear HTy; have HTy := HTyx; clear HTyx
 have HBx := Lib.hid (HB.out.trans (hb.mono (by omega))); clear HB; have HB := HBx; clear HBx
 clear hxb_w11
 clear hb
 have hAB := tight_spare (m := m) (t := T)
 rw [EA.out, EB.out] at hAB
 have hcd := chain_codes Ty
 rw [EC.out, ED.out] at hcd
 have HAB := Lib.hid hAB; clear hAB
 have HCD := Lib.hid hcd; clear hcd
 obtain ⟨A1, A2⟩ := A
 obtain ⟨B1, B2⟩ := B
 obtain ⟨C1, C2⟩ := C
 obtain ⟨D1, D2⟩ := D
 dsimp only at *
 by_cases hc : C2 = 0
 rotate_left
 ·skip
  have hcd : (C2 == 0) = false := by simp [hc]
  clear hc
  by_cases ha : A2 = 0
  rotate_left
  ·skip
   have had : (A2 != 0) = true := by simp [ha]
   clear ha
   go_wp2_with fail
   go_ret
   exact ⟨rfl, HB.out⟩
  subst ha
  obtain ⟨q, hq⟩ : ∃ q, decide (B1 < 0) = q := ⟨_, rfl⟩
  have hA1 : A1 = q := HAB.out.1.trans hq
  subst hA1
  cases A1
  ·skip
   go_wp2_with fail
   refine (FindDesign_any m _ T 600 _ HT.out).mono ?_
   rintro e' w13 ⟨r5, rfl, hR, hb⟩
   obtain ⟨ra5, rc5, rfl, _⟩ := hR.v2.form
   clear hR
   generalize (findAns m T [] 600).2.2 = c5
   generalize (findAns m T [] 600).2.1 = k5
   generalize (findAns m T [] 600).1 = d5
   have hxb_w13 : ∀ o, w13.cell? ⟨w2.heap.size, o, none⟩ = (#[.int .i64 m.c, .int .i64 m.d, .int .i64 m.s, .int .i64 m.e, .int .i64 m.l, .slice ua T.length uc] : Array Value)[o]? := fun o => by rw [(bcell hb).1 _ _ (by omega), hxb_w12]
   have hz_w13 := hb.size
   have HVx := Lib.hid (HV.out.below hb); clear HV; have HV := HVx; clear HVx
   have HTx := Lib.hid (HT.out.below hb); clear HT; have HT := HTx; clear HTx
   have HTyx := Lib.hid (HTy.out.below hb); clear HTy; have HTy := HTyx; clear HTyx
   have HBx := Lib.hid (HB.out.trans (hb.mono (by omega))); clear HB; have HB := HBx; clear HBx
   clear hxb_w12
   clear hb
   go_wp2_with fail
   go_ret
   exact ⟨rfl, HB.out⟩
  ·skip
   have hno := tight_law (limit := 600) EA.out
   obtain ⟨E3, hE3⟩ : ∃ x, (findAns m T [] 600).2.2 = x := ⟨_, rfl⟩
   rw [hE3] at hno
   have hnod : (E3 != 0) = true := by simp [hno]
   have HE3 := Lib.hid hE3; clear hE3 hno
   go_wp2_with fail
   refine (FindDesign_any m _ T 600 _ HT.out).mono ?_
   rintro e' w13 ⟨r5, rfl, hR, hb⟩
   obtain ⟨ra5, rc5, rfl, _⟩ := hR.v2.form
   clear hR
   rw [HE3.out]
   generalize (findAns m T [] 600).2.1 = k5
   generalize (findAns m T [] 600).1 = d5
   have hxb_w13 : ∀ o, w13.cell? ⟨w2.heap.size, o, none⟩ = (#[.int .i64 m.c, .int .i64 m.d, .int .i64 m.s, .int .i64 m.e, .int .i64 m.l, .slice ua T.length uc] : Array Value)[o]? := fun o => by rw [(bcell hb).1 _ _ (by omega), hxb_w12]
   have hz_w13 := hb.size
   have HVx := Lib.hid (HV.out.below hb); clear HV; have HV := HVx; clear HVx
   have HTx := Lib.hid (HT.out.below hb); clear HT; have HT := HTx; clear HTx
   have HTyx := Lib.hid (HTy.out.below hb); clear HTy; have HTy := HTyx; clear HTyx
   have HBx := Lib.hid (HB.out.trans (hb.mono (by omega))); clear HB; have HB := HBx; clear HBx
   clear hxb_w12
   clear hb
   go_wp2_with fail
   go_ret
   exact ⟨rfl, HB.out⟩
 subst hc
 have hcl := HCD.out.2 rfl
 have hc1 : decide (D1 < C1) = false := decide_eq_false (by omega)
 have hc2 : decide (C1 < 1) = false := decide_eq_false (by omega)
 clear hcl
 by_cases ha : A2 = 0
 rotate_left
 ·skip
  have had : (A2 != 0) = true := by simp [ha]
  clear ha
  go_wp2_with fail
  go_ret
  exact ⟨rfl, HB.out⟩
 subst ha
 obtain ⟨q, hq⟩ : ∃ q, decide (B1 < 0) = q := ⟨_, rfl⟩
 have hA1 : A1 = q := HAB.out.1.trans hq
 subst hA1
 cases A1
 ·skip
  go_wp2_with fail
  refine (FindDesign_any m _ T 600 _ HT.out).mono ?_
  rintro e' w13 ⟨r5, rfl, hR, hb⟩
  obtain ⟨ra5, rc5, rfl, _⟩ := hR.v2.form
  clear hR
  generalize (findAns m T [] 600).2.2 = c5
  generalize (findAns m T [] 600).2.1 = k5
  generalize (findAns m T [] 600).1 = d5
  have hxb_w13 : ∀ o, w13.cell? ⟨w2.heap.size, o, none⟩ = (#[.int .i64 m.c, .int .i64 m.d, .int .i64 m.s, .int .i64 m.e, .int .i64 m.l, .slice ua T.length uc] : Array Value)[o]? := fun o => by rw [(bcell hb).1 _ _ (by omega), hxb_w12]
  have hz_w13 := hb.size
  have HVx := Lib.hid (HV.out.below hb); clear HV; have HV := HVx; clear HVx
  have HTx := Lib.hid (HT.out.below hb); clear HT; have HT := HTx; clear HTx
  have HTyx := Lib.hid (HTy.out.below hb); clear HTy; have HTy := HTyx; clear HTyx
  have HBx := Lib.hid (HB.out.trans (hb.mono (by omega))); clear HB; have HB := HBx; clear HBx
  clear hxb_w12
  clear hb
  go_wp2_with fail
  go_ret
  exact ⟨rfl, HB.out⟩
 ·skip
  have hno := tight_law (limit := 600) EA.out
  obtain ⟨E3, hE3⟩ : ∃ x, (findAns m T [] 600).2.2 = x := ⟨_, rfl⟩
  rw [hE3] at hno
  have hnod : (E3 != 0) = true := by simp [hno]
  have HE3 := Lib.hid hE3; clear hE3 hno
  go_wp2_with fail
  refine (FindDesign_any m _ T 600 _ HT.out).mono ?_
  rintro e' w13 ⟨r5, rfl, hR, hb⟩
  obtain ⟨ra5, rc5, rfl, _⟩ := hR.v2.form
  clear hR
  rw [HE3.out]
  generalize (findAns m T [] 600).2.1 = k5
  generalize (findAns m T [] 600).1 = d5
  have hxb_w13 : ∀ o, w13.cell? ⟨w2.heap.size, o, none⟩ = (#[.int .i64 m.c, .int .i64 m.d, .int .i64 m.s, .int .i64 m.e, .int .i64 m.l, .slice ua T.length uc] : Array Value)[o]? := fun o => by rw [(bcell hb).1 _ _ (by omega), hxb_w12]
  have hz_w13 := hb.size
  have HVx := Lib.hid (HV.out.below hb); clear HV; have HV := HVx; clear HVx
  have HTx := Lib.hid (HT.out.below hb); clear HT; have HT := HTx; clear HTx
  have HTyx := Lib.hid (HTy.out.below hb); clear HTy; have HTy := HTyx; clear HTyx
  have HBx := Lib.hid (HB.out.trans (hb.mono (by omega))); clear HB; have HB := HBx; clear HBx
  clear hxb_w12
  clear hb
  go_wp2_with fail
  go_ret
  exact ⟨rfl, HB.out⟩
end Go.Proofs.YtmaefilliggjiaaGreat
