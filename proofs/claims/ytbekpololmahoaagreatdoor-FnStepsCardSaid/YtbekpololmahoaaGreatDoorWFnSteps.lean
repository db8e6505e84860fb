/- The walk of 'laws.FnSteps'. Conditions: what the library's variables hold. -/
import Derived.Test.YtbekpololmahoaaGreatDoorMTable
import Derived.Test.YtbekpololmahoaaGreatDoorMCount
import Derived.Test.YtbekpololmahoaaGreatDoorDraw25
import Derived.Test.YtbekpololmahoaaGreatDoorMDmg
import Derived.Test.YtbekpololmahoaaGreatDoorMPsE
import Derived.Test.YtbekpololmahoaaGreatDoorMReadO
import Derived.Test.YtbekpololmahoaaGreatDoorMPsF
import Derived.Test.YtbekpololmahoaaGreatDoorMStx
namespace Go.Proofs.YtbekpololmahoaaGreatDoor
open Go.RowKit
set_option linter.unusedVariables false
set_option linter.unusedSimpArgs false
theorem read_len {m : Mk} {t : List (List Int)} {steps : List (Int × Int)} {n : Int} (h : readAns m t steps = (n, 0)) (h2 : refAns m t steps = true) : n = (steps.length : Int) := by
 unfold readAns at h
 unfold refAns at h2
 split at h
 ·cases h
 ·rename_i hs
  rw [if_neg hs] at h2
  split at h
  ·cases h
  ·rename_i hl
   rw [if_neg hl, Bool.and_eq_true, decide_eq_true_eq] at h2
   rw [← (Prod.mk.inj h).1, h2.2]
set_option maxHeartbeats 4000000 in
set_option maxRecDepth 100000 in
theorem fnSteps_walk (W : World) (v : Value) (l : List Int) (h : VB (Old W) W v l) (hE : Env W) :
  Calls Tryz.prog 3 #[v] W fun e' w' => e' = .returned (.bool true) ∧ Below W.heap.size W w' := by
 have hV := h
 obtain ⟨a, c, rfl, hm⟩ := h.form
 have HV := Lib.hid hV; clear hV h
 have HE := Lib.hid hE; clear hE
 cases hbig : decide (4096 < l.length)
 rotate_left
 ·have Hbig := Lib.hid hbig; clear hbig
  go_enter Tryz.func3, Tryz.ntmps3
  go_wp2_with fail
  refine (big_any _ l W true Hbig.out HV.out).mono ?_
  rintro e' w' ⟨rfl, hW⟩
  subst hW
  go_wp2_with fail
  go_ret
  exact ⟨rfl, Below.refl _ _⟩
 have Hbig := Lib.hid hbig; clear hbig
 go_enter Tryz.func3, Tryz.ntmps3
 go_wp2_with fail
 refine (big_any _ l W false Hbig.out HV.out).mono ?_
 rintro e' w' ⟨rfl, hW⟩
 subst hW
 have HB := Lib.hid (Below.refl W.heap.size W)
 go_wp2_with fail
 refine (DrawStepsText_any _ l _ HV.out).mono ?_
 rintro e' w2 ⟨sv0, st0, rfl, hv, hlst, hb⟩
 obtain ⟨sa0, sc0, rfl, _⟩ := hv.form
 have Hl0 := Lib.hid hlst; clear hlst
 have hvx := Lib.hid hv.any; clear hv
 have hz_w2 := hb.size
 have HVx := Lib.hid (HV.out.below hb); clear HV; have HV := HVx; clear HVx
 have HEx := Lib.hid (HE.out.below hb); clear HE; have HE := HEx; clear HEx
 have HBx := Lib.hid (HB.out.trans (hb.mono (by omega))); clear HB; have HB := HBx; clear HBx
 clear hb
 have HS0 := hvx; clear hvx
 go_wp2_with fail
 obtain ⟨A, hA⟩ : ∃ x, stxAns st0 = x := ⟨_, rfl⟩
 obtain ⟨t0, c0⟩ := A
 have EA := Lib.hid hA; clear hA
 refine (StepsText_any _ st0 _ HS0.out (by have := Hl0.out; omega)).mono ?_
 rintro e' w3 ⟨rfl, hb⟩
 rw [EA.out]
 have hz_w3 := hb.size
 have HVx := Lib.hid (HV.out.below hb); clear HV; have HV := HVx; clear HVx
 have HEx := Lib.hid (HE.out.below hb); clear HE; have HE := HEx; clear HEx
 have HS0x := Lib.hid (HS0.out.below hb); clear HS0; have HS0 := HS0x; clear HS0x
 have HBx := Lib.hid (HB.out.trans (hb.mono (by omega))); clear HB; have HB := HBx; clear HBx
 clear hb
 go_wp2_with fail
 refine (StepsTextR_any _ st0 _ HS0.out).mono ?_
 rintro e' w4 ⟨rfl, hb⟩
 rw [EA.out]
 have hz_w4 := hb.size
 have HVx := Lib.hid (HV.out.below hb); clear HV; have HV := HVx; clear HVx
 have HEx := Lib.hid (HE.out.below hb); clear HE; have HE := HEx; clear HEx
 have HS0x := Lib.hid (HS0.out.below hb); clear HS0; have HS0 := HS0x; clear HS0x
 have HBx := Lib.hid (HB.out.trans (hb.mono (by omega))); clear HB; have HB := HBx; clear HBx
 clear hb
 go_wp2_with fail
 refine (DrawParseSteps_any _ l _ HV.out).mono ?_
 rintro e' w5 ⟨s, rfl, hls, hb⟩
 have Hls := Lib.hid hls; clear hls
 have hz_w5 := hb.size
 have HVx := Lib.hid (HV.out.below hb); clear HV; have HV := HVx; clear HVx
 have HEx := Lib.hid (HE.out.below hb); clear HE; have HE := HEx; clear HEx
 have HS0x := Lib.hid (HS0.out.below hb); clear HS0; have HS0 := HS0x; clear HS0x
 have HBx := Lib.hid (HB.out.trans (hb.mono (by omega))); clear HB; have HB := HBx; clear HBx
 clear hb
 have hpl := ps_len s
 obtain ⟨B, hBq⟩ : ∃ x, psAns s = x := ⟨_, rfl⟩
 rw [hBq] at hpl
 obtain ⟨ol, c1⟩ := B
 dsimp only at hpl
 have hol : ol.length ≤ 100000000 := by have := Hls.out; omega
 have Hol := Lib.hid hol; clear hol hpl
 have EB := Lib.hid hBq; clear hBq
 go_wp2_with fail
 refine (ParseSteps_any s _ Hls.out HE.out).mono ?_
 rintro e' w6 ⟨r1, rfl, hR, hb⟩
 rw [EB.out] at hR ⊢
 dsimp only at hR ⊢
 obtain ⟨ra1, rc1, rfl, _⟩ := hR.vs.form
 have hRx := Lib.hid hR.vs; clear hR
 have hz_w6 := hb.size
 have HVx := Lib.hid (HV.out.below hb); clear HV; have HV := HVx; clear HVx
 have HEx := Lib.hid (HE.out.below hb); clear HE; have HE := HEx; clear HEx
 have HS0x := Lib.hid (HS0.out.below hb); clear HS0; have HS0 := HS0x; clear HS0x
 have HBx := Lib.hid (HB.out.trans (hb.mono (by omega))); clear HB; have HB := HBx; clear HBx
 clear hb
 have HR1 := hRx; clear hRx
 go_wp2_with fail
 refine (ParseStepsR_any s _ Hls.out).mono ?_
 rintro e' w7 ⟨r2, rfl, hR, hb⟩
 rw [EB.out] at hR ⊢
 dsimp only at hR ⊢
 obtain ⟨ra2, rc2, rfl, _⟩ := hR.vs.form
 have hRx := Lib.hid hR.vs; clear hR
 have hz_w7 := hb.size
 have HVx := Lib.hid (HV.out.below hb); clear HV; have HV := HVx; clear HVx
 have HEx := Lib.hid (HE.out.below hb); clear HE; have HE := HEx; clear HEx
 have HS0x := Lib.hid (HS0.out.below hb); clear HS0; have HS0 := HS0x; clear HS0x
 have HR1x := Lib.hid (HR1.out.below hb); clear HR1; have HR1 := HR1x; clear HR1x
 have HBx := Lib.hid (HB.out.trans (hb.mono (by omega))); clear HB; have HB := HBx; clear HBx
 clear hb
 have HR2 := hRx; clear hRx
 go_wp2_with fail
 refine (DrawReadSteps_any _ l _ HV.out).mono ?_
 rintro e' w8 hD
 obtain ⟨m, u, cv, T, cuts, rfl, hu, hcv, hb⟩ := hD.open
 obtain ⟨ua, uc, rfl, _⟩ := hu.form
 obtain ⟨ca, cc, rfl, _⟩ := hcv.form
 obtain ⟨w9, hw3, hb3, hz3, _, hc3, _⟩ := box_facts w8 (#[.int .i64 m.c, .int .i64 m.d, .int .i64 m.s, .int .i64 m.e, .int .i64 m.l, .slice ua T.length uc] : Array Value) 35
 have hu := Lib.hid (hu.any.below hb3); have hcv := Lib.hid (hcv.any.below hb3)
 have Hw := Lib.hid hw3; clear hw3
 have hz_w8 := hb.size
 have HVx := Lib.hid (HV.out.below hb); clear HV; have HV := HVx; clear HVx
 have HEx := Lib.hid (HE.out.below hb); clear HE; have HE := HEx; clear HEx
 have HS0x := Lib.hid (HS0.out.below hb); clear HS0; have HS0 := HS0x; clear HS0x
 have HR1x := Lib.hid (HR1.out.below hb); clear HR1; have HR1 := HR1x; clear HR1x
 have HR2x := Lib.hid (HR2.out.below hb); clear HR2; have HR2 := HR2x; clear HR2x
 have HBx := Lib.hid (HB.out.trans (hb.mono (by omega))); clear HB; have HB := HBx; clear HBx
 clear hb
 have hz_w9 := hb3.size
 have HVx := Lib.hid (HV.out.below hb3); clear HV; have HV := HVx; clear HVx
 have HEx := Lib.hid (HE.out.below hb3); clear HE; have HE := HEx; clear HEx
 have HS0x := Lib.hid (HS0.out.below hb3); clear HS0; have HS0 := HS0x; clear HS0x
 have HR1x := Lib.hid (HR1.out.below hb3); clear HR1; have HR1 := HR1x; clear HR1x
 have HR2x := Lib.hid (HR2.out.below hb3); clear HR2; have HR2 := HR2x; clear HR2x
 have HBx := Lib.hid (HB.out.trans (hb3.mono (by omega))); clear HB; have HB := HBx; clear HBx
 clear hb3
 have HT := hu; clear hu; have HC := hcv; clear hcv
 have hxb_w9 := hc3; clear hc3
 have hzb := hz3; clear hz3
 go_wp2_with fail
 rw [← Hw.out]
 (try go_wp2_with fail)
 clear Hw
 obtain ⟨C, hC⟩ : ∃ x, readAns m T cuts = x := ⟨_, rfl⟩
 obtain ⟨n, c3⟩ := C
 have EC := Lib.hid hC; clear hC
 refine (ReadSteps_any m _ _ T cuts _ HT.out HC.out).mono ?_
 rintro e' w10 ⟨rfl, hb⟩
 rw [EC.out]
 have hxb_w10 : ∀ o, w10.cell? ⟨w8.heap.size, o, none⟩ = (#[.int .i64 m.c, .int .i64 m.d, .int .i64 m.s, .int .i64 m.e, .int .i64 m.l, .slice ua T.length uc] : Array Value)[o]? := fun o => by rw [(bcell hb).1 _ _ (by omega), hxb_w9]
 have hz_w10 := hb.size
 have HVx := Lib.hid (HV.out.below hb); clear HV; have HV := HVx; clear HVx
 have HEx := Lib.hid (HE.out.below hb); clear HE; have HE := HEx; clear HEx
 have HS0x := Lib.hid (HS0.out.below hb); clear HS0; have HS0 := HS0x; clear HS0x
 have HR1x := Lib.hid (HR1.out.below hb); clear HR1; have HR1 := HR1x; clear HR1x
 have HR2x := Lib.hid (HR2.out.below hb); clear HR2; have HR2 := HR2x; clear HR2x
 have HTx := Lib.hid (HT.out.below hb); clear HT; have HT := HTx; clear HTx
 have HCx := Lib.hid (HC.out.below hb); clear HC; have HC := HCx; clear HCx
 have HBx := Lib.hid (HB.out.trans (hb.mono (by omega))); clear HB; have HB := HBx; clear HBx
 clear hxb_w9
 clear hb
 go_wp2_with fail
 refine (ReadStepsR_any m _ _ T cuts _ HT.out HC.out).mono ?_
 rintro e' w11 ⟨rfl, hb⟩
 rw [EC.out]
 have hxb_w11 : ∀ o, w11.cell? ⟨w8.heap.size, o, none⟩ = (#[.int .i64 m.c, .int .i64 m.d, .int .i64 m.s, .int .i64 m.e, .int .i64 m.l, .slice ua T.length uc] : Array Value)[o]? := fun o => by rw [(bcell hb).1 _ _ (by omega), hxb_w10]
 have hz_w11 := hb.size
 have HVx := Lib.hid (HV.out.below hb); clear HV; have HV := HVx; clear HVx
 have HEx := Lib.hid (HE.out.below hb); clear HE; have HE := HEx; clear HEx
 have HS0x := Lib.hid (HS0.out.below hb); clear HS0; have HS0 := HS0x; clear HS0x
 have HR1x := Lib.hid (HR1.out.below hb); clear HR1; have HR1 := HR1x; clear HR1x
 have HR2x := Lib.hid (HR2.out.below hb); clear HR2; have HR2 := HR2x; clear HR2x
 have HTx := Lib.hid (HT.out.below hb); clear HT; have HT := HTx; clear HTx
 have HCx := Lib.hid (HC.out.below hb); clear HC; have HC := HCx; clear HCx
 have HBx := Lib.hid (HB.out.trans (hb.mono (by omega))); clear HB; have HB := HBx; clear HBx
 clear hxb_w10
 clear hb
 go_wp2_with fail
 refine (DrawCountOpen_any _ l _ HV.out).mono ?_
 rintro e' w12 ⟨sv3, st3, rfl, hv, hlst, hb⟩
 obtain ⟨sa3, sc3, rfl, _⟩ := hv.form
 have Hl3 := Lib.hid hlst; clear hlst
 have hvx := Lib.hid hv.any; clear hv
 have hxb_w12 : ∀ o, w12.cell? ⟨w8.heap.size, o, none⟩ = (#[.int .i64 m.c, .int .i64 m.d, .int .i64 m.s, .int .i64 m.e, .int .i64 m.l, .slice ua T.length uc] : Array Value)[o]? := fun o => by rw [(bcell hb).1 _ _ (by omega), hxb_w11]
 have hz_w12 := hb.size
 have HVx := Lib.hid (HV.out.below hb); clear HV; have HV := HVx; clear HVx
 have HEx := Lib.hid (HE.out.below hb); clear HE; have HE := HEx; clear HEx
 have HS0x := Lib.hid (HS0.out.below hb); clear HS0; have HS0 := HS0x; clear HS0x
 have HR1x := Lib.hid (HR1.out.below hb); clear HR1; have HR1 := HR1x; clear HR1x
 have HR2x := Lib.hid (HR2.out.below hb); clear HR2; have HR2 := HR2x; clear HR2x
 have HTx := Lib.hid (HT.out.below hb); clear HT; have HT := HTx; clear HTx
 have HCx := Lib.hid (HC.out.below hb); clear HC; have HC := HCx; clear HCx
 have HBx := Lib.hid (HB.out.trans (hb.mono (by omega))); clear HB; have HB := HBx; clear HBx
 clear hxb_w11
 clear hb
 have HS3 := hvx; clear hvx
 go_wp2_with fail
 refine (likeSteps_w _ _ (ol) (ol) _ true (decide_eq_true rfl) HR1.out HR2.out).mono ?_
 rintro e' w13 ⟨rfl, hb⟩
 have hxb_w13 : ∀ o, w13.cell? ⟨w8.heap.size, o, none⟩ = (#[.int .i64 m.c, .int .i64 m.d, .int .i64 m.s, .int .i64 m.e, .int .i64 m.l, .slice ua T.length uc] : Array Value)[o]? := fun o => by rw [(bcell hb).1 _ _ (by omega), hxb_w12]
 have hz_w13 := hb.size
 have HVx := Lib.hid (HV.out.below hb); clear HV; have HV := HVx; clear HVx
 have HEx := Lib.hid (HE.out.below hb); clear HE; have HE := HEx; clear HEx
 have HS0x := Lib.hid (HS0.out.below hb); clear HS0; have HS0 := HS0x; clear HS0x
 have HR1x := Lib.hid (HR1.out.below hb); clear HR1; have HR1 := HR1x; clear HR1x
 have HR2x := Lib.hid (HR2.out.below hb); clear HR2; have HR2 := HR2x; clear HR2x
 have HTx := Lib.hid (HT.out.below hb); clear HT; have HT := HTx; clear HTx
 have HCx := Lib.hid (HC.out.below hb); clear HC; have HC := HCx; clear HCx
 have HS3x := Lib.hid (HS3.out.below hb); clear HS3; have HS3 := HS3x; clear HS3x
 have HBx := Lib.hid (HB.out.trans (hb.mono (by omega))); clear HB; have HB := HBx; clear HBx
 clear hxb_w12
 clear hb
 go_wp2_with fail
 refine (countOpenI_any _ st3 _ HS3.out).mono ?_
 rintro e' w14 ⟨rfl, hb⟩
 have hxb_w14 : ∀ o, w14.cell? ⟨w8.heap.size, o, none⟩ = (#[.int .i64 m.c, .int .i64 m.d, .int .i64 m.s, .int .i64 m.e, .int .i64 m.l, .slice ua T.length uc] : Array Value)[o]? := fun o => by rw [(bcell hb).1 _ _ (by omega), hxb_w13]
 have hz_w14 := hb.size
 have HVx := Lib.hid (HV.out.below hb); clear HV; have HV := HVx; clear HVx
 have HEx := Lib.hid (HE.out.below hb); clear HE; have HE := HEx; clear HEx
 have HS0x := Lib.hid (HS0.out.below hb); clear HS0; have HS0 := HS0x; clear HS0x
 have HR1x := Lib.hid (HR1.out.below hb); clear HR1; have HR1 := HR1x; clear HR1x
 have HR2x := Lib.hid (HR2.out.below hb); clear HR2; have HR2 := HR2x; clear HR2x
 have HTx := Lib.hid (HT.out.below hb); clear HT; have HT := HTx; clear HTx
 have HCx := Lib.hid (HC.out.below hb); clear HC; have HC := HCx; clear HCx
 have HS3x := Lib.hid (HS3.out.below hb); clear HS3; have HS3 := HS3x; clear HS3x
 have HBx := Lib.hid (HB.out.trans (hb.mono (by omega))); clear HB; have HB := HBx; clear HBx
 clear hxb_w13
 clear hb
 go_wp2_with fail
 refine (countOpenR_any _ st3 _ HS3.out).mono ?_
 rintro e' w15 ⟨rfl, hb⟩
 have hxb_w15 : ∀ o, w15.cell? ⟨w8.heap.size, o, none⟩ = (#[.int .i64 m.c, .int .i64 m.d, .int .i64 m.s, .int .i64 m.e, .int .i64 m.l, .slice ua T.length uc] : Array Value)[o]? := fun o => by rw [(bcell hb).1 _ _ (by omega), hxb_w14]
 have hz_w15 := hb.size
 have HVx := Lib.hid (HV.out.below hb); clear HV; have HV := HVx; clear HVx
 have HEx := Lib.hid (HE.out.below hb); clear HE; have HE := HEx; clear HEx
 have HS0x := Lib.hid (HS0.out.below hb); clear HS0; have HS0 := HS0x; clear HS0x
 have HR1x := Lib.hid (HR1.out.below hb); clear HR1; have HR1 := HR1x; clear HR1x
 have HR2x := Lib.hid (HR2.out.below hb); clear HR2; have HR2 := HR2x; clear HR2x
 have HTx := Lib.hid (HT.out.below hb); clear HT; have HT := HTx; clear HTx
 have HCx := Lib.hid (HC.out.below hb); clear HC; have HC := HCx; clear HCx
 have HS3x := Lib.hid (HS3.out.below hb); clear HS3; have HS3 := HS3x; clear HS3x
 have HBx := Lib.hid (HB.out.trans (hb.mono (by omega))); clear HB; have HB := HBx; clear HBx
 clear hxb_w14
 clear hb
 by_cases h1 : c1 = 0
 ·subst h1
  have hss := ps_stx EB.out
  have Hss := Lib.hid hss; clear hss
  go_wp2_with fail
  refine (StepsText_any _ ol _ HR1.out Hol.out).mono ?_
  rintro e' w16 ⟨rfl, hb⟩
  rw [Hss.out]
  have hxb_w16 : ∀ o, w16.cell? ⟨w8.heap.size, o, none⟩ = (#[.int .i64 m.c, .int .i64 m.d, .int .i64 m.s, .int .i64 m.e, .int .i64 m.l, .slice ua T.length uc] : Array Value)[o]? := fun o => by rw [(bcell hb).1 _ _ (by omega), hxb_w15]
  have hz_w16 := hb.size
  have HVx := Lib.hid (HV.out.below hb); clear HV; have HV := HVx; clear HVx
  have HEx := Lib.hid (HE.out.below hb); clear HE; have HE := HEx; clear HEx
  have HS0x := Lib.hid (HS0.out.below hb); clear HS0; have HS0 := HS0x; clear HS0x
  have HR1x := Lib.hid (HR1.out.below hb); clear HR1; have HR1 := HR1x; clear HR1x
  have HR2x := Lib.hid (HR2.out.below hb); clear HR2; have HR2 := HR2x; clear HR2x
  have HTx := Lib.hid (HT.out.below hb); clear HT; have HT := HTx; clear HTx
  have HCx := Lib.hid (HC.out.below hb); clear HC; have HC := HCx; clear HCx
  have HS3x := Lib.hid (HS3.out.below hb); clear HS3; have HS3 := HS3x; clear HS3x
  have HBx := Lib.hid (HB.out.trans (hb.mono (by omega))); clear HB; have HB := HBx; clear HBx
  clear hxb_w15
  clear hb
  by_cases h3 : c3 = 0
  ·subst h3
   obtain ⟨rb, hrb⟩ : ∃ x, refAns m T cuts = x := ⟨_, rfl⟩
   go_wp2_with fail
   refine (IsRefutation_any m _ _ T cuts _ HT.out HC.out).mono ?_
   rintro e' w17 ⟨rfl, hb⟩
   rw [hrb]
   have hxb_w17 : ∀ o, w17.cell? ⟨w8.heap.size, o, none⟩ = (#[.int .i64 m.c, .int .i64 m.d, .int .i64 m.s, .int .i64 m.e, .int .i64 m.l, .slice ua T.length uc] : Array Value)[o]? := fun o => by rw [(bcell hb).1 _ _ (by omega), hxb_w16]
   have hz_w17 := hb.size
   have HVx := Lib.hid (HV.out.below hb); clear HV; have HV := HVx; clear HVx
   have HEx := Lib.hid (HE.out.below hb); clear HE; have HE := HEx; clear HEx
   have HS0x := Lib.hid (HS0.out.below hb); clear HS0; have HS0 := HS0x; clear HS0x
   have HR1x := Lib.hid (HR1.out.below hb); clear HR1; have HR1 := HR1x; clear HR1x
   have HR2x := Lib.hid (HR2.out.below hb); clear HR2; have HR2 := HR2x; clear HR2x
   have HTx := Lib.hid (HT.out.below hb); clear HT; have HT := HTx; clear HTx
   have HCx := Lib.hid (HC.out.below hb); clear HC; have HC := HCx; clear HCx
   have HS3x := Lib.hid (HS3.out.below hb); clear HS3; have HS3 := HS3x; clear HS3x
   have HBx := Lib.hid (HB.out.trans (hb.mono (by omega))); clear HB; have HB := HBx; clear HBx
   clear hxb_w16
   clear hb
   cases rb
   ·clear hrb
    by_cases h0 : c0 = 0
    ·subst h0
     have hsp := stx_ps (l := st0) (by rw [EA.out])
     rw [EA.out] at hsp
     have Hsp := Lib.hid hsp; clear hsp
     have htl := stx_len st0
     rw [EA.out] at htl
     dsimp only at htl
     have Htl := Lib.hid htl; clear htl
     go_wp2_with fail
     refine (ParseSteps_any t0 _ (by have := Htl.out; omega) HE.out).mono ?_
     rintro e' w18 ⟨r9, rfl, hR, hb⟩
     rw [Hsp.out] at hR ⊢
     dsimp only at hR ⊢
     obtain ⟨ra9, rc9, rfl, _⟩ := hR.vs.form
     have hRx := Lib.hid hR.vs; clear hR
     have hxb_w18 : ∀ o, w18.cell? ⟨w8.heap.size, o, none⟩ = (#[.int .i64 m.c, .int .i64 m.d, .int .i64 m.s, .int .i64 m.e, .int .i64 m.l, .slice ua T.length uc] : Array Value)[o]? := fun o => by rw [(bcell hb).1 _ _ (by omega), hxb_w17]
     have hz_w18 := hb.size
     have HVx := Lib.hid (HV.out.below hb); clear HV; have HV := HVx; clear HVx
     have HEx := Lib.hid (HE.out.below hb); clear HE; have HE := HEx; clear HEx
     have HS0x := Lib.hid (HS0.out.below hb); clear HS0; have HS0 := HS0x; clear HS0x
     have HR1x := Lib.hid (HR1.out.below hb); clear HR1; have HR1 := HR1x; clear HR1x
     have HR2x := Lib.hid (HR2.out.below hb); clear HR2; have HR2 := HR2x; clear HR2x
     have HTx := Lib.hid (HT.out.below hb); clear HT; have HT := HTx; clear HTx
     have HCx := Lib.hid (HC.out.below hb); clear HC; have HC := HCx; clear HCx
     have HS3x := Lib.hid (HS3.out.below hb); clear HS3; have HS3 := HS3x; clear HS3x
     have HBx := Lib.hid (HB.out.trans (hb.mono (by omega))); clear HB; have HB := HBx; clear HBx
     clear hxb_w17
     clear hb
     have HR9 := hRx; clear hRx
     go_wp2_with fail
     refine (likeSteps_w _ _ (st0) (st0) _ true (decide_eq_true rfl) HR9.out HS0.out).mono ?_
     rintro e' w19 ⟨rfl, hb⟩
     have hxb_w19 : ∀ o, w19.cell? ⟨w8.heap.size, o, none⟩ = (#[.int .i64 m.c, .int .i64 m.d, .int .i64 m.s, .int .i64 m.e, .int .i64 m.l, .slice ua T.length uc] : Array Value)[o]? := fun o => by rw [(bcell hb).1 _ _ (by omega), hxb_w18]
     have hz_w19 := hb.size
     have HVx := Lib.hid (HV.out.below hb); clear HV; have HV := HVx; clear HVx
     have HEx := Lib.hid (HE.out.below hb); clear HE; have HE := HEx; clear HEx
     have HS0x := Lib.hid (HS0.out.below hb); clear HS0; have HS0 := HS0x; clear HS0x
     have HR1x := Lib.hid (HR1.out.below hb); clear HR1; have HR1 := HR1x; clear HR1x
     have HR2x := Lib.hid (HR2.out.below hb); clear HR2; have HR2 := HR2x; clear HR2x
     have HTx := Lib.hid (HT.out.below hb); clear HT; have HT := HTx; clear HTx
     have HCx := Lib.hid (HC.out.below hb); clear HC; have HC := HCx; clear HCx
     have HS3x := Lib.hid (HS3.out.below hb); clear HS3; have HS3 := HS3x; clear HS3x
     have HR9x := Lib.hid (HR9.out.below hb); clear HR9; have HR9 := HR9x; clear HR9x
     have HBx := Lib.hid (HB.out.trans (hb.mono (by omega))); clear HB; have HB := HBx; clear HBx
     clear hxb_w18
     clear hb
     go_wp2_with fail
     go_ret
     exact ⟨rfl, HB.out⟩
    ·have h0d : (c0 != 0) = true := by simp [h0]
     clear h0
     go_wp2_with fail
     go_ret
     exact ⟨rfl, HB.out⟩
   ·have hn : n = (cuts.length : Int) := read_len EC.out hrb
    subst hn
    clear hrb
    by_cases h0 : c0 = 0
    ·subst h0
     have hsp := stx_ps (l := st0) (by rw [EA.out])
     rw [EA.out] at hsp
     have Hsp := Lib.hid hsp; clear hsp
     have htl := stx_len st0
     rw [EA.out] at htl
     dsimp only at htl
     have Htl := Lib.hid htl; clear htl
     go_wp2_with fail
     refine (ParseSteps_any t0 _ (by have := Htl.out; omega) HE.out).mono ?_
     rintro e' w18 ⟨r9, rfl, hR, hb⟩
     rw [Hsp.out] at hR ⊢
     dsimp only at hR ⊢
     obtain ⟨ra9, rc9, rfl, _⟩ := hR.vs.form
     have hRx := Lib.hid hR.vs; clear hR
     have hxb_w18 : ∀ o, w18.cell? ⟨w8.heap.size, o, none⟩ = (#[.int .i64 m.c, .int .i64 m.d, .int .i64 m.s, .int .i64 m.e, .int .i64 m.l, .slice ua T.length uc] : Array Value)[o]? := fun o => by rw [(bcell hb).1 _ _ (by omega), hxb_w17]
     have hz_w18 := hb.size
     have HVx := Lib.hid (HV.out.below hb); clear HV; have HV := HVx; clear HVx
     have HEx := Lib.hid (HE.out.below hb); clear HE; have HE := HEx; clear HEx
     have HS0x := Lib.hid (HS0.out.below hb); clear HS0; have HS0 := HS0x; clear HS0x
     have HR1x := Lib.hid (HR1.out.below hb); clear HR1; have HR1 := HR1x; clear HR1x
     have HR2x := Lib.hid (HR2.out.below hb); clear HR2; have HR2 := HR2x; clear HR2x
     have HTx := Lib.hid (HT.out.below hb); clear HT; have HT := HTx; clear HTx
     have HCx := Lib.hid (HC.out.below hb); clear HC; have HC := HCx; clear HCx
     have HS3x := Lib.hid (HS3.out.below hb); clear HS3; have HS3 := HS3x; clear HS3x
     have HBx := Lib.hid (HB.out.trans (hb.mono (by omega))); clear HB; have HB := HBx; clear HBx
     clear hxb_w17
     clear hb
     have HR9 := hRx; clear hRx
     go_wp2_with fail
     refine (likeSteps_w _ _ (st0) (st0) _ true (decide_eq_true rfl) HR9.out HS0.out).mono ?_
     rintro e' w19 ⟨rfl, hb⟩
     have hxb_w19 : ∀ o, w19.cell? ⟨w8.heap.size, o, none⟩ = (#[.int .i64 m.c, .int .i64 m.d, .int .i64 m.s, .int .i64 m.e, .int .i64 m.l, .slice ua T.length uc] : Array Value)[o]? := fun o => by rw [(bcell hb).1 _ _ (by omega), hxb_w18]
     have hz_w19 := hb.size
     have HVx := Lib.hid (HV.out.below hb); clear HV; have HV := HVx; clear HVx
     have HEx := Lib.hid (HE.out.below hb); clear HE; have HE := HEx; clear HEx
     have HS0x := Lib.hid (HS0.out.below hb); clear HS0; have HS0 := HS0x; clear HS0x
     have HR1x := Lib.hid (HR1.out.below hb); clear HR1; have HR1 := HR1x; clear HR1x
     have HR2x := Lib.hid (HR2.out.below hb); clear HR2; have HR2 := HR2x; clear HR2x
     have HTx := Lib.hid (HT.out.below hb); clear HT; have HT := HTx; clear HTx
     have HCx := Lib.hid (HC.out.below hb); clear HC; have HC := HCx; clear HCx
     have HS3x := Lib.hid (HS3.out.below hb); clear HS3; have HS3 := HS3x; clear HS3x
     have HR9x := Lib.hid (HR9.out.below hb); clear HR9; have HR9 := HR9x; clear HR9x
     have HBx := Lib.hid (HB.out.trans (hb.mono (by omega))); clear HB; have HB := HBx; clear HBx
     clear hxb_w18
     clear hb
     go_wp2_with fail
     go_ret
     exact ⟨rfl, HB.out⟩
    ·have h0d : (c0 != 0) = true := by simp [h0]
     clear h0
     go_wp2_with fail
     go_ret
     exact ⟨rfl, HB.out⟩
  ·have h3d : (c3 == 0) = false := by simp [h3]
   clear h3
   by_cases h0 : c0 = 0
   ·subst h0
    have hsp := stx_ps (l := st0) (by rw [EA.out])
    rw [EA.out] at hsp
    have Hsp := Lib.hid hsp; clear hsp
    have htl := stx_len st0
    rw [EA.out] at htl
    dsimp only at htl
    have Htl := Lib.hid htl; clear htl
    go_wp2_with fail
    refine (ParseSteps_any t0 _ (by have := Htl.out; omega) HE.out).mono ?_
    rintro e' w17 ⟨r9, rfl, hR, hb⟩
    rw [Hsp.out] at hR ⊢
    dsimp only at hR ⊢
    obtain ⟨ra9, rc9, rfl, _⟩ := hR.vs.form
    have hRx := Lib.hid hR.vs; clear hR
    have hxb_w17 : ∀ o, w17.cell? ⟨w8.heap.size, o, none⟩ = (#[.int .i64 m.c, .int .i64 m.d, .int .i64 m.s, .int .i64 m.e, .int .i64 m.l, .slice ua T.length uc] : Array Value)[o]? := fun o => by rw [(bcell hb).1 _ _ (by omega), hxb_w16]
    have hz_w17 := hb.size
    have HVx := Lib.hid (HV.out.below hb); clear HV; have HV := HVx; clear HVx
    have HEx := Lib.hid (HE.out.below hb); clear HE; have HE := HEx; clear HEx
    have HS0x := Lib.hid (HS0.out.below hb); clear HS0; have HS0 := HS0x; clear HS0x
    have HR1x := Lib.hid (HR1.out.below hb); clear HR1; have HR1 := HR1x; clear HR1x
    have HR2x := Lib.hid (HR2.out.below hb); clear HR2; have HR2 := HR2x; clear HR2x
    have HTx := Lib.hid (HT.out.below hb); clear HT; have HT := HTx; clear HTx
    have HCx := Lib.hid (HC.out.below hb); clear HC; have HC := HCx; clear HCx
    have HS3x := Lib.hid (HS3.out.below hb); clear HS3; have HS3 := HS3x; clear HS3x
    have HBx := Lib.hid (HB.out.trans (hb.mono (by omega))); clear HB; have HB := HBx; clear HBx
    clear hxb_w16
    clear hb
    have HR9 := hRx; clear hRx
    go_wp2_with fail
    refine (likeSteps_w _ _ (st0) (st0) _ true (decide_eq_true rfl) HR9.out HS0.out).mono ?_
    rintro e' w18 ⟨rfl, hb⟩
    have hxb_w18 : ∀ o, w18.cell? ⟨w8.heap.size, o, none⟩ = (#[.int .i64 m.c, .int .i64 m.d, .int .i64 m.s, .int .i64 m.e, .int .i64 m.l, .slice ua T.length uc] : Array Value)[o]? := fun o => by rw [(bcell hb).1 _ _ (by omega), hxb_w17]
    have hz_w18 := hb.size
    have HVx := Lib.hid (HV.out.below hb); clear HV; have HV := HVx; clear HVx
    have HEx := Lib.hid (HE.out.below hb); clear HE; have HE := HEx; clear HEx
    have HS0x := Lib.hid (HS0.out.below hb); clear HS0; have HS0 := HS0x; clear HS0x
    have HR1x := Lib.hid (HR1.out.below hb); clear HR1; have HR1 := HR1x; clear HR1x
    have HR2x := Lib.hid (HR2.out.below hb); clear HR2; have HR2 := HR2x; clear HR2x
    have HTx := Lib.hid (HT.out.below hb); clear HT; have HT := HTx; clear HTx
    have HCx := Lib.hid (HC.out.below hb); clear HC; have HC := HCx; clear HCx
    have HS3x := Lib.hid (HS3.out.below hb); clear HS3; have HS3 := HS3x; clear HS3x
    have HR9x := Lib.hid (HR9.out.below hb); clear HR9; have HR9 := HR9x; clear HR9x
    have HBx := Lib.hid (HB.out.trans (hb.mono (by omega))); clear HB; have HB := HBx; clear HBx
    clear hxb_w17
    clear hb
    go_wp2_with fail
    go_ret
    exact ⟨rfl, HB.out⟩
   ·have h0d : (c0 != 0) = true := by simp [h0]
    clear h0
    go_wp2_with fail
    go_ret
    exact ⟨rfl, HB.out⟩
 ·have h1d : (c1 == 0) = false := by simp [h1]
  clear h1
  by_cases h3 : c3 = 0
  ·subst h3
   obtain ⟨rb, hrb⟩ : ∃ x, refAns m T cuts = x := ⟨_, rfl⟩
   go_wp2_with fail
   refine (IsRefutation_any m _ _ T cuts _ HT.out HC.out).mono ?_
   rintro e' w16 ⟨rfl, hb⟩
   rw [hrb]
   have hxb_w16 : ∀ o, w16.cell? ⟨w8.heap.size, o, none⟩ = (#[.int .i64 m.c, .int .i64 m.d, .int .i64 m.s, .int .i64 m.e, .int .i64 m.l, .slice ua T.length uc] : Array Value)[o]? := fun o => by rw [(bcell hb).1 _ _ (by omega), hxb_w15]
   have hz_w16 := hb.size
   have HVx := Lib.hid (HV.out.below hb); clear HV; have HV := HVx; clear HVx
   have HEx := Lib.hid (HE.out.below hb); clear HE; have HE := HEx; clear HEx
   have HS0x := Lib.hid (HS0.out.below hb); clear HS0; have HS0 := HS0x; clear HS0x
   have HR1x := Lib.hid (HR1.out.below hb); clear HR1; have HR1 := HR1x; clear HR1x
   have HR2x := Lib.hid (HR2.out.below hb); clear HR2; have HR2 := HR2x; clear HR2x
   have HTx := Lib.hid (HT.out.below hb); clear HT; have HT := HTx; clear HTx
   have HCx := Lib.hid (HC.out.below hb); clear HC; have HC := HCx; clear HCx
   have HS3x := Lib.hid (HS3.out.below hb); clear HS3; have HS3 := HS3x; clear HS3x
   have HBx := Lib.hid (HB.out.trans (hb.mono (by omega))); clear HB; have HB := HBx; clear HBx
   clear hxb_w15
   clear hb
   cases rb
   ·clear hrb
    by_cases h0 : c0 = 0
    ·subst h0
     have hsp := stx_ps (l := st0) (by rw [EA.out])
     rw [EA.out] at hsp
     have Hsp := Lib.hid hsp; clear hsp
     have htl := stx_len st0
     rw [EA.out] at htl
     dsimp only at htl
     have Htl := Lib.hid htl; clear htl
     go_wp2_with fail
     refine (ParseSteps_any t0 _ (by have := Htl.out; omega) HE.out).mono ?_
     rintro e' w17 ⟨r9, rfl, hR, hb⟩
     rw [Hsp.out] at hR ⊢
     dsimp only at hR ⊢
     obtain ⟨ra9, rc9, rfl, _⟩ := hR.vs.form
     have hRx := Lib.hid hR.vs; clear hR
     have hxb_w17 : ∀ o, w17.cell? ⟨w8.heap.size, o, none⟩ = (#[.int .i64 m.c, .int .i64 m.d, .int .i64 m.s, .int .i64 m.e, .int .i64 m.l, .slice ua T.length uc] : Array Value)[o]? := fun o => by rw [(bcell hb).1 _ _ (by omega), hxb_w16]
     have hz_w17 := hb.size
     have HVx := Lib.hid (HV.out.below hb); clear HV; have HV := HVx; clear HVx
     have HEx := Lib.hid (HE.out.below hb); clear HE; have HE := HEx; clear HEx
     have HS0x := Lib.hid (HS0.out.below hb); clear HS0; have HS0 := HS0x; clear HS0x
     have HR1x := Lib.hid (HR1.out.below hb); clear HR1; have HR1 := HR1x; clear HR1x
     have HR2x := Lib.hid (HR2.out.below hb); clear HR2; have HR2 := HR2x; clear HR2x
     have HTx := Lib.hid (HT.out.below hb); clear HT; have HT := HTx; clear HTx
     have HCx := Lib.hid (HC.out.below hb); clear HC; have HC := HCx; clear HCx
     have HS3x := Lib.hid (HS3.out.below hb); clear HS3; have HS3 := HS3x; clear HS3x
     have HBx := Lib.hid (HB.out.trans (hb.mono (by omega))); clear HB; have HB := HBx; clear HBx
     clear hxb_w16
     clear hb
     have HR9 := hRx; clear hRx
     go_wp2_with fail
     refine (likeSteps_w _ _ (st0) (st0) _ true (decide_eq_true rfl) HR9.out HS0.out).mono ?_
     rintro e' w18 ⟨rfl, hb⟩
     have hxb_w18 : ∀ o, w18.cell? ⟨w8.heap.size, o, none⟩ = (#[.int .i64 m.c, .int .i64 m.d, .int .i64 m.s, .int .i64 m.e, .int .i64 m.l, .slice ua T.length uc] : Array Value)[o]? := fun o => by rw [(bcell hb).1 _ _ (by omega), hxb_w17]
     have hz_w18 := hb.size
     have HVx := Lib.hid (HV.out.below hb); clear HV; have HV := HVx; clear HVx
     have HEx := Lib.hid (HE.out.below hb); clear HE; have HE := HEx; clear HEx
     have HS0x := Lib.hid (HS0.out.below hb); clear HS0; have HS0 := HS0x; clear HS0x
     have HR1x := Lib.hid (HR1.out.below hb); clear HR1; have HR1 := HR1x; clear HR1x
     have HR2x := Lib.hid (HR2.out.below hb); clear HR2; have HR2 := HR2x; clear HR2x
     have HTx := Lib.hid (HT.out.below hb); clear HT; have HT := HTx; clear HTx
     have HCx := Lib.hid (HC.out.below hb); clear HC; have HC := HCx; clear HCx
     have HS3x := Lib.hid (HS3.out.below hb); clear HS3; have HS3 := HS3x; clear HS3x
     have HR9x := Lib.hid (HR9.out.below hb); clear HR9; have HR9 := HR9x; clear HR9x
     have HBx := Lib.hid (HB.out.trans (hb.mono (by omega))); clear HB; have HB := HBx; clear HBx
     clear hxb_w17
     clear hb
     go_wp2_with fail
     go_ret
     exact ⟨rfl, HB.out⟩
    ·have h0d : (c0 != 0) = true := by simp [h0]
     clear h0
     go_wp2_with fail
     go_ret
     exact ⟨rfl, HB.out⟩
   ·have hn : n = (cuts.length : Int) := read_len EC.out hrb
    subst hn
    clear hrb
    by_cases h0 : c0 = 0
    ·subst h0
     have hsp := stx_ps (l := st0) (by rw [EA.out])
     rw [EA.out] at hsp
     have Hsp := Lib.hid hsp; clear hsp
     have htl := stx_len st0
     rw [EA.out] at htl
     dsimp only at htl
     have Htl := Lib.hid htl; clear htl
     go_wp2_with fail
     refine (ParseSteps_any t0 _ (by have := Htl.out; omega) HE.out).mono ?_
     rintro e' w17 ⟨r9, rfl, hR, hb⟩
     rw [Hsp.out] at hR ⊢
     dsimp only at hR ⊢
     obtain ⟨ra9, rc9, rfl, _⟩ := hR.vs.form
     have hRx := Lib.hid hR.vs; clear hR
     have hxb_w17 : ∀ o, w17.cell? ⟨w8.heap.size, o, none⟩ = (#[.int .i64 m.c, .int .i64 m.d, .int .i64 m.s, .int .i64 m.e, .int .i64 m.l, .slice ua T.length uc] : Array Value)[o]? := fun o => by rw [(bcell hb).1 _ _ (by omega), hxb_w16]
     have hz_w17 := hb.size
     have HVx := Lib.hid (HV.out.below hb); clear HV; have HV := HVx; clear HVx
     have HEx := Lib.hid (HE.out.below hb); clear HE; have HE := HEx; clear HEx
     have HS0x := Lib.hid (HS0.out.below hb); clear HS0; have HS0 := HS0x; clear HS0x
     have HR1x := Lib.hid (HR1.out.below hb); clear HR1; have HR1 := HR1x; clear HR1x
     have HR2x := Lib.hid (HR2.out.below hb); clear HR2; have HR2 := HR2x; clear HR2x
     have HTx := Lib.hid (HT.out.below hb); clear HT; have HT := HTx; clear HTx
     have HCx := Lib.hid (HC.out.below hb); clear HC; have HC := HCx; clear HCx
     have HS3x := Lib.hid (HS3.out.below hb); clear HS3; have HS3 := HS3x; clear HS3x
     have HBx := Lib.hid (HB.out.trans (hb.mono (by omega))); clear HB; have HB := HBx; clear HBx
     clear hxb_w16
     clear hb
     have HR9 := hRx; clear hRx
     go_wp2_with fail
     refine (likeSteps_w _ _ (st0) (st0) _ true (decide_eq_true rfl) HR9.out HS0.out).mono ?_
     rintro e' w18 ⟨rfl, hb⟩
     have hxb_w18 : ∀ o, w18.cell? ⟨w8.heap.size, o, none⟩ = (#[.int .i64 m.c, .int .i64 m.d, .int .i64 m.s, .int .i64 m.e, .int .i64 m.l, .slice ua T.length uc] : Array Value)[o]? := fun o => by rw [(bcell hb).1 _ _ (by omega), hxb_w17]
     have hz_w18 := hb.size
     have HVx := Lib.hid (HV.out.below hb); clear HV; have HV := HVx; clear HVx
     have HEx := Lib.hid (HE.out.below hb); clear HE; have HE := HEx; clear HEx
     have HS0x := Lib.hid (HS0.out.below hb); clear HS0; have HS0 := HS0x; clear HS0x
     have HR1x := Lib.hid (HR1.out.below hb); clear HR1; have HR1 := HR1x; clear HR1x
     have HR2x := Lib.hid (HR2.out.below hb); clear HR2; have HR2 := HR2x; clear HR2x
     have HTx := Lib.hid (HT.out.below hb); clear HT; have HT := HTx; clear HTx
     have HCx := Lib.hid (HC.out.below hb); clear HC; have HC := HCx; clear HCx
     have HS3x := Lib.hid (HS3.out.below hb); clear HS3; have HS3 := HS3x; clear HS3x
     have HR9x := Lib.hid (HR9.out.below hb); clear HR9; have HR9 := HR9x; clear HR9x
     have HBx := Lib.hid (HB.out.trans (hb.mono (by omega))); clear HB; have HB := HBx; clear HBx
     clear hxb_w17
     clear hb
     go_wp2_with fail
     go_ret
     exact ⟨rfl, HB.out⟩
    ·have h0d : (c0 != 0) = true := by simp [h0]
     clear h0
     go_wp2_with fail
     go_ret
     exact ⟨rfl, HB.out⟩
  ·have h3d : (c3 == 0) = false := by simp [h3]
   clear h3
   by_cases h0 : c0 = 0
   ·subst h0
    have hsp := stx_ps (l := st0) (by rw [EA.out])
    rw [EA.out] at hsp
    have Hsp := Lib.hid hsp; clear hsp
    have htl := stx_len st0
    rw [EA.out] at htl
    dsimp only at htl
    have Htl := Lib.hid htl; clear htl
    go_wp2_with fail
    refine (ParseSteps_any t0 _ (by have := Htl.out; omega) HE.out).mono ?_
    rintro e' w16 ⟨r9, rfl, hR, hb⟩
    rw [Hsp.out] at hR ⊢
    dsimp only at hR ⊢
    obtain ⟨ra9, rc9, rfl, _⟩ := hR.vs.form
    have hRx := Lib.hid hR.vs; clear hR
    have hxb_w16 : ∀ o, w16.cell? ⟨w8.heap.size, o, none⟩ = (#[.int .i64 m.c, .int .i64 m.d, .int .i64 m.s, .int .i64 m.e, .int .i64 m.l, .slice ua T.length uc] : Array Value)[o]? := fun o => by rw [(bcell hb).1 _ _ (by omega), hxb_w15]
    have hz_w16 := hb.size
    have HVx := Lib.hid (HV.out.below hb); clear HV; have HV := HVx; clear HVx
    have HEx := Lib.hid (HE.out.below hb); clear HE; have HE := HEx; clear HEx
    have HS0x := Lib.hid (HS0.out.below hb); clear HS0; have HS0 := HS0x; clear HS0x
    have HR1x := Lib.hid (HR1.out.below hb); clear HR1; have HR1 := HR1x; clear HR1x
    have HR2x := Lib.hid (HR2.out.below hb); clear HR2; have HR2 := HR2x; clear HR2x
    have HTx := Lib.hid (HT.out.below hb); clear HT; have HT := HTx; clear HTx
    have HCx := Lib.hid (HC.out.below hb); clear HC; have HC := HCx; clear HCx
    have HS3x := Lib.hid (HS3.out.below hb); clear HS3; have HS3 := HS3x; clear HS3x
    have HBx := Lib.hid (HB.out.trans (hb.mono (by omega))); clear HB; have HB := HBx; clear HBx
    clear hxb_w15
    clear hb
    have HR9 := hRx; clear hRx
    go_wp2_with fail
    refine (likeSteps_w _ _ (st0) (st0) _ true (decide_eq_true rfl) HR9.out HS0.out).mono ?_
    rintro e' w17 ⟨rfl, hb⟩
    have hxb_w17 : ∀ o, w17.cell? ⟨w8.heap.size, o, none⟩ = (#[.int .i64 m.c, .int .i64 m.d, .int .i64 m.s, .int .i64 m.e, .int .i64 m.l, .slice ua T.length uc] : Array Value)[o]? := fun o => by rw [(bcell hb).1 _ _ (by omega), hxb_w16]
    have hz_w17 := hb.size
    have HVx := Lib.hid (HV.out.below hb); clear HV; have HV := HVx; clear HVx
    have HEx := Lib.hid (HE.out.below hb); clear HE; have HE := HEx; clear HEx
    have HS0x := Lib.hid (HS0.out.below hb); clear HS0; have HS0 := HS0x; clear HS0x
    have HR1x := Lib.hid (HR1.out.below hb); clear HR1; have HR1 := HR1x; clear HR1x
    have HR2x := Lib.hid (HR2.out.below hb); clear HR2; have HR2 := HR2x; clear HR2x
    have HTx := Lib.hid (HT.out.below hb); clear HT; have HT := HTx; clear HTx
    have HCx := Lib.hid (HC.out.below hb); clear HC; have HC := HCx; clear HCx
    have HS3x := Lib.hid (HS3.out.below hb); clear HS3; have HS3 := HS3x; clear HS3x
    have HR9x := Lib.hid (HR9.out.below hb); clear HR9; have HR9 := HR9x; clear HR9x
    have HBx := Lib.hid (HB.out.trans (hb.mono (by omega))); clear HB; have HB := HBx; clear HBx
    clear hxb_w16
    clear hb
    go_wp2_with fail
    go_ret
    exact ⟨rfl, HB.out⟩
   ·have h0d : (c0 != 0) = true := by simp [h0]
    clear h0
    go_wp2_with fail
    go_ret
    exact ⟨rfl, HB.out⟩
end Go.Proofs.YtbekpololmahoaaGreatDoor
