/- The walk of 'laws.FnReasons'. No conditions. -/
import Derived.Test.YtmaefilliggjiaaGreatMDraw1
import Derived.Test.YtmaefilliggjiaaGreatMRefFirst
import Derived.Test.YtmaefilliggjiaaGreatMDraw34
import Derived.Test.YtmaefilliggjiaaGreatShortR
namespace Go.Proofs.YtmaefilliggjiaaGreat
open Go.RowKit
set_option linter.unusedVariables false
set_option linter.unusedSimpArgs false
set_option maxHeartbeats 4000000 in
set_option maxRecDepth 100000 in
theorem fnReasons_walk (W : World) (v : Value) (l : List Int) (h : VB (Old W) W v l) :
  Calls Tryz.prog 4 #[v] W fun e' w' => e' = .returned (.bool true) ∧ Below W.heap.size W w' := by
 have hV := h
 obtain ⟨a, c, rfl, hm⟩ := h.form
 have HV := Lib.hid hV; clear hV h
 cases hbig : decide (4096 < l.length)
 rotate_left
 ·have Hbig := Lib.hid hbig; clear hbig
  go_enter Tryz.func4, Tryz.ntmps4
  go_wp2_with fail
  refine (big_any _ l W true Hbig.out HV.out).mono ?_
  rintro e' w' ⟨rfl, hW⟩
  subst hW
  go_wp2_with fail
  go_ret
  exact ⟨rfl, Below.refl _ _⟩
 have Hbig := Lib.hid hbig; clear hbig
 go_enter Tryz.func4, Tryz.ntmps4
 go_wp2_with fail
 refine (big_any _ l W false Hbig.out HV.out).mono ?_
 rintro e' w' ⟨rfl, hW⟩
 subst hW
 have HB := Lib.hid (Below.refl W.heap.size W)
 go_wp2_with fail
 refine (DrawFirstReason_any _ l _ HV.out).mono ?_
 rintro e' w2 hD
 obtain ⟨m, u, cv, T, cuts, key, door, rfl, hu, hcv, hb⟩ := hD.open
 obtain ⟨ua, uc, rfl, _⟩ := hu.form
 obtain ⟨ca, cc, rfl, _⟩ := hcv.form
 obtain ⟨w3, hw3, hb3, hz3, _, hc3, _⟩ := box_facts w2 (#[.int .i64 m.c, .int .i64 m.d, .int .i64 m.s, .int .i64 m.e, .int .i64 m.l, .slice ua T.length uc] : Array Value) 28
 have hu := Lib.hid (hu.any.below hb3); have hcv := Lib.hid (hcv.any.below hb3)
 have Hw := Lib.hid hw3; clear hw3
 have hz_w2 := hb.size
 have HVx := Lib.hid (HV.out.below hb); clear HV; have HV := HVx; clear HVx
 have HBx := Lib.hid (HB.out.trans (hb.mono (by omega))); clear HB; have HB := HBx; clear HBx
 clear hb
 have hz_w3 := hb3.size
 have HVx := Lib.hid (HV.out.below hb3); clear HV; have HV := HVx; clear HVx
 have HBx := Lib.hid (HB.out.trans (hb3.mono (by omega))); clear HB; have HB := HBx; clear HBx
 clear hb3
 have HT := hu; clear hu; have HC := hcv; clear hcv
 have hxb_w3 := hc3; clear hc3
 have hzb := hz3; clear hz3
 go_wp2_with fail
 rw [← Hw.out]
 (try go_wp2_with fail)
 clear Hw
 obtain ⟨A, hA⟩ : ∃ x, firstReasAns m T cuts key door = x := ⟨_, rfl⟩
 have EA := Lib.hid hA; clear hA
 refine (FirstReason_any m _ _ T cuts key door _ HT.out HC.out).mono ?_
 rintro e' w4 ⟨r1, rfl, hR, hb⟩
 rw [EA.out] at hR ⊢
 obtain ⟨ra1, rc1, rfl, _⟩ := hR.v1.form
 have hxb_w4 : ∀ o, w4.cell? ⟨w2.heap.size, o, none⟩ = (#[.int .i64 m.c, .int .i64 m.d, .int .i64 m.s, .int .i64 m.e, .int .i64 m.l, .slice ua T.length uc] : Array Value)[o]? := fun o => by rw [(bcell hb).1 _ _ (by omega), hxb_w3]
 have hz_w4 := hb.size
 have HVx := Lib.hid (HV.out.below hb); clear HV; have HV := HVx; clear HVx
 have HTx := Lib.hid (HT.out.below hb); clear HT; have HT := HTx; clear HTx
 have HCx := Lib.hid (HC.out.below hb); clear HC; have HC := HCx; clear HCx
 have HBx := Lib.hid (HB.out.trans (hb.mono (by omega))); clear HB; have HB := HBx; clear HBx
 clear hxb_w3
 clear hb
 have HR1 := Lib.hid (hR.v1.any); clear hR
 go_wp2_with fail
 refine (FirstReasonR_any m _ _ T cuts key door _ HT.out HC.out).mono ?_
 rintro e' w5 ⟨r2, rfl, hR, hb⟩
 rw [EA.out] at hR ⊢
 obtain ⟨ra2, rc2, rfl, _⟩ := hR.v1.form
 have hxb_w5 : ∀ o, w5.cell? ⟨w2.heap.size, o, none⟩ = (#[.int .i64 m.c, .int .i64 m.d, .int .i64 m.s, .int .i64 m.e, .int .i64 m.l, .slice ua T.length uc] : Array Value)[o]? := fun o => by rw [(bcell hb).1 _ _ (by omega), hxb_w4]
 have hz_w5 := hb.size
 have HVx := Lib.hid (HV.out.below hb); clear HV; have HV := HVx; clear HVx
 have HTx := Lib.hid (HT.out.below hb); clear HT; have HT := HTx; clear HTx
 have HCx := Lib.hid (HC.out.below hb); clear HC; have HC := HCx; clear HCx
 have HR1x := Lib.hid (HR1.out.below hb); clear HR1; have HR1 := HR1x; clear HR1x
 have HBx := Lib.hid (HB.out.trans (hb.mono (by omega))); clear HB; have HB := HBx; clear HBx
 clear hxb_w4
 clear hb
 have HR2 := Lib.hid (hR.v1.any); clear hR
 go_wp2_with fail
 obtain ⟨B, hB⟩ : ∃ x, shortAns m T cuts key door = x := ⟨_, rfl⟩
 have EB := Lib.hid hB; clear hB
 refine (ShortReason_any m _ _ T cuts key door _ HT.out HC.out).mono ?_
 rintro e' w6 ⟨r3, rfl, hR, hb⟩
 rw [EB.out] at hR ⊢
 obtain ⟨ra3, rc3, rfl, _⟩ := hR.v1.form
 have hxb_w6 : ∀ o, w6.cell? ⟨w2.heap.size, o, none⟩ = (#[.int .i64 m.c, .int .i64 m.d, .int .i64 m.s, .int .i64 m.e, .int .i64 m.l, .slice ua T.length uc] : Array Value)[o]? := fun o => by rw [(bcell hb).1 _ _ (by omega), hxb_w5]
 have hz_w6 := hb.size
 have HVx := Lib.hid (HV.out.below hb); clear HV; have HV := HVx; clear HVx
 have HTx := Lib.hid (HT.out.below hb); clear HT; have HT := HTx; clear HTx
 have HCx := Lib.hid (HC.out.below hb); clear HC; have HC := HCx; clear HCx
 have HR1x := Lib.hid (HR1.out.below hb); clear HR1; have HR1 := HR1x; clear HR1x
 have HR2x := Lib.hid (HR2.out.below hb); clear HR2; have HR2 := HR2x; clear HR2x
 have HBx := Lib.hid (HB.out.trans (hb.mono (by omega))); clear HB; have HB := HBx; clear HBx
 clear hxb_w5
 clear hb
 have HR3 := Lib.hid (hR.v1.any); clear hR
 go_wp2_with fail
 refine (ShortReasonR_any m _ _ T cuts key door _ HT.out HC.out).mono ?_
 rintro e' w7 ⟨r4, rfl, hR, hb⟩
 rw [EB.out] at hR ⊢
 obtain ⟨ra4, rc4, rfl, _⟩ := hR.form
 have hxb_w7 : ∀ o, w7.cell? ⟨w2.heap.size, o, none⟩ = (#[.int .i64 m.c, .int .i64 m.d, .int .i64 m.s, .int .i64 m.e, .int .i64 m.l, .slice ua T.length uc] : Array Value)[o]? := fun o => by rw [(bcell hb).1 _ _ (by omega), hxb_w6]
 have hz_w7 := hb.size
 have HVx := Lib.hid (HV.out.below hb); clear HV; have HV := HVx; clear HVx
 have HTx := Lib.hid (HT.out.below hb); clear HT; have HT := HTx; clear HTx
 have HCx := Lib.hid (HC.out.below hb); clear HC; have HC := HCx; clear HCx
 have HR1x := Lib.hid (HR1.out.below hb); clear HR1; have HR1 := HR1x; clear HR1x
 have HR2x := Lib.hid (HR2.out.below hb); clear HR2; have HR2 := HR2x; clear HR2x
 have HR3x := Lib.hid (HR3.out.below hb); clear HR3; have HR3 := HR3x; clear HR3x
 have HBx := Lib.hid (HB.out.trans (hb.mono (by omega))); clear HB; have HB := HBx; clear HBx
 clear hxb_w6
 clear hb
 have HR4 := Lib.hid (hR.any); clear hR
 go_wp2_with fail
 obtain ⟨C, hC⟩ : ∃ x, cntReasAns m T cuts key door = x := ⟨_, rfl⟩
 have EC := Lib.hid hC; clear hC
 refine (CountReasons_any m _ _ T cuts key door _ HT.out HC.out).mono ?_
 rintro e' w8 ⟨rfl, hb⟩
 rw [EC.out]
 have hxb_w8 : ∀ o, w8.cell? ⟨w2.heap.size, o, none⟩ = (#[.int .i64 m.c, .int .i64 m.d, .int .i64 m.s, .int .i64 m.e, .int .i64 m.l, .slice ua T.length uc] : Array Value)[o]? := fun o => by rw [(bcell hb).1 _ _ (by omega), hxb_w7]
 have hz_w8 := hb.size
 have HVx := Lib.hid (HV.out.below hb); clear HV; have HV := HVx; clear HVx
 have HTx := Lib.hid (HT.out.below hb); clear HT; have HT := HTx; clear HTx
 have HCx := Lib.hid (HC.out.below hb); clear HC; have HC := HCx; clear HCx
 have HR1x := Lib.hid (HR1.out.below hb); clear HR1; have HR1 := HR1x; clear HR1x
 have HR2x := Lib.hid (HR2.out.below hb); clear HR2; have HR2 := HR2x; clear HR2x
 have HR3x := Lib.hid (HR3.out.below hb); clear HR3; have HR3 := HR3x; clear HR3x
 have HR4x := Lib.hid (HR4.out.below hb); clear HR4; have HR4 := HR4x; clear HR4x
 have HBx := Lib.hid (HB.out.trans (hb.mono (by omega))); clear HB; have HB := HBx; clear HBx
 clear hxb_w7
 clear hb
 go_wp2_with fail
 refine (CountReasonsR_any m _ _ T cuts key door _ HT.out HC.out).mono ?_
 rintro e' w9 ⟨rfl, hb⟩
 rw [EC.out]
 have hxb_w9 : ∀ o, w9.cell? ⟨w2.heap.size, o, none⟩ = (#[.int .i64 m.c, .int .i64 m.d, .int .i64 m.s, .int .i64 m.e, .int .i64 m.l, .slice ua T.length uc] : Array Value)[o]? := fun o => by rw [(bcell hb).1 _ _ (by omega), hxb_w8]
 have hz_w9 := hb.size
 have HVx := Lib.hid (HV.out.below hb); clear HV; have HV := HVx; clear HVx
 have HTx := Lib.hid (HT.out.below hb); clear HT; have HT := HTx; clear HTx
 have HCx := Lib.hid (HC.out.below hb); clear HC; have HC := HCx; clear HCx
 have HR1x := Lib.hid (HR1.out.below hb); clear HR1; have HR1 := HR1x; clear HR1x
 have HR2x := Lib.hid (HR2.out.below hb); clear HR2; have HR2 := HR2x; clear HR2x
 have HR3x := Lib.hid (HR3.out.below hb); clear HR3; have HR3 := HR3x; clear HR3x
 have HR4x := Lib.hid (HR4.out.below hb); clear HR4; have HR4 := HR4x; clear HR4x
 have HBx := Lib.hid (HB.out.trans (hb.mono (by omega))); clear HB; have HB := HBx; clear HBx
 clear hxb_w8
 clear hb
 go_wp2_with fail
 refine (DrawIsReason_any _ l _ HV.out).mono ?_
 rintro e' w10 hD
 obtain ⟨mx, ux, cvx, Tx, cutsx, keyx, doorx, kvx, rsx, rfl, hk, hu, hcv, hb⟩ := hD.open
 obtain ⟨uax, ucx, rfl, _⟩ := hu.form
 obtain ⟨cax, ccx, rfl, _⟩ := hcv.form
 obtain ⟨xax, xcx, rfl, _⟩ := hk.form
 obtain ⟨w11, hw3, hb3, hz3, _, hc3, _⟩ := box_facts w10 (#[.int .i64 mx.c, .int .i64 mx.d, .int .i64 mx.s, .int .i64 mx.e, .int .i64 mx.l, .slice uax Tx.length ucx] : Array Value) 28
 have hu := Lib.hid (hu.any.below hb3); have hcv := Lib.hid (hcv.any.below hb3)
 have HXx := Lib.hid (hk.any.below hb3); clear hk
 have Hw := Lib.hid hw3; clear hw3
 have hxb_w10 : ∀ o, w10.cell? ⟨w2.heap.size, o, none⟩ = (#[.int .i64 m.c, .int .i64 m.d, .int .i64 m.s, .int .i64 m.e, .int .i64 m.l, .slice ua T.length uc] : Array Value)[o]? := fun o => by rw [(bcell hb).1 _ _ (by omega), hxb_w9]
 have hz_w10 := hb.size
 have HVx := Lib.hid (HV.out.below hb); clear HV; have HV := HVx; clear HVx
 have HTx := Lib.hid (HT.out.below hb); clear HT; have HT := HTx; clear HTx
 have HCx := Lib.hid (HC.out.below hb); clear HC; have HC := HCx; clear HCx
 have HR1x := Lib.hid (HR1.out.below hb); clear HR1; have HR1 := HR1x; clear HR1x
 have HR2x := Lib.hid (HR2.out.below hb); clear HR2; have HR2 := HR2x; clear HR2x
 have HR3x := Lib.hid (HR3.out.below hb); clear HR3; have HR3 := HR3x; clear HR3x
 have HR4x := Lib.hid (HR4.out.below hb); clear HR4; have HR4 := HR4x; clear HR4x
 have HBx := Lib.hid (HB.out.trans (hb.mono (by omega))); clear HB; have HB := HBx; clear HBx
 clear hxb_w9
 clear hb
 have hxb_w11 : ∀ o, w11.cell? ⟨w2.heap.size, o, none⟩ = (#[.int .i64 m.c, .int .i64 m.d, .int .i64 m.s, .int .i64 m.e, .int .i64 m.l, .slice ua T.length uc] : Array Value)[o]? := fun o => by rw [(bcell hb3).1 _ _ (by omega), hxb_w10]
 have hz_w11 := hb3.size
 have HVx := Lib.hid (HV.out.below hb3); clear HV; have HV := HVx; clear HVx
 have HTx := Lib.hid (HT.out.below hb3); clear HT; have HT := HTx; clear HTx
 have HCx := Lib.hid (HC.out.below hb3); clear HC; have HC := HCx; clear HCx
 have HR1x := Lib.hid (HR1.out.below hb3); clear HR1; have HR1 := HR1x; clear HR1x
 have HR2x := Lib.hid (HR2.out.below hb3); clear HR2; have HR2 := HR2x; clear HR2x
 have HR3x := Lib.hid (HR3.out.below hb3); clear HR3; have HR3 := HR3x; clear HR3x
 have HR4x := Lib.hid (HR4.out.below hb3); clear HR4; have HR4 := HR4x; clear HR4x
 have HBx := Lib.hid (HB.out.trans (hb3.mono (by omega))); clear HB; have HB := HBx; clear HBx
 clear hxb_w10
 clear hb3
 have HTx := hu; clear hu; have HCx := hcv; clear hcv
 have hxbx_w11 := hc3; clear hc3
 have hzbx := hz3; clear hz3
 go_wp2_with fail
 rw [← Hw.out]
 (try go_wp2_with fail)
 clear Hw
 obtain ⟨D, hD⟩ : ∃ x, isReasAns mx Tx cutsx keyx doorx rsx = x := ⟨_, rfl⟩
 have ED := Lib.hid hD; clear hD
 refine (IsReason_any mx _ _ _ Tx cutsx rsx keyx doorx _ HTx.out HCx.out HXx.out).mono ?_
 rintro e' w12 ⟨rfl, hb⟩
 rw [ED.out]
 have hxb_w12 : ∀ o, w12.cell? ⟨w2.heap.size, o, none⟩ = (#[.int .i64 m.c, .int .i64 m.d, .int .i64 m.s, .int .i64 m.e, .int .i64 m.l, .slice ua T.length uc] : Array Value)[o]? := fun o => by rw [(bcell hb).1 _ _ (by omega), hxb_w11]
 have hxbx_w12 : ∀ o, w12.cell? ⟨w10.heap.size, o, none⟩ = (#[.int .i64 mx.c, .int .i64 mx.d, .int .i64 mx.s, .int .i64 mx.e, .int .i64 mx.l, .slice uax Tx.length ucx] : Array Value)[o]? := fun o => by rw [(bcell hb).1 _ _ (by omega), hxbx_w11]
 have hz_w12 := hb.size
 have HVx := Lib.hid (HV.out.below hb); clear HV; have HV := HVx; clear HVx
 have HTx := Lib.hid (HT.out.below hb); clear HT; have HT := HTx; clear HTx
 have HCx := Lib.hid (HC.out.below hb); clear HC; have HC := HCx; clear HCx
 have HR1x := Lib.hid (HR1.out.below hb); clear HR1; have HR1 := HR1x; clear HR1x
 have HR2x := Lib.hid (HR2.out.below hb); clear HR2; have HR2 := HR2x; clear HR2x
 have HR3x := Lib.hid (HR3.out.below hb); clear HR3; have HR3 := HR3x; clear HR3x
 have HR4x := Lib.hid (HR4.out.below hb); clear HR4; have HR4 := HR4x; clear HR4x
 have HTxx := Lib.hid (HTx.out.below hb); clear HTx; have HTx := HTxx; clear HTxx
 have HCxx := Lib.hid (HCx.out.below hb); clear HCx; have HCx := HCxx; clear HCxx
 have HXxx := Lib.hid (HXx.out.below hb); clear HXx; have HXx := HXxx; clear HXxx
 have HBx := Lib.hid (HB.out.trans (hb.mono (by omega))); clear HB; have HB := HBx; clear HBx
 clear hxb_w11
 clear hxbx_w11
 clear hb
 go_wp2_with fail
 refine (IsReasonR_any mx _ _ _ Tx cutsx rsx keyx doorx _ HTx.out HCx.out HXx.out).mono ?_
 rintro e' w13 ⟨rfl, hb⟩
 rw [ED.out]
 have hxb_w13 : ∀ o, w13.cell? ⟨w2.heap.size, o, none⟩ = (#[.int .i64 m.c, .int .i64 m.d, .int .i64 m.s, .int .i64 m.e, .int .i64 m.l, .slice ua T.length uc] : Array Value)[o]? := fun o => by rw [(bcell hb).1 _ _ (by omega), hxb_w12]
 have hxbx_w13 : ∀ o, w13.cell? ⟨w10.heap.size, o, none⟩ = (#[.int .i64 mx.c, .int .i64 mx.d, .int .i64 mx.s, .int .i64 mx.e, .int .i64 mx.l, .slice uax Tx.length ucx] : Array Value)[o]? := fun o => by rw [(bcell hb).1 _ _ (by omega), hxbx_w12]
 have hz_w13 := hb.size
 have HVx := Lib.hid (HV.out.below hb); clear HV; have HV := HVx; clear HVx
 have HTx := Lib.hid (HT.out.below hb); clear HT; have HT := HTx; clear HTx
 have HCx := Lib.hid (HC.out.below hb); clear HC; have HC := HCx; clear HCx
 have HR1x := Lib.hid (HR1.out.below hb); clear HR1; have HR1 := HR1x; clear HR1x
 have HR2x := Lib.hid (HR2.out.below hb); clear HR2; have HR2 := HR2x; clear HR2x
 have HR3x := Lib.hid (HR3.out.below hb); clear HR3; have HR3 := HR3x; clear HR3x
 have HR4x := Lib.hid (HR4.out.below hb); clear HR4; have HR4 := HR4x; clear HR4x
 have HTxx := Lib.hid (HTx.out.below hb); clear HTx; have HTx := HTxx; clear HTxx
 have HCxx := Lib.hid (HCx.out.below hb); clear HCx; have HCx := HCxx; clear HCxx
 have HXxx := Lib.hid (HXx.out.below hb); clear HXx; have HXx := HXxx; clear HXxx
 have HBx := Lib.hid (HB.out.trans (hb.mono (by omega))); clear HB; have HB := HBx; clear HBx
 clear hxb_w12
 clear hxbx_w12
 clear hb
 go_wp2_with fail
 refine (likeInts_w _ _ (A.1) (A.1) _ true (decide_eq_true rfl) HR1.out HR2.out).mono ?_
 rintro e' w14 ⟨rfl, hb⟩
 have hxb_w14 : ∀ o, w14.cell? ⟨w2.heap.size, o, none⟩ = (#[.int .i64 m.c, .int .i64 m.d, .int .i64 m.s, .int .i64 m.e, .int .i64 m.l, .slice ua T.length uc] : Array Value)[o]? := fun o => by rw [(bcell hb).1 _ _ (by omega), hxb_w13]
 have hxbx_w14 : ∀ o, w14.cell? ⟨w10.heap.size, o, none⟩ = (#[.int .i64 mx.c, .int .i64 mx.d, .int .i64 mx.s, .int .i64 mx.e, .int .i64 mx.l, .slice uax Tx.length ucx] : Array Value)[o]? := fun o => by rw [(bcell hb).1 _ _ (by omega), hxbx_w13]
 have hz_w14 := hb.size
 have HVx := Lib.hid (HV.out.below hb); clear HV; have HV := HVx; clear HVx
 have HTx := Lib.hid (HT.out.below hb); clear HT; have HT := HTx; clear HTx
 have HCx := Lib.hid (HC.out.below hb); clear HC; have HC := HCx; clear HCx
 have HR1x := Lib.hid (HR1.out.below hb); clear HR1; have HR1 := HR1x; clear HR1x
 have HR2x := Lib.hid (HR2.out.below hb); clear HR2; have HR2 := HR2x; clear HR2x
 have HR3x := Lib.hid (HR3.out.below hb); clear HR3; have HR3 := HR3x; clear HR3x
 have HR4x := Lib.hid (HR4.out.below hb); clear HR4; have HR4 := HR4x; clear HR4x
 have HTxx := Lib.hid (HTx.out.below hb); clear HTx; have HTx := HTxx; clear HTxx
 have HCxx := Lib.hid (HCx.out.below hb); clear HCx; have HCx := HCxx; clear HCxx
 have HXxx := Lib.hid (HXx.out.below hb); clear HXx; have HXx := HXxx; clear HXxx
 have HBx := Lib.hid (HB.out.trans (hb.mono (by omega))); clear HB; have HB := HBx; clear HBx
 clear hxb_w13
 clear hxbx_w13
 clear hb
 go_wp2_with fail
 refine (likeInts_w _ _ (B.1) (B.1) _ true (decide_eq_true rfl) HR3.out HR4.out).mono ?_
 rintro e' w15 ⟨rfl, hb⟩
 have hxb_w15 : ∀ o, w15.cell? ⟨w2.heap.size, o, none⟩ = (#[.int .i64 m.c, .int .i64 m.d, .int .i64 m.s, .int .i64 m.e, .int .i64 m.l, .slice ua T.length uc] : Array Value)[o]? := fun o => by rw [(bcell hb).1 _ _ (by omega), hxb_w14]
 have hxbx_w15 : ∀ o, w15.cell? ⟨w10.heap.size, o, none⟩ = (#[.int .i64 mx.c, .int .i64 mx.d, .int .i64 mx.s, .int .i64 mx.e, .int .i64 mx.l, .slice uax Tx.length ucx] : Array Value)[o]? := fun o => by rw [(bcell hb).1 _ _ (by omega), hxbx_w14]
 have hz_w15 := hb.size
 have HVx := Lib.hid (HV.out.below hb); clear HV; have HV := HVx; clear HVx
 have HTx := Lib.hid (HT.out.below hb); clear HT; have HT := HTx; clear HTx
 have HCx := Lib.hid (HC.out.below hb); clear HC; have HC := HCx; clear HCx
 have HR1x := Lib.hid (HR1.out.below hb); clear HR1; have HR1 := HR1x; clear HR1x
 have HR2x := Lib.hid (HR2.out.below hb); clear HR2; have HR2 := HR2x; clear HR2x
 have HR3x := Lib.hid (HR3.out.below hb); clear HR3; have HR3 := HR3x; clear HR3x
 have HR4x := Lib.hid (HR4.out.below hb); clear HR4; have HR4 := HR4x; clear HR4x
 have HTxx := Lib.hid (HTx.out.below hb); clear HTx; have HTx := HTxx; clear HTxx
 have HCxx := Lib.hid (HCx.out.below hb); clear HCx; have HCx := HCxx; clear HCxx
 have HXxx := Lib.hid (HXx.out.below hb); clear HXx; have HXx := HXxx; clear HXxx
 have HBx := Lib.hid (HB.out.trans (hb.mono (by omega))); clear HB; have HB := HBx; clear HBx
 clear hxb_w14
 clear hxbx_w14
 clear hb
 have hlaw := reas_law EC.out
 rw [EA.out, EB.out] at hlaw
 have hia : ∀ rs, isReasAns m T cuts key door rs = isReasAns m T cuts key door rs := fun _ => rfl
 by_cases hc : C.2 = 0
 rotate_left
 ·skip
  have had : (C.2 != 0) = true := by simp [hc]
  obtain ⟨h1, h2⟩ := hlaw.1 hc
  rw [h1, h2]
  clear hlaw hia hc h1 h2
  go_wp2_with fail
  go_ret
  exact ⟨rfl, HB.out⟩
 have hlaw := hlaw.2 hc
 obtain ⟨k, d, rfl, rfl, hk, hd, hpc, hop, hz, hnz, hge⟩ := hlaw
 have hf := fits_of hpc
 have hkey := hf.keys k hk
 have hda : openDAns m T cuts (getl cuts k) = (doorsOf (locksTo m.c.toNat T cuts (getl T 0).length) (getl cuts k), 0) := by
  unfold openDAns; rw [if_neg (by rw [hpc]; decide), if_neg (by rw [hkey]; decide)]
 have hin : hasI (doorsOf (locksTo m.c.toNat T cuts (getl T 0).length) (getl cuts k)) (d : Int) = decide (0 < C.1) := by
  rw [← hop, Bool.eq_iff_iff, hasI_iff]
  unfold doorsOf
  rw [mem_doorsTo, locksTo_len]
  constructor
  ·rintro ⟨d', h1, h2, h3⟩
   have e : d' = d := by omega
   subst e
   rw [locksTo_get hd] at h3; exact h3
  ·intro h3
   exact ⟨d, hd, rfl, by rw [locksTo_get hd]; exact h3⟩
 obtain ⟨DL, hDL⟩ : ∃ x, doorsOf (locksTo m.c.toNat T cuts (getl T 0).length) (getl cuts k) = x := ⟨_, rfl⟩
 rw [hDL] at hda hin
 obtain ⟨q, hq⟩ : ∃ q, decide (0 < C.1) = q := ⟨_, rfl⟩
 rw [hq] at hin
 have hC2 : (C.2 != 0) = false := by simp [hc]
 have Hin := Lib.hid (And.intro hin (And.intro hda (And.intro hz (And.intro hnz (And.intro hge hq))))); clear hin hda hz hnz hge hop hf hkey hpc hDL hia hd
 obtain ⟨A1, A2⟩ := A
 obtain ⟨B1, B2⟩ := B
 obtain ⟨C1, C2⟩ := C
 dsimp only at *
 subst hc
 clear hC2
 obtain ⟨bq, oq, qa, qc, hcae, _, hcq, hrow⟩ := HC.out.cell hk
 obtain ⟨KK, hKK⟩ : ∃ x, getl cuts k = x := ⟨_, rfl⟩
 rw [hKK] at hcq hrow
 have HRow := Lib.hid (And.intro hrow.any hKK); clear hrow hKK
 subst hcae
 have hkn : ¬ cuts.length ≤ k := by omega
 have hkd : decide ((k : Int) < (cuts.length : Int)) = true := decide_eq_true (by omega)
 have hbD : Below w15.heap.size w15 w15.drew := (Below.refl _ _).drew
 have hS2 : ∀ w' : World, w'.heap[w2.heap.size]? = w15.heap[w2.heap.size]? → w'.heap[bq]? = w15.heap[bq]? → (w'.cell? ⟨w2.heap.size, 0, none⟩ = some (.int .i64 m.c) ∧ w'.cell? ⟨w2.heap.size, 1, none⟩ = some (.int .i64 m.d) ∧ w'.cell? ⟨w2.heap.size, 2, none⟩ = some (.int .i64 m.s) ∧ w'.cell? ⟨w2.heap.size, 3, none⟩ = some (.int .i64 m.e) ∧ w'.cell? ⟨w2.heap.size, 4, none⟩ = some (.int .i64 m.l) ∧ w'.cell? ⟨w2.heap.size, 5, none⟩ = some (.slice ua T.length uc)) ∧ w'.cell? ⟨bq, oq + k, none⟩ = some (.slice qa KK.length qc) := fun w' h1 h2 => ⟨by refine ⟨?_, ?_, ?_, ?_, ?_, ?_⟩ <;> exact cell_keep (hxb_w15 _) h1, cell_keep hcq h2⟩
 go_wp2_with fail
 refine wp_region_noPanic ?_
 refine wp_region_held_drew (S := fun w' => (w'.cell? ⟨w2.heap.size, 0, none⟩ = some (.int .i64 m.c) ∧ w'.cell? ⟨w2.heap.size, 1, none⟩ = some (.int .i64 m.d) ∧ w'.cell? ⟨w2.heap.size, 2, none⟩ = some (.int .i64 m.s) ∧ w'.cell? ⟨w2.heap.size, 3, none⟩ = some (.int .i64 m.e) ∧ w'.cell? ⟨w2.heap.size, 4, none⟩ = some (.int .i64 m.l) ∧ w'.cell? ⟨w2.heap.size, 5, none⟩ = some (.slice ua T.length uc)) ∧ w'.cell? ⟨bq, oq + k, none⟩ = some (.slice qa KK.length qc)) (by kernel_rfl) (hS2 w15.drew rfl rfl) (fun hHeld => ?_)
 (refine wpAnyH_take (i := 0) (v := .agg #[.int .i64 m.c, .int .i64 m.d, .int .i64 m.s, .int .i64 m.e, .int .i64 m.l, .slice ua T.length uc]) rfl (by kernel_rfl) (by kernel_rfl) (by kernel_rfl) (fun _ _ _ h => h) (Or.inl ⟨by kernel_rfl, fun w hSw => by (try dsimp only at hSw); go_split_ands; go_simp⟩) (by assumption) ?_; simp only [Act.put, List.setIfInBounds_toArray, List.set_cons_zero, List.set_cons_succ])
 (refine wpAnyH_take (i := 1) (v := .slice (some ⟨bq, oq, none⟩) cuts.length cc) rfl (by kernel_rfl) (by kernel_rfl) (by kernel_rfl) (fun _ _ _ h => h) (Or.inl ⟨by kernel_rfl, fun w hSw => by (try dsimp only at hSw); go_split_ands; go_simp⟩) (by assumption) ?_; simp only [Act.put, List.setIfInBounds_toArray, List.set_cons_zero, List.set_cons_succ])
 (refine wpAnyH_take (i := 2) (v := .slice (some ⟨bq, oq, none⟩) cuts.length cc) rfl (by kernel_rfl) (by kernel_rfl) (by kernel_rfl) (fun _ _ _ h => h) (Or.inl ⟨by kernel_rfl, fun w hSw => by (try dsimp only at hSw); go_split_ands; go_simp⟩) (by assumption) ?_; simp only [Act.put, List.setIfInBounds_toArray, List.set_cons_zero, List.set_cons_succ])
 (refine wpAnyH_take (i := 3) (v := .int .i64 (k : Int)) rfl (by kernel_rfl) (by kernel_rfl) (by kernel_rfl) (fun _ _ _ h => h) (Or.inl ⟨by kernel_rfl, fun w hSw => by (try dsimp only at hSw); go_split_ands; go_simp⟩) (by assumption) ?_; simp only [Act.put, List.setIfInBounds_toArray, List.set_cons_zero, List.set_cons_succ])
 (refine wpAnyH_take (i := 4) (v := .pointer (some ⟨bq, oq + k, none⟩)) rfl (by kernel_rfl) (by kernel_rfl) (by kernel_rfl) (fun _ _ _ h => h) (Or.inl ⟨by kernel_rfl, fun w hSw => by (try dsimp only at hSw); go_split_ands; go_simp⟩) (by assumption) ?_; simp only [Act.put, List.setIfInBounds_toArray, List.set_cons_zero, List.set_cons_succ])
 (refine wpAnyH_take (i := 5) (v := .slice qa KK.length qc) rfl (by kernel_rfl) (by kernel_rfl) (by kernel_rfl) (fun _ _ _ h => h) (Or.inl ⟨by kernel_rfl, fun w hSw => by (try dsimp only at hSw); go_split_ands; go_simp⟩) (by assumption) ?_; simp only [Act.put, List.setIfInBounds_toArray, List.set_cons_zero, List.set_cons_succ])
 refine wpAnyH_ready (rs := [6]) (by kernel_rfl) (by simp) (AllReadyH.cons rfl (fun K hK => ?_) AllReadyH.nil)
 go_simp
 go_at_call 30
 refine (OpenDoors_any m _ _ _ T cuts KK _ (HT.out.below hbD) (HC.out.below hbD) (HRow.out.1.below hbD)).mono ?_
 rintro e' w16 ⟨dv, rfl, hR, hb3⟩
 have hda := Hin.out.2.1
 rw [HRow.out.2] at hda
 rw [hda] at hR ⊢
 obtain ⟨da, dc, rfl, _⟩ := hR.v1.form
 have hb := hbD.trans (hb3.mono (Nat.le_refl _))
 have hbql := lt_of_cell hcq
 have hSz := hS2 w16 (hb.block _ (by omega)) (hb.block _ hbql)
 have HR5 := Lib.hid hR.v1.any; clear hR hb3 hda hcq
 have hxb_w16 : ∀ o, w16.cell? ⟨w2.heap.size, o, none⟩ = (#[.int .i64 m.c, .int .i64 m.d, .int .i64 m.s, .int .i64 m.e, .int .i64 m.l, .slice ua T.length uc] : Array Value)[o]? := fun o => by rw [(bcell hb).1 _ _ (by omega), hxb_w15]
 have hxbx_w16 : ∀ o, w16.cell? ⟨w10.heap.size, o, none⟩ = (#[.int .i64 mx.c, .int .i64 mx.d, .int .i64 mx.s, .int .i64 mx.e, .int .i64 mx.l, .slice uax Tx.length ucx] : Array Value)[o]? := fun o => by rw [(bcell hb).1 _ _ (by omega), hxbx_w15]
 have hz_w16 := hb.size
 have HVx := Lib.hid (HV.out.below hb); clear HV; have HV := HVx; clear HVx
 have HTx := Lib.hid (HT.out.below hb); clear HT; have HT := HTx; clear HTx
 have HCx := Lib.hid (HC.out.below hb); clear HC; have HC := HCx; clear HCx
 have HR1x := Lib.hid (HR1.out.below hb); clear HR1; have HR1 := HR1x; clear HR1x
 have HR2x := Lib.hid (HR2.out.below hb); clear HR2; have HR2 := HR2x; clear HR2x
 have HR3x := Lib.hid (HR3.out.below hb); clear HR3; have HR3 := HR3x; clear HR3x
 have HR4x := Lib.hid (HR4.out.below hb); clear HR4; have HR4 := HR4x; clear HR4x
 have HTxx := Lib.hid (HTx.out.below hb); clear HTx; have HTx := HTxx; clear HTxx
 have HCxx := Lib.hid (HCx.out.below hb); clear HCx; have HCx := HCxx; clear HCxx
 have HXxx := Lib.hid (HXx.out.below hb); clear HXx; have HXx := HXxx; clear HXxx
 have HBx := Lib.hid (HB.out.trans (hb.mono (by omega))); clear HB; have HB := HBx; clear HBx
 clear hxb_w15
 clear hxbx_w15
 clear hb
 dsimp only
 (refine hK.out _ _ hSz (fun hHeld => ?_); clear hK K; (try simp only [Act.put, List.setIfInBounds_toArray, List.set_cons_zero, List.set_cons_succ]))
 (refine wpAnyH_take (i := 7) (v := .tuple #[.slice da DL.length dc, .int .i64 0]) rfl (by kernel_rfl) (by kernel_rfl) (by kernel_rfl) (fun _ _ _ h => h) (Or.inl ⟨by kernel_rfl, fun w hSw => by (try dsimp only at hSw); go_split_ands; go_simp⟩) (by assumption) ?_; simp only [Act.put, List.setIfInBounds_toArray, List.set_cons_zero, List.set_cons_succ])
 (refine wpAnyH_take (i := 8) (v := .slice da DL.length dc) rfl (by kernel_rfl) (by kernel_rfl) (by kernel_rfl) (fun _ _ _ h => h) (Or.inl ⟨by kernel_rfl, fun w hSw => by (try dsimp only at hSw); go_split_ands; go_simp⟩) (by assumption) ?_; simp only [Act.put, List.setIfInBounds_toArray, List.set_cons_zero, List.set_cons_succ])
 (refine wpAnyH_take (i := 9) (v := .int .i64 0) rfl (by kernel_rfl) (by kernel_rfl) (by kernel_rfl) (fun _ _ _ h => h) (Or.inl ⟨by kernel_rfl, fun w hSw => by (try dsimp only at hSw); go_split_ands; go_simp⟩) (by assumption) ?_; simp only [Act.put, List.setIfInBounds_toArray, List.set_cons_zero, List.set_cons_succ])
 (refine wpAnyH_ready (rs := [10]) (by kernel_rfl) (by simp) (AllReadyH.cons rfl (fun K hK => ?_) AllReadyH.nil); go_simp)
 (refine hK.out _ _ hSz (fun hHeld => ?_); clear hK K; (try simp only [Act.put, List.setIfInBounds_toArray, List.set_cons_zero, List.set_cons_succ]))
 (refine wpAnyH_ready (rs := [11]) (by kernel_rfl) (by simp) (AllReadyH.cons rfl (fun K hK => ?_) AllReadyH.nil); go_simp)
 (refine hK.out _ _ hSz (fun hHeld => ?_); clear hK K; (try simp only [Act.put, List.setIfInBounds_toArray, List.set_cons_zero, List.set_cons_succ]))
 refine wpAnyH_done (by kernel_rfl) (NoPanic.normal ?_) _
 clear hHeld hSz hS2 hbD
 go_wp2_with fail
 refine (hasInt_b _ DL (d : Int) _ q Hin.out.1 HR5.out).mono ?_
 rintro e' w' ⟨rfl, hw⟩
 subst hw
 by_cases hc0 : C1 = 0
 ·skip
  obtain ⟨n1, n2⟩ := Hin.out.2.2.1 hc0
  have hA0 : (A2 == 0) = false := by simp [n1]
  have hB0 : (B2 == 0) = false := by simp [n2]
  have hq0 : q = false := by rw [← Hin.out.2.2.2.2.2, hc0]; rfl
  subst hc0 hq0
  clear n1 n2
  go_wp2_with fail
  go_ret
  exact ⟨rfl, HB.out⟩
 obtain ⟨n1, n2, n3, n4, n5, n6, n7⟩ := Hin.out.2.2.2.1 hc0
 have hCp : 0 < C1 := by have := Hin.out.2.2.2.2.1; omega
 have hCd : decide (0 < C1) = true := decide_eq_true hCp
 have hC0 : (C1 == 0) = false := by simp [hc0]
 have hq0 : q = true := by rw [← Hin.out.2.2.2.2.2]; exact hCd
 subst hq0
 subst n1
 subst n2
 clear hc0
 have HN := Lib.hid (And.intro n3 (And.intro n4 (And.intro n5 (And.intro n6 n7)))); clear n3 n4 n5 n6 n7
 go_wp2_with fail
 refine (IsReason_any m _ _ _ T cuts A1 (k : Int) (d : Int) _ HT.out HC.out HR1.out).mono ?_
 rintro e' w17 ⟨rfl, hb⟩
 rw [HN.out.1]
 have hxb_w17 : ∀ o, w17.cell? ⟨w2.heap.size, o, none⟩ = (#[.int .i64 m.c, .int .i64 m.d, .int .i64 m.s, .int .i64 m.e, .int .i64 m.l, .slice ua T.length uc] : Array Value)[o]? := fun o => by rw [(bcell hb).1 _ _ (by omega), hxb_w16]
 have hxbx_w17 : ∀ o, w17.cell? ⟨w10.heap.size, o, none⟩ = (#[.int .i64 mx.c, .int .i64 mx.d, .int .i64 mx.s, .int .i64 mx.e, .int .i64 mx.l, .slice uax Tx.length ucx] : Array Value)[o]? := fun o => by rw [(bcell hb).1 _ _ (by omega), hxbx_w16]
 have hz_w17 := hb.size
 have HVx := Lib.hid (HV.out.below hb); clear HV; have HV := HVx; clear HVx
 have HTx := Lib.hid (HT.out.below hb); clear HT; have HT := HTx; clear HTx
 have HCx := Lib.hid (HC.out.below hb); clear HC; have HC := HCx; clear HCx
 have HR1x := Lib.hid (HR1.out.below hb); clear HR1; have HR1 := HR1x; clear HR1x
 have HR2x := Lib.hid (HR2.out.below hb); clear HR2; have HR2 := HR2x; clear HR2x
 have HR3x := Lib.hid (HR3.out.below hb); clear HR3; have HR3 := HR3x; clear HR3x
 have HR4x := Lib.hid (HR4.out.below hb); clear HR4; have HR4 := HR4x; clear HR4x
 have HTxx := Lib.hid (HTx.out.below hb); clear HTx; have HTx := HTxx; clear HTxx
 have HCxx := Lib.hid (HCx.out.below hb); clear HCx; have HCx := HCxx; clear HCxx
 have HXxx := Lib.hid (HXx.out.below hb); clear HXx; have HXx := HXxx; clear HXxx
 have HR5x := Lib.hid (HR5.out.below hb); clear HR5; have HR5 := HR5x; clear HR5x
 have HBx := Lib.hid (HB.out.trans (hb.mono (by omega))); clear HB; have HB := HBx; clear HBx
 clear hxb_w16
 clear hxbx_w16
 clear hb
 go_wp2_with fail
 refine (IsReason_any m _ _ _ T cuts B1 (k : Int) (d : Int) _ HT.out HC.out HR3.out).mono ?_
 rintro e' w18 ⟨rfl, hb⟩
 rw [HN.out.2.1]
 have hxb_w18 : ∀ o, w18.cell? ⟨w2.heap.size, o, none⟩ = (#[.int .i64 m.c, .int .i64 m.d, .int .i64 m.s, .int .i64 m.e, .int .i64 m.l, .slice ua T.length uc] : Array Value)[o]? := fun o => by rw [(bcell hb).1 _ _ (by omega), hxb_w17]
 have hxbx_w18 : ∀ o, w18.cell? ⟨w10.heap.size, o, none⟩ = (#[.int .i64 mx.c, .int .i64 mx.d, .int .i64 mx.s, .int .i64 mx.e, .int .i64 mx.l, .slice uax Tx.length ucx] : Array Value)[o]? := fun o => by rw [(bcell hb).1 _ _ (by omega), hxbx_w17]
 have hz_w18 := hb.size
 have HVx := Lib.hid (HV.out.below hb); clear HV; have HV := HVx; clear HVx
 have HTx := Lib.hid (HT.out.below hb); clear HT; have HT := HTx; clear HTx
 have HCx := Lib.hid (HC.out.below hb); clear HC; have HC := HCx; clear HCx
 have HR1x := Lib.hid (HR1.out.below hb); clear HR1; have HR1 := HR1x; clear HR1x
 have HR2x := Lib.hid (HR2.out.below hb); clear HR2; have HR2 := HR2x; clear HR2x
 have HR3x := Lib.hid (HR3.out.below hb); clear HR3; have HR3 := HR3x; clear HR3x
 have HR4x := Lib.hid (HR4.out.below hb); clear HR4; have HR4 := HR4x; clear HR4x
 have HTxx := Lib.hid (HTx.out.below hb); clear HTx; have HTx := HTxx; clear HTxx
 have HCxx := Lib.hid (HCx.out.below hb); clear HCx; have HCx := HCxx; clear HCxx
 have HXxx := Lib.hid (HXx.out.below hb); clear HXx; have HXx := HXxx; clear HXxx
 have HR5x := Lib.hid (HR5.out.below hb); clear HR5; have HR5 := HR5x; clear HR5x
 have HBx := Lib.hid (HB.out.trans (hb.mono (by omega))); clear HB; have HB := HBx; clear HBx
 clear hxb_w17
 clear hxbx_w17
 clear hb
 go_wp2_with fail
 refine (RowsOf_any _ A1 _ HR1.out).mono ?_
 rintro e' w19 ⟨r6, rfl, hR, hb⟩
 rw [HN.out.2.2.1] at hR ⊢
 obtain ⟨ra6, rc6, rfl, _⟩ := hR.v1.form
 clear hR
 have hxb_w19 : ∀ o, w19.cell? ⟨w2.heap.size, o, none⟩ = (#[.int .i64 m.c, .int .i64 m.d, .int .i64 m.s, .int .i64 m.e, .int .i64 m.l, .slice ua T.length uc] : Array Value)[o]? := fun o => by rw [(bcell hb).1 _ _ (by omega), hxb_w18]
 have hxbx_w19 : ∀ o, w19.cell? ⟨w10.heap.size, o, none⟩ = (#[.int .i64 mx.c, .int .i64 mx.d, .int .i64 mx.s, .int .i64 mx.e, .int .i64 mx.l, .slice uax Tx.length ucx] : Array Value)[o]? := fun o => by rw [(bcell hb).1 _ _ (by omega), hxbx_w18]
 have hz_w19 := hb.size
 have HVx := Lib.hid (HV.out.below hb); clear HV; have HV := HVx; clear HVx
 have HTx := Lib.hid (HT.out.below hb); clear HT; have HT := HTx; clear HTx
 have HCx := Lib.hid (HC.out.below hb); clear HC; have HC := HCx; clear HCx
 have HR1x := Lib.hid (HR1.out.below hb); clear HR1; have HR1 := HR1x; clear HR1x
 have HR2x := Lib.hid (HR2.out.below hb); clear HR2; have HR2 := HR2x; clear HR2x
 have HR3x := Lib.hid (HR3.out.below hb); clear HR3; have HR3 := HR3x; clear HR3x
 have HR4x := Lib.hid (HR4.out.below hb); clear HR4; have HR4 := HR4x; clear HR4x
 have HTxx := Lib.hid (HTx.out.below hb); clear HTx; have HTx := HTxx; clear HTxx
 have HCxx := Lib.hid (HCx.out.below hb); clear HCx; have HCx := HCxx; clear HCxx
 have HXxx := Lib.hid (HXx.out.below hb); clear HXx; have HXx := HXxx; clear HXxx
 have HR5x := Lib.hid (HR5.out.below hb); clear HR5; have HR5 := HR5x; clear HR5x
 have HBx := Lib.hid (HB.out.trans (hb.mono (by omega))); clear HB; have HB := HBx; clear HBx
 clear hxb_w18
 clear hxbx_w18
 clear hb
 go_wp2_with fail
 refine (RowsOf_any _ B1 _ HR3.out).mono ?_
 rintro e' w20 ⟨r7, rfl, hR, hb⟩
 rw [HN.out.2.2.2.1] at hR ⊢
 obtain ⟨ra7, rc7, rfl, _⟩ := hR.v1.form
 clear hR
 have hle := HN.out.2.2.2.2
 have hled : decide ((diffI B1).length ≤ (diffI A1).length) = true := decide_eq_true hle
 have hled2 : decide (((diffI B1).length : Int) ≤ ((diffI A1).length : Int)) = true := decide_eq_true (by omega)
 have hxb_w20 : ∀ o, w20.cell? ⟨w2.heap.size, o, none⟩ = (#[.int .i64 m.c, .int .i64 m.d, .int .i64 m.s, .int .i64 m.e, .int .i64 m.l, .slice ua T.length uc] : Array Value)[o]? := fun o => by rw [(bcell hb).1 _ _ (by omega), hxb_w19]
 have hxbx_w20 : ∀ o, w20.cell? ⟨w10.heap.size, o, none⟩ = (#[.int .i64 mx.c, .int .i64 mx.d, .int .i64 mx.s, .int .i64 mx.e, .int .i64 mx.l, .slice uax Tx.length ucx] : Array Value)[o]? := fun o => by rw [(bcell hb).1 _ _ (by omega), hxbx_w19]
 have hz_w20 := hb.size
 have HVx := Lib.hid (HV.out.below hb); clear HV; have HV := HVx; clear HVx
 have HTx := Lib.hid (HT.out.below hb); clear HT; have HT := HTx; clear HTx
 have HCx := Lib.hid (HC.out.below hb); clear HC; have HC := HCx; clear HCx
 have HR1x := Lib.hid (HR1.out.below hb); clear HR1; have HR1 := HR1x; clear HR1x
 have HR2x := Lib.hid (HR2.out.below hb); clear HR2; have HR2 := HR2x; clear HR2x
 have HR3x := Lib.hid (HR3.out.below hb); clear HR3; have HR3 := HR3x; clear HR3x
 have HR4x := Lib.hid (HR4.out.below hb); clear HR4; have HR4 := HR4x; clear HR4x
 have HTxx := Lib.hid (HTx.out.below hb); clear HTx; have HTx := HTxx; clear HTxx
 have HCxx := Lib.hid (HCx.out.below hb); clear HCx; have HCx := HCxx; clear HCxx
 have HXxx := Lib.hid (HXx.out.below hb); clear HXx; have HXx := HXxx; clear HXxx
 have HR5x := Lib.hid (HR5.out.below hb); clear HR5; have HR5 := HR5x; clear HR5x
 have HBx := Lib.hid (HB.out.trans (hb.mono (by omega))); clear HB; have HB := HBx; clear HBx
 clear hxb_w19
 clear hxbx_w19
 clear hb
 go_wp2_with fail
 go_ret
 exact ⟨rfl, HB.out⟩
end Go.Proofs.YtmaefilliggjiaaGreat
