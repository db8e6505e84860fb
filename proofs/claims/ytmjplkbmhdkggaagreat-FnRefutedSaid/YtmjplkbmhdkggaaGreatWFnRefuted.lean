/- The walk of 'laws.FnRefuted'. No conditions. -/
import Derived.Test.YtmjplkbmhdkggaaGreatMTable
import Derived.Test.YtmjplkbmhdkggaaGreatMRefFirst
import Derived.Test.YtmjplkbmhdkggaaGreatMGoC
import Derived.Test.YtmjplkbmhdkggaaGreatMGhF
import Derived.Test.YtmjplkbmhdkggaaGreatMReadR
import Derived.Test.YtmjplkbmhdkggaaGreatMRefR
import Derived.Test.YtmjplkbmhdkggaaGreatMRange
namespace Go.Proofs.YtmjplkbmhdkggaaGreat
open Go.RowKit
set_option linter.unusedVariables false
set_option linter.unusedSimpArgs false
set_option maxHeartbeats 4000000 in
set_option maxRecDepth 100000 in
theorem fnRefuted_walk (W : World) (v : Value) (l : List Int) (h : VB (Old W) W v l) :
  Calls Tryz.prog 5 #[v] W fun e' w' => e' = .returned (.bool true) ∧ Below W.heap.size W w' := by
 have hV := h
 obtain ⟨a, c, rfl, hm⟩ := h.form
 have HV := Lib.hid hV; clear hV h
 cases hbig : decide (4096 < l.length)
 rotate_left
 ·have Hbig := Lib.hid hbig; clear hbig
  go_enter Tryz.func5, Tryz.ntmps5
  go_wp2_with fail
  refine (big_any _ l W true Hbig.out HV.out).mono ?_
  rintro e' w' ⟨rfl, hW⟩
  subst hW
  go_wp2_with fail
  go_ret
  exact ⟨rfl, Below.refl _ _⟩
 have Hbig := Lib.hid hbig; clear hbig
 go_enter Tryz.func5, Tryz.ntmps5
 go_wp2_with fail
 refine (big_any _ l W false Hbig.out HV.out).mono ?_
 rintro e' w' ⟨rfl, hW⟩
 subst hW
 have HB := Lib.hid (Below.refl W.heap.size W)
 go_wp2_with fail
 refine (DrawRefute_any _ l _ HV.out).mono ?_
 rintro e' w2 hD
 obtain ⟨m, u, T, rfl, hu, hb⟩ := hD.open
 obtain ⟨ua, uc, rfl, _⟩ := hu.form
 obtain ⟨w3, hw3, hb3, hz3, _, hc3, _⟩ := box_facts w2 (#[.int .i64 m.c, .int .i64 m.d, .int .i64 m.s, .int .i64 m.e, .int .i64 m.l, .slice ua T.length uc] : Array Value) 33
 have hu := Lib.hid (hu.any.below hb3)
 have Hw := Lib.hid hw3; clear hw3
 have hz_w2 := hb.size
 have HVx := Lib.hid (HV.out.below hb); clear HV; have HV := HVx; clear HVx
 have HBx := Lib.hid (HB.out.trans (hb.mono (by omega))); clear HB; have HB := HBx; clear HBx
 clear hb
 have hz_w3 := hb3.size
 have HVx := Lib.hid (HV.out.below hb3); clear HV; have HV := HVx; clear HVx
 have HBx := Lib.hid (HB.out.trans (hb3.mono (by omega))); clear HB; have HB := HBx; clear HBx
 clear hb3
 have HT := hu; clear hu
 have hxb_w3 := hc3; clear hc3
 have hzb := hz3; clear hz3
 go_wp2_with fail
 rw [← Hw.out]
 (try go_wp2_with fail)
 clear Hw
 obtain ⟨A, hA⟩ : ∃ x, refuteAns m T = x := ⟨_, rfl⟩
 have EA := Lib.hid hA; clear hA
 refine (Refute_any m _ T _ HT.out).mono ?_
 rintro e' w4 ⟨r1, rfl, hR, hb⟩
 rw [EA.out] at hR ⊢
 obtain ⟨ra1, rc1, rfl, _⟩ := hR.vs.form
 have hxb_w4 : ∀ o, w4.cell? ⟨w2.heap.size, o, none⟩ = (#[.int .i64 m.c, .int .i64 m.d, .int .i64 m.s, .int .i64 m.e, .int .i64 m.l, .slice ua T.length uc] : Array Value)[o]? := fun o => by rw [(bcell hb).1 _ _ (by omega), hxb_w3]
 have hz_w4 := hb.size
 have HVx := Lib.hid (HV.out.below hb); clear HV; have HV := HVx; clear HVx
 have HTx := Lib.hid (HT.out.below hb); clear HT; have HT := HTx; clear HTx
 have HBx := Lib.hid (HB.out.trans (hb.mono (by omega))); clear HB; have HB := HBx; clear HBx
 clear hxb_w3
 clear hb
 have HR1 := Lib.hid (hR.vs.any); clear hR
 go_wp2_with fail
 refine (RefuteR_any m _ T _ HT.out).mono ?_
 rintro e' w5 ⟨r2, rfl, hR, hb⟩
 rw [EA.out] at hR ⊢
 obtain ⟨ra2, rc2, rfl, _⟩ := hR.form
 have hxb_w5 : ∀ o, w5.cell? ⟨w2.heap.size, o, none⟩ = (#[.int .i64 m.c, .int .i64 m.d, .int .i64 m.s, .int .i64 m.e, .int .i64 m.l, .slice ua T.length uc] : Array Value)[o]? := fun o => by rw [(bcell hb).1 _ _ (by omega), hxb_w4]
 have hz_w5 := hb.size
 have HVx := Lib.hid (HV.out.below hb); clear HV; have HV := HVx; clear HVx
 have HTx := Lib.hid (HT.out.below hb); clear HT; have HT := HTx; clear HTx
 have HR1x := Lib.hid (HR1.out.below hb); clear HR1; have HR1 := HR1x; clear HR1x
 have HBx := Lib.hid (HB.out.trans (hb.mono (by omega))); clear HB; have HB := HBx; clear HBx
 clear hxb_w4
 clear hb
 have HR2 := Lib.hid (hR.any); clear hR
 go_wp2_with fail
 refine (DrawIsRefutation_any _ l _ HV.out).mono ?_
 rintro e' w6 hD
 obtain ⟨mx, ux, cvx, Tx, cutsx, rfl, hu, hcv, hb⟩ := hD.open
 obtain ⟨uax, ucx, rfl, _⟩ := hu.form
 obtain ⟨cax, ccx, rfl, _⟩ := hcv.form
 obtain ⟨w7, hw3, hb3, hz3, _, hc3, _⟩ := box_facts w6 (#[.int .i64 mx.c, .int .i64 mx.d, .int .i64 mx.s, .int .i64 mx.e, .int .i64 mx.l, .slice uax Tx.length ucx] : Array Value) 33
 have hu := Lib.hid (hu.any.below hb3); have hcv := Lib.hid (hcv.any.below hb3)
 have Hw := Lib.hid hw3; clear hw3
 have hxb_w6 : ∀ o, w6.cell? ⟨w2.heap.size, o, none⟩ = (#[.int .i64 m.c, .int .i64 m.d, .int .i64 m.s, .int .i64 m.e, .int .i64 m.l, .slice ua T.length uc] : Array Value)[o]? := fun o => by rw [(bcell hb).1 _ _ (by omega), hxb_w5]
 have hz_w6 := hb.size
 have HVx := Lib.hid (HV.out.below hb); clear HV; have HV := HVx; clear HVx
 have HTx := Lib.hid (HT.out.below hb); clear HT; have HT := HTx; clear HTx
 have HR1x := Lib.hid (HR1.out.below hb); clear HR1; have HR1 := HR1x; clear HR1x
 have HR2x := Lib.hid (HR2.out.below hb); clear HR2; have HR2 := HR2x; clear HR2x
 have HBx := Lib.hid (HB.out.trans (hb.mono (by omega))); clear HB; have HB := HBx; clear HBx
 clear hxb_w5
 clear hb
 have hxb_w7 : ∀ o, w7.cell? ⟨w2.heap.size, o, none⟩ = (#[.int .i64 m.c, .int .i64 m.d, .int .i64 m.s, .int .i64 m.e, .int .i64 m.l, .slice ua T.length uc] : Array Value)[o]? := fun o => by rw [(bcell hb3).1 _ _ (by omega), hxb_w6]
 have hz_w7 := hb3.size
 have HVx := Lib.hid (HV.out.below hb3); clear HV; have HV := HVx; clear HVx
 have HTx := Lib.hid (HT.out.below hb3); clear HT; have HT := HTx; clear HTx
 have HR1x := Lib.hid (HR1.out.below hb3); clear HR1; have HR1 := HR1x; clear HR1x
 have HR2x := Lib.hid (HR2.out.below hb3); clear HR2; have HR2 := HR2x; clear HR2x
 have HBx := Lib.hid (HB.out.trans (hb3.mono (by omega))); clear HB; have HB := HBx; clear HBx
 clear hxb_w6
 clear hb3
 have HTx := hu; clear hu; have HCx := hcv; clear hcv
 have hxbx_w7 := hc3; clear hc3
 have hzbx := hz3; clear hz3
 go_wp2_with fail
 rw [← Hw.out]
 (try go_wp2_with fail)
 clear Hw
 obtain ⟨B, hB⟩ : ∃ x, refAns mx Tx cutsx = x := ⟨_, rfl⟩
 have EB := Lib.hid hB; clear hB
 refine (IsRefutation_any mx _ _ Tx cutsx _ HTx.out HCx.out).mono ?_
 rintro e' w8 ⟨rfl, hb⟩
 rw [EB.out]
 have hxb_w8 : ∀ o, w8.cell? ⟨w2.heap.size, o, none⟩ = (#[.int .i64 m.c, .int .i64 m.d, .int .i64 m.s, .int .i64 m.e, .int .i64 m.l, .slice ua T.length uc] : Array Value)[o]? := fun o => by rw [(bcell hb).1 _ _ (by omega), hxb_w7]
 have hxbx_w8 : ∀ o, w8.cell? ⟨w6.heap.size, o, none⟩ = (#[.int .i64 mx.c, .int .i64 mx.d, .int .i64 mx.s, .int .i64 mx.e, .int .i64 mx.l, .slice uax Tx.length ucx] : Array Value)[o]? := fun o => by rw [(bcell hb).1 _ _ (by omega), hxbx_w7]
 have hz_w8 := hb.size
 have HVx := Lib.hid (HV.out.below hb); clear HV; have HV := HVx; clear HVx
 have HTx := Lib.hid (HT.out.below hb); clear HT; have HT := HTx; clear HTx
 have HR1x := Lib.hid (HR1.out.below hb); clear HR1; have HR1 := HR1x; clear HR1x
 have HR2x := Lib.hid (HR2.out.below hb); clear HR2; have HR2 := HR2x; clear HR2x
 have HTxx := Lib.hid (HTx.out.below hb); clear HTx; have HTx := HTxx; clear HTxx
 have HCxx := Lib.hid (HCx.out.below hb); clear HCx; have HCx := HCxx; clear HCxx
 have HBx := Lib.hid (HB.out.trans (hb.mono (by omega))); clear HB; have HB := HBx; clear HBx
 clear hxb_w7
 clear hxbx_w7
 clear hb
 go_wp2_with fail
 refine (likeSteps_w _ _ (A.1) (A.1) _ true (decide_eq_true rfl) HR1.out HR2.out).mono ?_
 rintro e' w9 ⟨rfl, hb⟩
 have hxb_w9 : ∀ o, w9.cell? ⟨w2.heap.size, o, none⟩ = (#[.int .i64 m.c, .int .i64 m.d, .int .i64 m.s, .int .i64 m.e, .int .i64 m.l, .slice ua T.length uc] : Array Value)[o]? := fun o => by rw [(bcell hb).1 _ _ (by omega), hxb_w8]
 have hxbx_w9 : ∀ o, w9.cell? ⟨w6.heap.size, o, none⟩ = (#[.int .i64 mx.c, .int .i64 mx.d, .int .i64 mx.s, .int .i64 mx.e, .int .i64 mx.l, .slice uax Tx.length ucx] : Array Value)[o]? := fun o => by rw [(bcell hb).1 _ _ (by omega), hxbx_w8]
 have hz_w9 := hb.size
 have HVx := Lib.hid (HV.out.below hb); clear HV; have HV := HVx; clear HVx
 have HTx := Lib.hid (HT.out.below hb); clear HT; have HT := HTx; clear HTx
 have HR1x := Lib.hid (HR1.out.below hb); clear HR1; have HR1 := HR1x; clear HR1x
 have HR2x := Lib.hid (HR2.out.below hb); clear HR2; have HR2 := HR2x; clear HR2x
 have HTxx := Lib.hid (HTx.out.below hb); clear HTx; have HTx := HTxx; clear HTxx
 have HCxx := Lib.hid (HCx.out.below hb); clear HCx; have HCx := HCxx; clear HCxx
 have HBx := Lib.hid (HB.out.trans (hb.mono (by omega))); clear HB; have HB := HBx; clear HBx
 clear hxb_w8
 clear hxbx_w8
 clear hb
 go_wp2_with fail
 refine (IsRefutationR_any mx _ _ Tx cutsx _ HTx.out HCx.out).mono ?_
 rintro e' w10 ⟨rfl, hb⟩
 rw [EB.out]
 have hxb_w10 : ∀ o, w10.cell? ⟨w2.heap.size, o, none⟩ = (#[.int .i64 m.c, .int .i64 m.d, .int .i64 m.s, .int .i64 m.e, .int .i64 m.l, .slice ua T.length uc] : Array Value)[o]? := fun o => by rw [(bcell hb).1 _ _ (by omega), hxb_w9]
 have hxbx_w10 : ∀ o, w10.cell? ⟨w6.heap.size, o, none⟩ = (#[.int .i64 mx.c, .int .i64 mx.d, .int .i64 mx.s, .int .i64 mx.e, .int .i64 mx.l, .slice uax Tx.length ucx] : Array Value)[o]? := fun o => by rw [(bcell hb).1 _ _ (by omega), hxbx_w9]
 have hz_w10 := hb.size
 have HVx := Lib.hid (HV.out.below hb); clear HV; have HV := HVx; clear HVx
 have HTx := Lib.hid (HT.out.below hb); clear HT; have HT := HTx; clear HTx
 have HR1x := Lib.hid (HR1.out.below hb); clear HR1; have HR1 := HR1x; clear HR1x
 have HR2x := Lib.hid (HR2.out.below hb); clear HR2; have HR2 := HR2x; clear HR2x
 have HTxx := Lib.hid (HTx.out.below hb); clear HTx; have HTx := HTxx; clear HTxx
 have HCxx := Lib.hid (HCx.out.below hb); clear HCx; have HCx := HCxx; clear HCxx
 have HBx := Lib.hid (HB.out.trans (hb.mono (by omega))); clear HB; have HB := HBx; clear HBx
 clear hxb_w9
 clear hxbx_w9
 clear hb
 obtain ⟨A1, A2⟩ := A
 dsimp only at HR1 HR2 ⊢
 cases B
 ·skip
  by_cases h5 : A2 = 5
  rotate_left
  ·skip
   have h5d : (A2 == 5) = false := by simp [h5]
   by_cases h0 : A2 = 0
   rotate_left
   ·skip
    have h0d : (A2 != 0) = true := by simp [h0]
    clear h0 h5
    go_wp2_with fail
    go_ret
    exact ⟨rfl, HB.out⟩
   subst h0
   clear h5 h5d
   have hro := refute_ok EA.out
   have Hro := Lib.hid hro; clear hro
   go_wp2_with fail
   obtain ⟨C, hC⟩ : ∃ x, triesAns m T 4000 = x := ⟨_, rfl⟩
   have EC := Lib.hid hC; clear hC
   refine (CountTries_any m _ T 4000 _ HT.out).mono ?_
   rintro e' w11 ⟨rfl, hb⟩
   rw [EC.out]
   have hxb_w11 : ∀ o, w11.cell? ⟨w2.heap.size, o, none⟩ = (#[.int .i64 m.c, .int .i64 m.d, .int .i64 m.s, .int .i64 m.e, .int .i64 m.l, .slice ua T.length uc] : Array Value)[o]? := fun o => by rw [(bcell hb).1 _ _ (by omega), hxb_w10]
   have hxbx_w11 : ∀ o, w11.cell? ⟨w6.heap.size, o, none⟩ = (#[.int .i64 mx.c, .int .i64 mx.d, .int .i64 mx.s, .int .i64 mx.e, .int .i64 mx.l, .slice uax Tx.length ucx] : Array Value)[o]? := fun o => by rw [(bcell hb).1 _ _ (by omega), hxbx_w10]
   have hz_w11 := hb.size
   have HVx := Lib.hid (HV.out.below hb); clear HV; have HV := HVx; clear HVx
   have HTx := Lib.hid (HT.out.below hb); clear HT; have HT := HTx; clear HTx
   have HR1x := Lib.hid (HR1.out.below hb); clear HR1; have HR1 := HR1x; clear HR1x
   have HR2x := Lib.hid (HR2.out.below hb); clear HR2; have HR2 := HR2x; clear HR2x
   have HTxx := Lib.hid (HTx.out.below hb); clear HTx; have HTx := HTxx; clear HTxx
   have HCxx := Lib.hid (HCx.out.below hb); clear HCx; have HCx := HCxx; clear HCxx
   have HBx := Lib.hid (HB.out.trans (hb.mono (by omega))); clear HB; have HB := HBx; clear HBx
   clear hxb_w10
   clear hxbx_w10
   clear hb
   have hC := EC.out
   rw [Hro.out.2.1] at hC
   subst hC
   go_wp2_with fail
   obtain ⟨D, hD⟩ : ∃ x, hasAns m T 4000 = x := ⟨_, rfl⟩
   have ED := Lib.hid hD; clear hD
   refine (HasDesign_any m _ T 4000 _ HT.out).mono ?_
   rintro e' w12 ⟨rfl, hb⟩
   rw [ED.out]
   have hxb_w12 : ∀ o, w12.cell? ⟨w2.heap.size, o, none⟩ = (#[.int .i64 m.c, .int .i64 m.d, .int .i64 m.s, .int .i64 m.e, .int .i64 m.l, .slice ua T.length uc] : Array Value)[o]? := fun o => by rw [(bcell hb).1 _ _ (by omega), hxb_w11]
   have hxbx_w12 : ∀ o, w12.cell? ⟨w6.heap.size, o, none⟩ = (#[.int .i64 mx.c, .int .i64 mx.d, .int .i64 mx.s, .int .i64 mx.e, .int .i64 mx.l, .slice uax Tx.length ucx] : Array Value)[o]? := fun o => by rw [(bcell hb).1 _ _ (by omega), hxbx_w11]
   have hz_w12 := hb.size
   have HVx := Lib.hid (HV.out.below hb); clear HV; have HV := HVx; clear HVx
   have HTx := Lib.hid (HT.out.below hb); clear HT; have HT := HTx; clear HTx
   have HR1x := Lib.hid (HR1.out.below hb); clear HR1; have HR1 := HR1x; clear HR1x
   have HR2x := Lib.hid (HR2.out.below hb); clear HR2; have HR2 := HR2x; clear HR2x
   have HTxx := Lib.hid (HTx.out.below hb); clear HTx; have HTx := HTxx; clear HTxx
   have HCxx := Lib.hid (HCx.out.below hb); clear HCx; have HCx := HCxx; clear HCxx
   have HBx := Lib.hid (HB.out.trans (hb.mono (by omega))); clear HB; have HB := HBx; clear HBx
   clear hxb_w11
   clear hxbx_w11
   clear hb
   have hD := ED.out
   rw [Hro.out.2.2] at hD
   subst hD
   go_wp2_with fail
   refine (IsRefutation_any m _ _ T A1 _ HT.out HR1.out).mono ?_
   rintro e' w13 ⟨rfl, hb⟩
   rw [Hro.out.1]
   have hxb_w13 : ∀ o, w13.cell? ⟨w2.heap.size, o, none⟩ = (#[.int .i64 m.c, .int .i64 m.d, .int .i64 m.s, .int .i64 m.e, .int .i64 m.l, .slice ua T.length uc] : Array Value)[o]? := fun o => by rw [(bcell hb).1 _ _ (by omega), hxb_w12]
   have hxbx_w13 : ∀ o, w13.cell? ⟨w6.heap.size, o, none⟩ = (#[.int .i64 mx.c, .int .i64 mx.d, .int .i64 mx.s, .int .i64 mx.e, .int .i64 mx.l, .slice uax Tx.length ucx] : Array Value)[o]? := fun o => by rw [(bcell hb).1 _ _ (by omega), hxbx_w12]
   have hz_w13 := hb.size
   have HVx := Lib.hid (HV.out.below hb); clear HV; have HV := HVx; clear HVx
   have HTx := Lib.hid (HT.out.below hb); clear HT; have HT := HTx; clear HTx
   have HR1x := Lib.hid (HR1.out.below hb); clear HR1; have HR1 := HR1x; clear HR1x
   have HR2x := Lib.hid (HR2.out.below hb); clear HR2; have HR2 := HR2x; clear HR2x
   have HTxx := Lib.hid (HTx.out.below hb); clear HTx; have HTx := HTxx; clear HTxx
   have HCxx := Lib.hid (HCx.out.below hb); clear HCx; have HCx := HCxx; clear HCxx
   have HBx := Lib.hid (HB.out.trans (hb.mono (by omega))); clear HB; have HB := HBx; clear HBx
   clear hxb_w12
   clear hxbx_w12
   clear hb
   go_wp2_with fail
   go_ret
   exact ⟨rfl, HB.out⟩
  subst h5
  have hrs := refute_state (m := m) (t := T) (by rw [EA.out])
  have Hrs := Lib.hid hrs; clear hrs
  go_wp2_with fail
  refine (FindDesign_any m _ T 4000 _ HT.out).mono ?_
  rintro e' w11 ⟨r5, rfl, hR, hb⟩
  rw [Hrs.out]
  obtain ⟨ra5, rc5, rfl, _⟩ := hR.v2.form
  clear hR
  generalize (findAns m T [] 4000).2.1 = k5
  have hxb_w11 : ∀ o, w11.cell? ⟨w2.heap.size, o, none⟩ = (#[.int .i64 m.c, .int .i64 m.d, .int .i64 m.s, .int .i64 m.e, .int .i64 m.l, .slice ua T.length uc] : Array Value)[o]? := fun o => by rw [(bcell hb).1 _ _ (by omega), hxb_w10]
  have hxbx_w11 : ∀ o, w11.cell? ⟨w6.heap.size, o, none⟩ = (#[.int .i64 mx.c, .int .i64 mx.d, .int .i64 mx.s, .int .i64 mx.e, .int .i64 mx.l, .slice uax Tx.length ucx] : Array Value)[o]? := fun o => by rw [(bcell hb).1 _ _ (by omega), hxbx_w10]
  have hz_w11 := hb.size
  have HVx := Lib.hid (HV.out.below hb); clear HV; have HV := HVx; clear HVx
  have HTx := Lib.hid (HT.out.below hb); clear HT; have HT := HTx; clear HTx
  have HR1x := Lib.hid (HR1.out.below hb); clear HR1; have HR1 := HR1x; clear HR1x
  have HR2x := Lib.hid (HR2.out.below hb); clear HR2; have HR2 := HR2x; clear HR2x
  have HTxx := Lib.hid (HTx.out.below hb); clear HTx; have HTx := HTxx; clear HTxx
  have HCxx := Lib.hid (HCx.out.below hb); clear HCx; have HCx := HCxx; clear HCxx
  have HBx := Lib.hid (HB.out.trans (hb.mono (by omega))); clear HB; have HB := HBx; clear HBx
  clear hxb_w10
  clear hxbx_w10
  clear hb
  go_wp2_with fail
  go_ret
  exact ⟨rfl, HB.out⟩
 have hno := isref_none (limit := 4000) EB.out
 obtain ⟨E3, hE3⟩ : ∃ x, (findAns mx Tx [] 4000).2.2 = x := ⟨_, rfl⟩
 rw [hE3] at hno
 have hnod : (E3 == 0) = false := by simp [hno]
 have HE3 := Lib.hid hE3; clear hE3 hno
 ·skip
  go_wp2_with fail
  refine (FindDesign_any mx _ Tx 4000 _ HTx.out).mono ?_
  rintro e' w11 ⟨r5, rfl, hR, hb⟩
  rw [HE3.out]
  obtain ⟨ra5, rc5, rfl, _⟩ := hR.v2.form
  clear hR
  generalize (findAns mx Tx [] 4000).2.1 = k5
  generalize (findAns mx Tx [] 4000).1 = d5
  have hxb_w11 : ∀ o, w11.cell? ⟨w2.heap.size, o, none⟩ = (#[.int .i64 m.c, .int .i64 m.d, .int .i64 m.s, .int .i64 m.e, .int .i64 m.l, .slice ua T.length uc] : Array Value)[o]? := fun o => by rw [(bcell hb).1 _ _ (by omega), hxb_w10]
  have hxbx_w11 : ∀ o, w11.cell? ⟨w6.heap.size, o, none⟩ = (#[.int .i64 mx.c, .int .i64 mx.d, .int .i64 mx.s, .int .i64 mx.e, .int .i64 mx.l, .slice uax Tx.length ucx] : Array Value)[o]? := fun o => by rw [(bcell hb).1 _ _ (by omega), hxbx_w10]
  have hz_w11 := hb.size
  have HVx := Lib.hid (HV.out.below hb); clear HV; have HV := HVx; clear HVx
  have HTx := Lib.hid (HT.out.below hb); clear HT; have HT := HTx; clear HTx
  have HR1x := Lib.hid (HR1.out.below hb); clear HR1; have HR1 := HR1x; clear HR1x
  have HR2x := Lib.hid (HR2.out.below hb); clear HR2; have HR2 := HR2x; clear HR2x
  have HTxx := Lib.hid (HTx.out.below hb); clear HTx; have HTx := HTxx; clear HTxx
  have HCxx := Lib.hid (HCx.out.below hb); clear HCx; have HCx := HCxx; clear HCxx
  have HBx := Lib.hid (HB.out.trans (hb.mono (by omega))); clear HB; have HB := HBx; clear HBx
  clear hxb_w10
  clear hxbx_w10
  clear hb
  by_cases h5 : A2 = 5
  rotate_left
  ·skip
   have h5d : (A2 == 5) = false := by simp [h5]
   by_cases h0 : A2 = 0
   rotate_left
   ·skip
    have h0d : (A2 != 0) = true := by simp [h0]
    clear h0 h5
    go_wp2_with fail
    go_ret
    exact ⟨rfl, HB.out⟩
   subst h0
   clear h5 h5d
   have hro := refute_ok EA.out
   have Hro := Lib.hid hro; clear hro
   go_wp2_with fail
   obtain ⟨C, hC⟩ : ∃ x, triesAns m T 4000 = x := ⟨_, rfl⟩
   have EC := Lib.hid hC; clear hC
   refine (CountTries_any m _ T 4000 _ HT.out).mono ?_
   rintro e' w12 ⟨rfl, hb⟩
   rw [EC.out]
   have hxb_w12 : ∀ o, w12.cell? ⟨w2.heap.size, o, none⟩ = (#[.int .i64 m.c, .int .i64 m.d, .int .i64 m.s, .int .i64 m.e, .int .i64 m.l, .slice ua T.length uc] : Array Value)[o]? := fun o => by rw [(bcell hb).1 _ _ (by omega), hxb_w11]
   have hxbx_w12 : ∀ o, w12.cell? ⟨w6.heap.size, o, none⟩ = (#[.int .i64 mx.c, .int .i64 mx.d, .int .i64 mx.s, .int .i64 mx.e, .int .i64 mx.l, .slice uax Tx.length ucx] : Array Value)[o]? := fun o => by rw [(bcell hb).1 _ _ (by omega), hxbx_w11]
   have hz_w12 := hb.size
   have HVx := Lib.hid (HV.out.below hb); clear HV; have HV := HVx; clear HVx
   have HTx := Lib.hid (HT.out.below hb); clear HT; have HT := HTx; clear HTx
   have HR1x := Lib.hid (HR1.out.below hb); clear HR1; have HR1 := HR1x; clear HR1x
   have HR2x := Lib.hid (HR2.out.below hb); clear HR2; have HR2 := HR2x; clear HR2x
   have HTxx := Lib.hid (HTx.out.below hb); clear HTx; have HTx := HTxx; clear HTxx
   have HCxx := Lib.hid (HCx.out.below hb); clear HCx; have HCx := HCxx; clear HCxx
   have HBx := Lib.hid (HB.out.trans (hb.mono (by omega))); clear HB; have HB := HBx; clear HBx
   clear hxb_w11
   clear hxbx_w11
   clear hb
   have hC := EC.out
   rw [Hro.out.2.1] at hC
   subst hC
   go_wp2_with fail
   obtain ⟨D, hD⟩ : ∃ x, hasAns m T 4000 = x := ⟨_, rfl⟩
   have ED := Lib.hid hD; clear hD
   refine (HasDesign_any m _ T 4000 _ HT.out).mono ?_
   rintro e' w13 ⟨rfl, hb⟩
   rw [ED.out]
   have hxb_w13 : ∀ o, w13.cell? ⟨w2.heap.size, o, none⟩ = (#[.int .i64 m.c, .int .i64 m.d, .int .i64 m.s, .int .i64 m.e, .int .i64 m.l, .slice ua T.length uc] : Array Value)[o]? := fun o => by rw [(bcell hb).1 _ _ (by omega), hxb_w12]
   have hxbx_w13 : ∀ o, w13.cell? ⟨w6.heap.size, o, none⟩ = (#[.int .i64 mx.c, .int .i64 mx.d, .int .i64 mx.s, .int .i64 mx.e, .int .i64 mx.l, .slice uax Tx.length ucx] : Array Value)[o]? := fun o => by rw [(bcell hb).1 _ _ (by omega), hxbx_w12]
   have hz_w13 := hb.size
   have HVx := Lib.hid (HV.out.below hb); clear HV; have HV := HVx; clear HVx
   have HTx := Lib.hid (HT.out.below hb); clear HT; have HT := HTx; clear HTx
   have HR1x := Lib.hid (HR1.out.below hb); clear HR1; have HR1 := HR1x; clear HR1x
   have HR2x := Lib.hid (HR2.out.below hb); clear HR2; have HR2 := HR2x; clear HR2x
   have HTxx := Lib.hid (HTx.out.below hb); clear HTx; have HTx := HTxx; clear HTxx
   have HCxx := Lib.hid (HCx.out.below hb); clear HCx; have HCx := HCxx; clear HCxx
   have HBx := Lib.hid (HB.out.trans (hb.mono (by omega))); clear HB; have HB := HBx; clear HBx
   clear hxb_w12
   clear hxbx_w12
   clear hb
   have hD := ED.out
   rw [Hro.out.2.2] at hD
   subst hD
   go_wp2_with fail
   refine (IsRefutation_any m _ _ T A1 _ HT.out HR1.out).mono ?_
   rintro e' w14 ⟨rfl, hb⟩
   rw [Hro.out.1]
   have hxb_w14 : ∀ o, w14.cell? ⟨w2.heap.size, o, none⟩ = (#[.int .i64 m.c, .int .i64 m.d, .int .i64 m.s, .int .i64 m.e, .int .i64 m.l, .slice ua T.length uc] : Array Value)[o]? := fun o => by rw [(bcell hb).1 _ _ (by omega), hxb_w13]
   have hxbx_w14 : ∀ o, w14.cell? ⟨w6.heap.size, o, none⟩ = (#[.int .i64 mx.c, .int .i64 mx.d, .int .i64 mx.s, .int .i64 mx.e, .int .i64 mx.l, .slice uax Tx.length ucx] : Array Value)[o]? := fun o => by rw [(bcell hb).1 _ _ (by omega), hxbx_w13]
   have hz_w14 := hb.size
   have HVx := Lib.hid (HV.out.below hb); clear HV; have HV := HVx; clear HVx
   have HTx := Lib.hid (HT.out.below hb); clear HT; have HT := HTx; clear HTx
   have HR1x := Lib.hid (HR1.out.below hb); clear HR1; have HR1 := HR1x; clear HR1x
   have HR2x := Lib.hid (HR2.out.below hb); clear HR2; have HR2 := HR2x; clear HR2x
   have HTxx := Lib.hid (HTx.out.below hb); clear HTx; have HTx := HTxx; clear HTxx
   have HCxx := Lib.hid (HCx.out.below hb); clear HCx; have HCx := HCxx; clear HCxx
   have HBx := Lib.hid (HB.out.trans (hb.mono (by omega))); clear HB; have HB := HBx; clear HBx
   clear hxb_w13
   clear hxbx_w13
   clear hb
   go_wp2_with fail
   go_ret
   exact ⟨rfl, HB.out⟩
  subst h5
  have hrs := refute_state (m := m) (t := T) (by rw [EA.out])
  have Hrs := Lib.hid hrs; clear hrs
  go_wp2_with fail
  refine (FindDesign_any m _ T 4000 _ HT.out).mono ?_
  rintro e' w12 ⟨r5, rfl, hR, hb⟩
  rw [Hrs.out]
  obtain ⟨ra5, rc5, rfl, _⟩ := hR.v2.form
  clear hR
  generalize (findAns m T [] 4000).2.1 = k5
  have hxb_w12 : ∀ o, w12.cell? ⟨w2.heap.size, o, none⟩ = (#[.int .i64 m.c, .int .i64 m.d, .int .i64 m.s, .int .i64 m.e, .int .i64 m.l, .slice ua T.length uc] : Array Value)[o]? := fun o => by rw [(bcell hb).1 _ _ (by omega), hxb_w11]
  have hxbx_w12 : ∀ o, w12.cell? ⟨w6.heap.size, o, none⟩ = (#[.int .i64 mx.c, .int .i64 mx.d, .int .i64 mx.s, .int .i64 mx.e, .int .i64 mx.l, .slice uax Tx.length ucx] : Array Value)[o]? := fun o => by rw [(bcell hb).1 _ _ (by omega), hxbx_w11]
  have hz_w12 := hb.size
  have HVx := Lib.hid (HV.out.below hb); clear HV; have HV := HVx; clear HVx
  have HTx := Lib.hid (HT.out.below hb); clear HT; have HT := HTx; clear HTx
  have HR1x := Lib.hid (HR1.out.below hb); clear HR1; have HR1 := HR1x; clear HR1x
  have HR2x := Lib.hid (HR2.out.below hb); clear HR2; have HR2 := HR2x; clear HR2x
  have HTxx := Lib.hid (HTx.out.below hb); clear HTx; have HTx := HTxx; clear HTxx
  have HCxx := Lib.hid (HCx.out.below hb); clear HCx; have HCx := HCxx; clear HCxx
  have HBx := Lib.hid (HB.out.trans (hb.mono (by omega))); clear HB; have HB := HBx; clear HBx
  clear hxb_w11
  clear hxbx_w11
  clear hb
  go_wp2_with fail
  go_ret
  exact ⟨rfl, HB.out⟩
end Go.Proofs.YtmjplkbmhdkggaaGreat
