/- The walk of 'laws.FnOpeningNumbers'. No conditions. -/
import Derived.Test.YtmfgdoflddhngaaGreatMSys2
import Derived.Test.YtmfgdoflddhngaaGreatMLike
import Derived.Test.YtmfgdoflddhngaaGreatMFindD
import Derived.Test.YtmfgdoflddhngaaGreatDraw18
import Derived.Test.YtmfgdoflddhngaaGreatDraw19
import Derived.Test.YtmfgdoflddhngaaGreatMMk
import Derived.Test.YtmfgdoflddhngaaGreatDoorO
import Derived.Test.YtmfgdoflddhngaaGreatMOpeners
import Derived.Test.YtmfgdoflddhngaaGreatMRowsOf
import Derived.Test.YtmfgdoflddhngaaGreatCntK
namespace Go.Proofs.YtmfgdoflddhngaaGreat
open Go.RowKit
set_option linter.unusedVariables false
set_option linter.unusedSimpArgs false

set_option maxHeartbeats 4000000 in
set_option maxRecDepth 100000 in
theorem fnOpeningNumbers_walk (W : World) (v : Value) (l : List Int) (h : VB (Old W) W v l) :
    Calls Tryz.prog 7 #[v] W fun e' w' => e' = .returned (.bool true) ∧ Below W.heap.size W w' := by
  have hV := h
  obtain ⟨a, c, rfl, hm⟩ := h.form
  have HV := Lib.hid hV; clear hV h
  cases hbig : decide (4096 < l.length)
  rotate_left
  · have Hbig := Lib.hid hbig; clear hbig
    go_enter Tryz.func7, Tryz.ntmps7
    go_wp2_with fail
    refine (big_any _ l W true Hbig.out HV.out).mono ?_
    rintro e' w' ⟨rfl, hW⟩
    subst hW
    go_wp2_with fail
    go_ret
    exact ⟨rfl, Below.refl _ _⟩
  have Hbig := Lib.hid hbig; clear hbig
  go_enter Tryz.func7, Tryz.ntmps7
  go_wp2_with fail
  refine (big_any _ l W false Hbig.out HV.out).mono ?_
  rintro e' w' ⟨rfl, hW⟩
  subst hW
  have HB := Lib.hid (Below.refl W.heap.size W)
  go_wp2_with fail
  refine (DrawOpeningNumbers_any _ l _ HV.out).mono ?_
  rintro e' w2 hD
  obtain ⟨m, u, cv, T, cuts, rfl, hu, hcv, hb⟩ := hD.open
  obtain ⟨ua, uc, rfl, _⟩ := hu.form
  obtain ⟨ca, cc, rfl, _⟩ := hcv.form
  obtain ⟨w3, hw3, hb3, hz3, _, hc3, _⟩ := box_facts w2 (#[.int .i64 m.c, .int .i64 m.d, .int .i64 m.s, .int .i64 m.e, .int .i64 m.l, .slice ua T.length uc] : Array Value) 28
  have hu := Lib.hid (hu.any.below hb3); have hcv := Lib.hid (hcv.any.below hb3)
  have Hw := Lib.hid hw3; clear hw3
  have hz_w2 := hb.size
  have HVx := Lib.hid (HV.out.below hb); clear HV; have HV := HVx; clear HVx
  have HBx := Lib.hid (HB.out.trans (hb.mono (by omega))); clear HB; have HB := HBx; clear HBx
  clear hb
  have hz_w3 := hb3.size
  have HVx := Lib.hid (HV.out.below hb3); clear HV; have HV := HVx; clear HVx
  have HBx := Lib.hid (HB.out.trans (hb3.mono (by omega))); clear HB; have HB := HBx; clear HBx
  clear hb3
  have HT := hu; clear hu; have HC := hcv; clear hcv
  have hxb_w3 := hc3; clear hc3
  have hzb := hz3; clear hz3
  go_wp2_with fail
  rw [← Hw.out]
  (try go_wp2_with fail)
  clear Hw
  obtain ⟨A, hA⟩ : ∃ x, opnAns m T cuts = x := ⟨_, rfl⟩
  have EA := Lib.hid hA; clear hA
  obtain ⟨B, hB⟩ : ∃ x, byLAns m T cuts = x := ⟨_, rfl⟩
  have EB := Lib.hid hB; clear hB
  refine (OpeningNumbers_any m _ _ T cuts _ HT.out HC.out).mono ?_
  rintro e' w4 ⟨r1, rfl, hR, hb⟩
  rw [EA.out] at hR ⊢
  obtain ⟨ra1, rc1, rfl, _⟩ := hR.v1.form
  have hxb_w4 : ∀ o, w4.cell? ⟨w2.heap.size, o, none⟩ = (#[.int .i64 m.c, .int .i64 m.d, .int .i64 m.s, .int .i64 m.e, .int .i64 m.l, .slice ua T.length uc] : Array Value)[o]? := fun o => by rw [(bcell hb).1 _ _ (by omega), hxb_w3]
  have hz_w4 := hb.size
  have HVx := Lib.hid (HV.out.below hb); clear HV; have HV := HVx; clear HVx
  have HTx := Lib.hid (HT.out.below hb); clear HT; have HT := HTx; clear HTx
  have HCx := Lib.hid (HC.out.below hb); clear HC; have HC := HCx; clear HCx
  have HBx := Lib.hid (HB.out.trans (hb.mono (by omega))); clear HB; have HB := HBx; clear HBx
  clear hxb_w3
  clear hb
  have HR1 := Lib.hid (hR.v1.any); clear hR
  go_wp2_with fail
  refine (OpeningNumbersR_any m _ _ T cuts _ HT.out HC.out).mono ?_
  rintro e' w5 ⟨r2, rfl, hR, hb⟩
  rw [EA.out] at hR ⊢
  obtain ⟨ra2, rc2, rfl, _⟩ := hR.form
  have hxb_w5 : ∀ o, w5.cell? ⟨w2.heap.size, o, none⟩ = (#[.int .i64 m.c, .int .i64 m.d, .int .i64 m.s, .int .i64 m.e, .int .i64 m.l, .slice ua T.length uc] : Array Value)[o]? := fun o => by rw [(bcell hb).1 _ _ (by omega), hxb_w4]
  have hz_w5 := hb.size
  have HVx := Lib.hid (HV.out.below hb); clear HV; have HV := HVx; clear HVx
  have HTx := Lib.hid (HT.out.below hb); clear HT; have HT := HTx; clear HTx
  have HCx := Lib.hid (HC.out.below hb); clear HC; have HC := HCx; clear HCx
  have HR1x := Lib.hid (HR1.out.below hb); clear HR1; have HR1 := HR1x; clear HR1x
  have HBx := Lib.hid (HB.out.trans (hb.mono (by omega))); clear HB; have HB := HBx; clear HBx
  clear hxb_w4
  clear hb
  have HR2 := Lib.hid (hR.any); clear hR
  go_wp2_with fail
  refine (CountByLocks_any m _ _ T cuts _ HT.out HC.out).mono ?_
  rintro e' w6 ⟨rfl, hb⟩
  rw [EB.out]
  have hxb_w6 : ∀ o, w6.cell? ⟨w2.heap.size, o, none⟩ = (#[.int .i64 m.c, .int .i64 m.d, .int .i64 m.s, .int .i64 m.e, .int .i64 m.l, .slice ua T.length uc] : Array Value)[o]? := fun o => by rw [(bcell hb).1 _ _ (by omega), hxb_w5]
  have hz_w6 := hb.size
  have HVx := Lib.hid (HV.out.below hb); clear HV; have HV := HVx; clear HVx
  have HTx := Lib.hid (HT.out.below hb); clear HT; have HT := HTx; clear HTx
  have HCx := Lib.hid (HC.out.below hb); clear HC; have HC := HCx; clear HCx
  have HR1x := Lib.hid (HR1.out.below hb); clear HR1; have HR1 := HR1x; clear HR1x
  have HR2x := Lib.hid (HR2.out.below hb); clear HR2; have HR2 := HR2x; clear HR2x
  have HBx := Lib.hid (HB.out.trans (hb.mono (by omega))); clear HB; have HB := HBx; clear HBx
  clear hxb_w5
  clear hb
  go_wp2_with fail
  refine (CountByLocksR_any m _ _ T cuts _ HT.out HC.out).mono ?_
  rintro e' w7 ⟨rfl, hb⟩
  rw [EB.out]
  have hxb_w7 : ∀ o, w7.cell? ⟨w2.heap.size, o, none⟩ = (#[.int .i64 m.c, .int .i64 m.d, .int .i64 m.s, .int .i64 m.e, .int .i64 m.l, .slice ua T.length uc] : Array Value)[o]? := fun o => by rw [(bcell hb).1 _ _ (by omega), hxb_w6]
  have hz_w7 := hb.size
  have HVx := Lib.hid (HV.out.below hb); clear HV; have HV := HVx; clear HVx
  have HTx := Lib.hid (HT.out.below hb); clear HT; have HT := HTx; clear HTx
  have HCx := Lib.hid (HC.out.below hb); clear HC; have HC := HCx; clear HCx
  have HR1x := Lib.hid (HR1.out.below hb); clear HR1; have HR1 := HR1x; clear HR1x
  have HR2x := Lib.hid (HR2.out.below hb); clear HR2; have HR2 := HR2x; clear HR2x
  have HBx := Lib.hid (HB.out.trans (hb.mono (by omega))); clear HB; have HB := HBx; clear HBx
  clear hxb_w6
  clear hb
  go_wp2_with fail
  refine (DrawDoorGhosts_any _ l _ HV.out).mono ?_
  rintro e' w8 hD
  obtain ⟨mb, ub, cvb, Tb, cutsb, nb, rfl, hu, hcv, hb⟩ := hD.open
  obtain ⟨uab, ucb, rfl, _⟩ := hu.form
  obtain ⟨cab, ccb, rfl, _⟩ := hcv.form
  obtain ⟨w9, hw3, hb3, hz3, _, hc3, _⟩ := box_facts w8 (#[.int .i64 mb.c, .int .i64 mb.d, .int .i64 mb.s, .int .i64 mb.e, .int .i64 mb.l, .slice uab Tb.length ucb] : Array Value) 28
  have hu := Lib.hid (hu.any.below hb3); have hcv := Lib.hid (hcv.any.below hb3)
  have Hw := Lib.hid hw3; clear hw3
  have hxb_w8 : ∀ o, w8.cell? ⟨w2.heap.size, o, none⟩ = (#[.int .i64 m.c, .int .i64 m.d, .int .i64 m.s, .int .i64 m.e, .int .i64 m.l, .slice ua T.length uc] : Array Value)[o]? := fun o => by rw [(bcell hb).1 _ _ (by omega), hxb_w7]
  have hz_w8 := hb.size
  have HVx := Lib.hid (HV.out.below hb); clear HV; have HV := HVx; clear HVx
  have HTx := Lib.hid (HT.out.below hb); clear HT; have HT := HTx; clear HTx
  have HCx := Lib.hid (HC.out.below hb); clear HC; have HC := HCx; clear HCx
  have HR1x := Lib.hid (HR1.out.below hb); clear HR1; have HR1 := HR1x; clear HR1x
  have HR2x := Lib.hid (HR2.out.below hb); clear HR2; have HR2 := HR2x; clear HR2x
  have HBx := Lib.hid (HB.out.trans (hb.mono (by omega))); clear HB; have HB := HBx; clear HBx
  clear hxb_w7
  clear hb
  have hxb_w9 : ∀ o, w9.cell? ⟨w2.heap.size, o, none⟩ = (#[.int .i64 m.c, .int .i64 m.d, .int .i64 m.s, .int .i64 m.e, .int .i64 m.l, .slice ua T.length uc] : Array Value)[o]? := fun o => by rw [(bcell hb3).1 _ _ (by omega), hxb_w8]
  have hz_w9 := hb3.size
  have HVx := Lib.hid (HV.out.below hb3); clear HV; have HV := HVx; clear HVx
  have HTx := Lib.hid (HT.out.below hb3); clear HT; have HT := HTx; clear HTx
  have HCx := Lib.hid (HC.out.below hb3); clear HC; have HC := HCx; clear HCx
  have HR1x := Lib.hid (HR1.out.below hb3); clear HR1; have HR1 := HR1x; clear HR1x
  have HR2x := Lib.hid (HR2.out.below hb3); clear HR2; have HR2 := HR2x; clear HR2x
  have HBx := Lib.hid (HB.out.trans (hb3.mono (by omega))); clear HB; have HB := HBx; clear HBx
  clear hxb_w8
  clear hb3
  have HTb := hu; clear hu; have HCb := hcv; clear hcv
  have hxbb_w9 := hc3; clear hc3
  have hzbb := hz3; clear hz3
  go_wp2_with fail
  rw [← Hw.out]
  (try go_wp2_with fail)
  clear Hw
  obtain ⟨D, hD⟩ : ∃ x, doorGhAns mb Tb cutsb nb = x := ⟨_, rfl⟩
  have ED := Lib.hid hD; clear hD
  refine (DoorGhosts_any mb _ _ Tb cutsb nb _ HTb.out HCb.out).mono ?_
  rintro e' w10 ⟨rfl, hb⟩
  rw [ED.out]
  have hxb_w10 : ∀ o, w10.cell? ⟨w2.heap.size, o, none⟩ = (#[.int .i64 m.c, .int .i64 m.d, .int .i64 m.s, .int .i64 m.e, .int .i64 m.l, .slice ua T.length uc] : Array Value)[o]? := fun o => by rw [(bcell hb).1 _ _ (by omega), hxb_w9]
  have hxbb_w10 : ∀ o, w10.cell? ⟨w8.heap.size, o, none⟩ = (#[.int .i64 mb.c, .int .i64 mb.d, .int .i64 mb.s, .int .i64 mb.e, .int .i64 mb.l, .slice uab Tb.length ucb] : Array Value)[o]? := fun o => by rw [(bcell hb).1 _ _ (by omega), hxbb_w9]
  have hz_w10 := hb.size
  have HVx := Lib.hid (HV.out.below hb); clear HV; have HV := HVx; clear HVx
  have HTx := Lib.hid (HT.out.below hb); clear HT; have HT := HTx; clear HTx
  have HCx := Lib.hid (HC.out.below hb); clear HC; have HC := HCx; clear HCx
  have HR1x := Lib.hid (HR1.out.below hb); clear HR1; have HR1 := HR1x; clear HR1x
  have HR2x := Lib.hid (HR2.out.below hb); clear HR2; have HR2 := HR2x; clear HR2x
  have HTbx := Lib.hid (HTb.out.below hb); clear HTb; have HTb := HTbx; clear HTbx
  have HCbx := Lib.hid (HCb.out.below hb); clear HCb; have HCb := HCbx; clear HCbx
  have HBx := Lib.hid (HB.out.trans (hb.mono (by omega))); clear HB; have HB := HBx; clear HBx
  clear hxb_w9
  clear hxbb_w9
  clear hb
  go_wp2_with fail
  refine (DoorGhostsR_any mb _ _ Tb cutsb nb _ HTb.out HCb.out).mono ?_
  rintro e' w11 ⟨rfl, hb⟩
  rw [ED.out]
  have hxb_w11 : ∀ o, w11.cell? ⟨w2.heap.size, o, none⟩ = (#[.int .i64 m.c, .int .i64 m.d, .int .i64 m.s, .int .i64 m.e, .int .i64 m.l, .slice ua T.length uc] : Array Value)[o]? := fun o => by rw [(bcell hb).1 _ _ (by omega), hxb_w10]
  have hxbb_w11 : ∀ o, w11.cell? ⟨w8.heap.size, o, none⟩ = (#[.int .i64 mb.c, .int .i64 mb.d, .int .i64 mb.s, .int .i64 mb.e, .int .i64 mb.l, .slice uab Tb.length ucb] : Array Value)[o]? := fun o => by rw [(bcell hb).1 _ _ (by omega), hxbb_w10]
  have hz_w11 := hb.size
  have HVx := Lib.hid (HV.out.below hb); clear HV; have HV := HVx; clear HVx
  have HTx := Lib.hid (HT.out.below hb); clear HT; have HT := HTx; clear HTx
  have HCx := Lib.hid (HC.out.below hb); clear HC; have HC := HCx; clear HCx
  have HR1x := Lib.hid (HR1.out.below hb); clear HR1; have HR1 := HR1x; clear HR1x
  have HR2x := Lib.hid (HR2.out.below hb); clear HR2; have HR2 := HR2x; clear HR2x
  have HTbx := Lib.hid (HTb.out.below hb); clear HTb; have HTb := HTbx; clear HTbx
  have HCbx := Lib.hid (HCb.out.below hb); clear HCb; have HCb := HCbx; clear HCbx
  have HBx := Lib.hid (HB.out.trans (hb.mono (by omega))); clear HB; have HB := HBx; clear HBx
  clear hxb_w10
  clear hxbb_w10
  clear hb
  go_wp2_with fail
  refine (DrawDoorsOpened_any _ l _ HV.out).mono ?_
  rintro e' w12 hD
  obtain ⟨mc, uc, cvc, Tc, cutsc, kvc, keyc, rfl, hk, hu, hcv, hb⟩ := hD.open
  obtain ⟨uac, ucc, rfl, _⟩ := hu.form
  obtain ⟨cac, ccc, rfl, _⟩ := hcv.form
  obtain ⟨xac, xcc, rfl, _⟩ := hk.form
  obtain ⟨w13, hw3, hb3, hz3, _, hc3, _⟩ := box_facts w12 (#[.int .i64 mc.c, .int .i64 mc.d, .int .i64 mc.s, .int .i64 mc.e, .int .i64 mc.l, .slice uac Tc.length ucc] : Array Value) 28
  have hu := Lib.hid (hu.any.below hb3); have hcv := Lib.hid (hcv.any.below hb3)
  have HXc := Lib.hid (hk.any.below hb3); clear hk
  have Hw := Lib.hid hw3; clear hw3
  have hxb_w12 : ∀ o, w12.cell? ⟨w2.heap.size, o, none⟩ = (#[.int .i64 m.c, .int .i64 m.d, .int .i64 m.s, .int .i64 m.e, .int .i64 m.l, .slice ua T.length uc] : Array Value)[o]? := fun o => by rw [(bcell hb).1 _ _ (by omega), hxb_w11]
  have hxbb_w12 : ∀ o, w12.cell? ⟨w8.heap.size, o, none⟩ = (#[.int .i64 mb.c, .int .i64 mb.d, .int .i64 mb.s, .int .i64 mb.e, .int .i64 mb.l, .slice uab Tb.length ucb] : Array Value)[o]? := fun o => by rw [(bcell hb).1 _ _ (by omega), hxbb_w11]
  have hz_w12 := hb.size
  have HVx := Lib.hid (HV.out.below hb); clear HV; have HV := HVx; clear HVx
  have HTx := Lib.hid (HT.out.below hb); clear HT; have HT := HTx; clear HTx
  have HCx := Lib.hid (HC.out.below hb); clear HC; have HC := HCx; clear HCx
  have HR1x := Lib.hid (HR1.out.below hb); clear HR1; have HR1 := HR1x; clear HR1x
  have HR2x := Lib.hid (HR2.out.below hb); clear HR2; have HR2 := HR2x; clear HR2x
  have HTbx := Lib.hid (HTb.out.below hb); clear HTb; have HTb := HTbx; clear HTbx
  have HCbx := Lib.hid (HCb.out.below hb); clear HCb; have HCb := HCbx; clear HCbx
  have HBx := Lib.hid (HB.out.trans (hb.mono (by omega))); clear HB; have HB := HBx; clear HBx
  clear hxb_w11
  clear hxbb_w11
  clear hb
  have hxb_w13 : ∀ o, w13.cell? ⟨w2.heap.size, o, none⟩ = (#[.int .i64 m.c, .int .i64 m.d, .int .i64 m.s, .int .i64 m.e, .int .i64 m.l, .slice ua T.length uc] : Array Value)[o]? := fun o => by rw [(bcell hb3).1 _ _ (by omega), hxb_w12]
  have hxbb_w13 : ∀ o, w13.cell? ⟨w8.heap.size, o, none⟩ = (#[.int .i64 mb.c, .int .i64 mb.d, .int .i64 mb.s, .int .i64 mb.e, .int .i64 mb.l, .slice uab Tb.length ucb] : Array Value)[o]? := fun o => by rw [(bcell hb3).1 _ _ (by omega), hxbb_w12]
  have hz_w13 := hb3.size
  have HVx := Lib.hid (HV.out.below hb3); clear HV; have HV := HVx; clear HVx
  have HTx := Lib.hid (HT.out.below hb3); clear HT; have HT := HTx; clear HTx
  have HCx := Lib.hid (HC.out.below hb3); clear HC; have HC := HCx; clear HCx
  have HR1x := Lib.hid (HR1.out.below hb3); clear HR1; have HR1 := HR1x; clear HR1x
  have HR2x := Lib.hid (HR2.out.below hb3); clear HR2; have HR2 := HR2x; clear HR2x
  have HTbx := Lib.hid (HTb.out.below hb3); clear HTb; have HTb := HTbx; clear HTbx
  have HCbx := Lib.hid (HCb.out.below hb3); clear HCb; have HCb := HCbx; clear HCbx
  have HBx := Lib.hid (HB.out.trans (hb3.mono (by omega))); clear HB; have HB := HBx; clear HBx
  clear hxb_w12
  clear hxbb_w12
  clear hb3
  have HTc := hu; clear hu; have HCc := hcv; clear hcv
  have hxbc_w13 := hc3; clear hc3
  have hzbc := hz3; clear hz3
  go_wp2_with fail
  rw [← Hw.out]
  (try go_wp2_with fail)
  clear Hw
  obtain ⟨F, hF⟩ : ∃ x, doorsAns mc Tc cutsc keyc = x := ⟨_, rfl⟩
  have EF := Lib.hid hF; clear hF
  refine (DoorsOpened_any mc _ _ _ Tc cutsc keyc _ HTc.out HCc.out HXc.out).mono ?_
  rintro e' w14 ⟨r3, rfl, hR, hb⟩
  rw [EF.out] at hR ⊢
  obtain ⟨ra3, rc3, rfl, _⟩ := hR.v1.form
  have hxb_w14 : ∀ o, w14.cell? ⟨w2.heap.size, o, none⟩ = (#[.int .i64 m.c, .int .i64 m.d, .int .i64 m.s, .int .i64 m.e, .int .i64 m.l, .slice ua T.length uc] : Array Value)[o]? := fun o => by rw [(bcell hb).1 _ _ (by omega), hxb_w13]
  have hxbb_w14 : ∀ o, w14.cell? ⟨w8.heap.size, o, none⟩ = (#[.int .i64 mb.c, .int .i64 mb.d, .int .i64 mb.s, .int .i64 mb.e, .int .i64 mb.l, .slice uab Tb.length ucb] : Array Value)[o]? := fun o => by rw [(bcell hb).1 _ _ (by omega), hxbb_w13]
  have hxbc_w14 : ∀ o, w14.cell? ⟨w12.heap.size, o, none⟩ = (#[.int .i64 mc.c, .int .i64 mc.d, .int .i64 mc.s, .int .i64 mc.e, .int .i64 mc.l, .slice uac Tc.length ucc] : Array Value)[o]? := fun o => by rw [(bcell hb).1 _ _ (by omega), hxbc_w13]
  have hz_w14 := hb.size
  have HVx := Lib.hid (HV.out.below hb); clear HV; have HV := HVx; clear HVx
  have HTx := Lib.hid (HT.out.below hb); clear HT; have HT := HTx; clear HTx
  have HCx := Lib.hid (HC.out.below hb); clear HC; have HC := HCx; clear HCx
  have HR1x := Lib.hid (HR1.out.below hb); clear HR1; have HR1 := HR1x; clear HR1x
  have HR2x := Lib.hid (HR2.out.below hb); clear HR2; have HR2 := HR2x; clear HR2x
  have HTbx := Lib.hid (HTb.out.below hb); clear HTb; have HTb := HTbx; clear HTbx
  have HCbx := Lib.hid (HCb.out.below hb); clear HCb; have HCb := HCbx; clear HCbx
  have HTcx := Lib.hid (HTc.out.below hb); clear HTc; have HTc := HTcx; clear HTcx
  have HCcx := Lib.hid (HCc.out.below hb); clear HCc; have HCc := HCcx; clear HCcx
  have HXcx := Lib.hid (HXc.out.below hb); clear HXc; have HXc := HXcx; clear HXcx
  have HBx := Lib.hid (HB.out.trans (hb.mono (by omega))); clear HB; have HB := HBx; clear HBx
  clear hxb_w13
  clear hxbb_w13
  clear hxbc_w13
  clear hb
  have HR3 := Lib.hid (hR.v1.any); clear hR
  go_wp2_with fail
  refine (DoorsOpenedR_any mc _ _ _ Tc cutsc keyc _ HTc.out HCc.out HXc.out).mono ?_
  rintro e' w15 ⟨r4, rfl, hR, hb⟩
  rw [EF.out] at hR ⊢
  obtain ⟨ra4, rc4, rfl, _⟩ := hR.form
  have hxb_w15 : ∀ o, w15.cell? ⟨w2.heap.size, o, none⟩ = (#[.int .i64 m.c, .int .i64 m.d, .int .i64 m.s, .int .i64 m.e, .int .i64 m.l, .slice ua T.length uc] : Array Value)[o]? := fun o => by rw [(bcell hb).1 _ _ (by omega), hxb_w14]
  have hxbb_w15 : ∀ o, w15.cell? ⟨w8.heap.size, o, none⟩ = (#[.int .i64 mb.c, .int .i64 mb.d, .int .i64 mb.s, .int .i64 mb.e, .int .i64 mb.l, .slice uab Tb.length ucb] : Array Value)[o]? := fun o => by rw [(bcell hb).1 _ _ (by omega), hxbb_w14]
  have hxbc_w15 : ∀ o, w15.cell? ⟨w12.heap.size, o, none⟩ = (#[.int .i64 mc.c, .int .i64 mc.d, .int .i64 mc.s, .int .i64 mc.e, .int .i64 mc.l, .slice uac Tc.length ucc] : Array Value)[o]? := fun o => by rw [(bcell hb).1 _ _ (by omega), hxbc_w14]
  have hz_w15 := hb.size
  have HVx := Lib.hid (HV.out.below hb); clear HV; have HV := HVx; clear HVx
  have HTx := Lib.hid (HT.out.below hb); clear HT; have HT := HTx; clear HTx
  have HCx := Lib.hid (HC.out.below hb); clear HC; have HC := HCx; clear HCx
  have HR1x := Lib.hid (HR1.out.below hb); clear HR1; have HR1 := HR1x; clear HR1x
  have HR2x := Lib.hid (HR2.out.below hb); clear HR2; have HR2 := HR2x; clear HR2x
  have HTbx := Lib.hid (HTb.out.below hb); clear HTb; have HTb := HTbx; clear HTbx
  have HCbx := Lib.hid (HCb.out.below hb); clear HCb; have HCb := HCbx; clear HCbx
  have HTcx := Lib.hid (HTc.out.below hb); clear HTc; have HTc := HTcx; clear HTcx
  have HCcx := Lib.hid (HCc.out.below hb); clear HCc; have HCc := HCcx; clear HCcx
  have HXcx := Lib.hid (HXc.out.below hb); clear HXc; have HXc := HXcx; clear HXcx
  have HR3x := Lib.hid (HR3.out.below hb); clear HR3; have HR3 := HR3x; clear HR3x
  have HBx := Lib.hid (HB.out.trans (hb.mono (by omega))); clear HB; have HB := HBx; clear HBx
  clear hxb_w14
  clear hxbb_w14
  clear hxbc_w14
  clear hb
  have HR4 := Lib.hid (hR.any); clear hR
  go_wp2_with fail
  refine (likeInts_w _ _ (A.1) (A.1) _ true (decide_eq_true rfl) HR1.out HR2.out).mono ?_
  rintro e' w16 ⟨rfl, hb⟩
  have hxb_w16 : ∀ o, w16.cell? ⟨w2.heap.size, o, none⟩ = (#[.int .i64 m.c, .int .i64 m.d, .int .i64 m.s, .int .i64 m.e, .int .i64 m.l, .slice ua T.length uc] : Array Value)[o]? := fun o => by rw [(bcell hb).1 _ _ (by omega), hxb_w15]
  have hxbb_w16 : ∀ o, w16.cell? ⟨w8.heap.size, o, none⟩ = (#[.int .i64 mb.c, .int .i64 mb.d, .int .i64 mb.s, .int .i64 mb.e, .int .i64 mb.l, .slice uab Tb.length ucb] : Array Value)[o]? := fun o => by rw [(bcell hb).1 _ _ (by omega), hxbb_w15]
  have hxbc_w16 : ∀ o, w16.cell? ⟨w12.heap.size, o, none⟩ = (#[.int .i64 mc.c, .int .i64 mc.d, .int .i64 mc.s, .int .i64 mc.e, .int .i64 mc.l, .slice uac Tc.length ucc] : Array Value)[o]? := fun o => by rw [(bcell hb).1 _ _ (by omega), hxbc_w15]
  have hz_w16 := hb.size
  have HVx := Lib.hid (HV.out.below hb); clear HV; have HV := HVx; clear HVx
  have HTx := Lib.hid (HT.out.below hb); clear HT; have HT := HTx; clear HTx
  have HCx := Lib.hid (HC.out.below hb); clear HC; have HC := HCx; clear HCx
  have HR1x := Lib.hid (HR1.out.below hb); clear HR1; have HR1 := HR1x; clear HR1x
  have HR2x := Lib.hid (HR2.out.below hb); clear HR2; have HR2 := HR2x; clear HR2x
  have HTbx := Lib.hid (HTb.out.below hb); clear HTb; have HTb := HTbx; clear HTbx
  have HCbx := Lib.hid (HCb.out.below hb); clear HCb; have HCb := HCbx; clear HCbx
  have HTcx := Lib.hid (HTc.out.below hb); clear HTc; have HTc := HTcx; clear HTcx
  have HCcx := Lib.hid (HCc.out.below hb); clear HCc; have HCc := HCcx; clear HCcx
  have HXcx := Lib.hid (HXc.out.below hb); clear HXc; have HXc := HXcx; clear HXcx
  have HR3x := Lib.hid (HR3.out.below hb); clear HR3; have HR3 := HR3x; clear HR3x
  have HR4x := Lib.hid (HR4.out.below hb); clear HR4; have HR4 := HR4x; clear HR4x
  have HBx := Lib.hid (HB.out.trans (hb.mono (by omega))); clear HB; have HB := HBx; clear HBx
  clear hxb_w15
  clear hxbb_w15
  clear hxbc_w15
  clear hb
  go_wp2_with fail
  refine (likeInts_w _ _ (F.1) (F.1) _ true (decide_eq_true rfl) HR3.out HR4.out).mono ?_
  rintro e' w17 ⟨rfl, hb⟩
  have hxb_w17 : ∀ o, w17.cell? ⟨w2.heap.size, o, none⟩ = (#[.int .i64 m.c, .int .i64 m.d, .int .i64 m.s, .int .i64 m.e, .int .i64 m.l, .slice ua T.length uc] : Array Value)[o]? := fun o => by rw [(bcell hb).1 _ _ (by omega), hxb_w16]
  have hxbb_w17 : ∀ o, w17.cell? ⟨w8.heap.size, o, none⟩ = (#[.int .i64 mb.c, .int .i64 mb.d, .int .i64 mb.s, .int .i64 mb.e, .int .i64 mb.l, .slice uab Tb.length ucb] : Array Value)[o]? := fun o => by rw [(bcell hb).1 _ _ (by omega), hxbb_w16]
  have hxbc_w17 : ∀ o, w17.cell? ⟨w12.heap.size, o, none⟩ = (#[.int .i64 mc.c, .int .i64 mc.d, .int .i64 mc.s, .int .i64 mc.e, .int .i64 mc.l, .slice uac Tc.length ucc] : Array Value)[o]? := fun o => by rw [(bcell hb).1 _ _ (by omega), hxbc_w16]
  have hz_w17 := hb.size
  have HVx := Lib.hid (HV.out.below hb); clear HV; have HV := HVx; clear HVx
  have HTx := Lib.hid (HT.out.below hb); clear HT; have HT := HTx; clear HTx
  have HCx := Lib.hid (HC.out.below hb); clear HC; have HC := HCx; clear HCx
  have HR1x := Lib.hid (HR1.out.below hb); clear HR1; have HR1 := HR1x; clear HR1x
  have HR2x := Lib.hid (HR2.out.below hb); clear HR2; have HR2 := HR2x; clear HR2x
  have HTbx := Lib.hid (HTb.out.below hb); clear HTb; have HTb := HTbx; clear HTbx
  have HCbx := Lib.hid (HCb.out.below hb); clear HCb; have HCb := HCbx; clear HCbx
  have HTcx := Lib.hid (HTc.out.below hb); clear HTc; have HTc := HTcx; clear HTcx
  have HCcx := Lib.hid (HCc.out.below hb); clear HCc; have HCc := HCcx; clear HCcx
  have HXcx := Lib.hid (HXc.out.below hb); clear HXc; have HXc := HXcx; clear HXcx
  have HR3x := Lib.hid (HR3.out.below hb); clear HR3; have HR3 := HR3x; clear HR3x
  have HR4x := Lib.hid (HR4.out.below hb); clear HR4; have HR4 := HR4x; clear HR4x
  have HBx := Lib.hid (HB.out.trans (hb.mono (by omega))); clear HB; have HB := HBx; clear HBx
  clear hxb_w16
  clear hxbb_w16
  clear hxbc_w16
  clear hb
  by_cases hp : A.2 = 0
  rotate_left
  · have hpd : (A.2 != 0) = true := by simp [hp]
    go_wp2_with fail
    go_ret
    exact ⟨rfl, HB.out⟩
  have hpd : (A.2 != 0) = false := by simp [hp]
  have hlaw := opn_law (m := m) (t := T) (cuts := cuts) (by rw [EA.out]; exact hp)
  have hfew := opnAns_few m T cuts
  rw [EA.out, EB.out] at hlaw
  rw [EA.out] at hfew
  have hkl := keysOf_length hlaw.1
  have h0 := hfew.2 _ (geti_mem hlaw.2.2.2)
  have hwr : IntKind.i64.wrap (((keysOf m).length : Int) - geti A.1 0) = B.1 := by rw [hlaw.2.2.1]; exact IntWalk.i64_in _ (by omega)
  obtain ⟨K, hK⟩ : ∃ K, ((keysOf m).length : Int) = K := ⟨_, rfl⟩
  rw [hK] at hwr hlaw
  have h00 : ¬ A.1.length ≤ 0 := by have := hlaw.2.2.2; omega
  have HLw := Lib.hid (And.intro hlaw (And.intro hfew hK)); clear hlaw hfew hK hp h0 hkl
  obtain ⟨bq, oq, rfl, _, hcq⟩ := HR2.out.cell (k := 0) (by omega)
  simp only [Nat.add_zero] at hcq
  have hcqb := lt_of_cell hcq
  have Hcq := Lib.hid hcq; clear hcq
  go_wp2_with fail
  refine (CountKeys_any m HLw.out.1.1 _).mono ?_
  rintro e' w18 ⟨rfl, hb⟩
  rw [HLw.out.2.2]
  have hcq2 := cell_keep Hcq.out (hb.block _ (lt_of_cell Hcq.out))
  have hxb_w18 : ∀ o, w18.cell? ⟨w2.heap.size, o, none⟩ = (#[.int .i64 m.c, .int .i64 m.d, .int .i64 m.s, .int .i64 m.e, .int .i64 m.l, .slice ua T.length uc] : Array Value)[o]? := fun o => by rw [(bcell hb).1 _ _ (by omega), hxb_w17]
  have hxbb_w18 : ∀ o, w18.cell? ⟨w8.heap.size, o, none⟩ = (#[.int .i64 mb.c, .int .i64 mb.d, .int .i64 mb.s, .int .i64 mb.e, .int .i64 mb.l, .slice uab Tb.length ucb] : Array Value)[o]? := fun o => by rw [(bcell hb).1 _ _ (by omega), hxbb_w17]
  have hxbc_w18 : ∀ o, w18.cell? ⟨w12.heap.size, o, none⟩ = (#[.int .i64 mc.c, .int .i64 mc.d, .int .i64 mc.s, .int .i64 mc.e, .int .i64 mc.l, .slice uac Tc.length ucc] : Array Value)[o]? := fun o => by rw [(bcell hb).1 _ _ (by omega), hxbc_w17]
  have hz_w18 := hb.size
  have HVx := Lib.hid (HV.out.below hb); clear HV; have HV := HVx; clear HVx
  have HTx := Lib.hid (HT.out.below hb); clear HT; have HT := HTx; clear HTx
  have HCx := Lib.hid (HC.out.below hb); clear HC; have HC := HCx; clear HCx
  have HR1x := Lib.hid (HR1.out.below hb); clear HR1; have HR1 := HR1x; clear HR1x
  have HR2x := Lib.hid (HR2.out.below hb); clear HR2; have HR2 := HR2x; clear HR2x
  have HTbx := Lib.hid (HTb.out.below hb); clear HTb; have HTb := HTbx; clear HTbx
  have HCbx := Lib.hid (HCb.out.below hb); clear HCb; have HCb := HCbx; clear HCbx
  have HTcx := Lib.hid (HTc.out.below hb); clear HTc; have HTc := HTcx; clear HTcx
  have HCcx := Lib.hid (HCc.out.below hb); clear HCc; have HCc := HCcx; clear HCcx
  have HXcx := Lib.hid (HXc.out.below hb); clear HXc; have HXc := HXcx; clear HXcx
  have HR3x := Lib.hid (HR3.out.below hb); clear HR3; have HR3 := HR3x; clear HR3x
  have HR4x := Lib.hid (HR4.out.below hb); clear HR4; have HR4 := HR4x; clear HR4x
  have HBx := Lib.hid (HB.out.trans (hb.mono (by omega))); clear HB; have HB := HBx; clear HBx
  clear hxb_w17
  clear hxbb_w17
  clear hxbc_w17
  clear hb
  go_wp2_with fail
  refine (lawSum_any _ A.1 _ K HLw.out.1.2.1 HR1.out HLw.out.2.1).mono ?_
  rintro e' w' ⟨rfl, hw⟩
  subst hw
  go_wp2_with fail
  go_ret
  exact ⟨rfl, HB.out⟩
end Go.Proofs.YtmfgdoflddhngaaGreat
