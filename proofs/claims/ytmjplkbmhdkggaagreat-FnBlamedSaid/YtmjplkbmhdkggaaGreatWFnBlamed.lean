/- The walk of 'laws.FnBlamed'. No conditions. -/
import Derived.Test.YtmjplkbmhdkggaaGreatMTable
import Derived.Test.YtmjplkbmhdkggaaGreatMRefFirst
import Derived.Test.YtmjplkbmhdkggaaGreatMRowsR
import Derived.Test.YtmjplkbmhdkggaaGreatMBlameF
import Derived.Test.YtmjplkbmhdkggaaGreatKeepW
import Derived.Test.YtmjplkbmhdkggaaGreatMKeepR
namespace Go.Proofs.YtmjplkbmhdkggaaGreat
open Go.RowKit
set_option linter.unusedVariables false
set_option linter.unusedSimpArgs false
set_option maxHeartbeats 4000000 in
set_option maxRecDepth 100000 in
theorem fnBlamed_walk (W : World) (v : Value) (l : List Int) (h : VB (Old W) W v l) :
  Calls Tryz.prog 4 #[v] W fun e' w' => e' = .returned (.bool true) ∧ Below W.heap.size W w' := by
 have hV := h
 obtain ⟨a, c, rfl, hm⟩ := h.form
 have HV := Lib.hid hV; clear hV h
 cases hbig : decide (4096 < l.length)
 rotate_left
 ·have Hbig := Lib.hid hbig; clear hbig
  go_enter Tryz.func4, Tryz.ntmps4
  go_wp2_with fail
  refine (big_any _ l W true Hbig.out HV.out).mono ?_
  rintro e' w' ⟨rfl, hW⟩
  subst hW
  go_wp2_with fail
  go_ret
  exact ⟨rfl, Below.refl _ _⟩
 have Hbig := Lib.hid hbig; clear hbig
 go_enter Tryz.func4, Tryz.ntmps4
 go_wp2_with fail
 refine (big_any _ l W false Hbig.out HV.out).mono ?_
 rintro e' w' ⟨rfl, hW⟩
 subst hW
 have HB := Lib.hid (Below.refl W.heap.size W)
 go_wp2_with fail
 refine (DrawBlamedRows_any _ l _ HV.out).mono ?_
 rintro e' w2 hD
 obtain ⟨m, u, cv, T, cuts, rfl, hu, hcv, hb⟩ := hD.open
 obtain ⟨ua, uc, rfl, _⟩ := hu.form
 obtain ⟨ca, cc, rfl, _⟩ := hcv.form
 obtain ⟨w3, hw3, hb3, hz3, _, hc3, _⟩ := box_facts w2 (#[.int .i64 m.c, .int .i64 m.d, .int .i64 m.s, .int .i64 m.e, .int .i64 m.l, .slice ua T.length uc] : Array Value) 33
 have hu := Lib.hid (hu.any.below hb3); have hcv := Lib.hid (hcv.any.below hb3)
 have Hw := Lib.hid hw3; clear hw3
 have hz_w2 := hb.size
 have HVx := Lib.hid (HV.out.below hb); clear HV; have HV := HVx; clear HVx
 have HBx := Lib.hid (HB.out.trans (hb.mono (by omega))); clear HB; have HB := HBx; clear HBx
 clear hb
 have hz_w3 := hb3.size
 have HVx := Lib.hid (HV.out.below hb3); clear HV; have HV := HVx; clear HVx
 have HBx := Lib.hid (HB.out.trans (hb3.mono (by omega))); clear HB; have HB := HBx; clear HBx
 clear hb3
 have HT := hu; clear hu; have HC := hcv; clear hcv
 have hxb_w3 := hc3; clear hc3
 have hzb := hz3; clear hz3
 go_wp2_with fail
 rw [← Hw.out]
 (try go_wp2_with fail)
 clear Hw
 obtain ⟨A, hA⟩ : ∃ x, blameAns m T cuts = x := ⟨_, rfl⟩
 have EA := Lib.hid hA; clear hA
 refine (BlamedRows_any m _ _ T cuts _ HT.out HC.out).mono ?_
 rintro e' w4 ⟨r1, rfl, hR, hb⟩
 rw [EA.out] at hR ⊢
 obtain ⟨ra1, rc1, rfl, _⟩ := hR.v1.form
 have hxb_w4 : ∀ o, w4.cell? ⟨w2.heap.size, o, none⟩ = (#[.int .i64 m.c, .int .i64 m.d, .int .i64 m.s, .int .i64 m.e, .int .i64 m.l, .slice ua T.length uc] : Array Value)[o]? := fun o => by rw [(bcell hb).1 _ _ (by omega), hxb_w3]
 have hz_w4 := hb.size
 have HVx := Lib.hid (HV.out.below hb); clear HV; have HV := HVx; clear HVx
 have HTx := Lib.hid (HT.out.below hb); clear HT; have HT := HTx; clear HTx
 have HCx := Lib.hid (HC.out.below hb); clear HC; have HC := HCx; clear HCx
 have HBx := Lib.hid (HB.out.trans (hb.mono (by omega))); clear HB; have HB := HBx; clear HBx
 clear hxb_w3
 clear hb
 have HR1 := Lib.hid (hR.v1.any); clear hR
 go_wp2_with fail
 refine (BlamedRowsR_any m _ _ T cuts _ HT.out HC.out).mono ?_
 rintro e' w5 ⟨r2, rfl, hR, hb⟩
 rw [EA.out] at hR ⊢
 obtain ⟨ra2, rc2, rfl, _⟩ := hR.form
 have hxb_w5 : ∀ o, w5.cell? ⟨w2.heap.size, o, none⟩ = (#[.int .i64 m.c, .int .i64 m.d, .int .i64 m.s, .int .i64 m.e, .int .i64 m.l, .slice ua T.length uc] : Array Value)[o]? := fun o => by rw [(bcell hb).1 _ _ (by omega), hxb_w4]
 have hz_w5 := hb.size
 have HVx := Lib.hid (HV.out.below hb); clear HV; have HV := HVx; clear HVx
 have HTx := Lib.hid (HT.out.below hb); clear HT; have HT := HTx; clear HTx
 have HCx := Lib.hid (HC.out.below hb); clear HC; have HC := HCx; clear HCx
 have HR1x := Lib.hid (HR1.out.below hb); clear HR1; have HR1 := HR1x; clear HR1x
 have HBx := Lib.hid (HB.out.trans (hb.mono (by omega))); clear HB; have HB := HBx; clear HBx
 clear hxb_w4
 clear hb
 have HR2 := Lib.hid (hR.any); clear hR
 go_wp2_with fail
 refine (DrawKeepRows_any _ l _ HV.out).mono ?_
 rintro e' w6 hD
 obtain ⟨mx, ux, cvx, Tx, cutsx, kvx, keyx, rfl, hk, hu, hcv, hb⟩ := hD.open
 obtain ⟨uax, ucx, rfl, _⟩ := hu.form
 obtain ⟨cax, ccx, rfl, _⟩ := hcv.form
 obtain ⟨xax, xcx, rfl, _⟩ := hk.form
 obtain ⟨w7, hw3, hb3, hz3, _, hc3, _⟩ := box_facts w6 (#[.int .i64 mx.c, .int .i64 mx.d, .int .i64 mx.s, .int .i64 mx.e, .int .i64 mx.l, .slice uax Tx.length ucx] : Array Value) 33
 have hu := Lib.hid (hu.any.below hb3); have hcv := Lib.hid (hcv.any.below hb3)
 have HXx := Lib.hid (hk.any.below hb3); clear hk
 have Hw := Lib.hid hw3; clear hw3
 have hxb_w6 : ∀ o, w6.cell? ⟨w2.heap.size, o, none⟩ = (#[.int .i64 m.c, .int .i64 m.d, .int .i64 m.s, .int .i64 m.e, .int .i64 m.l, .slice ua T.length uc] : Array Value)[o]? := fun o => by rw [(bcell hb).1 _ _ (by omega), hxb_w5]
 have hz_w6 := hb.size
 have HVx := Lib.hid (HV.out.below hb); clear HV; have HV := HVx; clear HVx
 have HTx := Lib.hid (HT.out.below hb); clear HT; have HT := HTx; clear HTx
 have HCx := Lib.hid (HC.out.below hb); clear HC; have HC := HCx; clear HCx
 have HR1x := Lib.hid (HR1.out.below hb); clear HR1; have HR1 := HR1x; clear HR1x
 have HR2x := Lib.hid (HR2.out.below hb); clear HR2; have HR2 := HR2x; clear HR2x
 have HBx := Lib.hid (HB.out.trans (hb.mono (by omega))); clear HB; have HB := HBx; clear HBx
 clear hxb_w5
 clear hb
 have hxb_w7 : ∀ o, w7.cell? ⟨w2.heap.size, o, none⟩ = (#[.int .i64 m.c, .int .i64 m.d, .int .i64 m.s, .int .i64 m.e, .int .i64 m.l, .slice ua T.length uc] : Array Value)[o]? := fun o => by rw [(bcell hb3).1 _ _ (by omega), hxb_w6]
 have hz_w7 := hb3.size
 have HVx := Lib.hid (HV.out.below hb3); clear HV; have HV := HVx; clear HVx
 have HTx := Lib.hid (HT.out.below hb3); clear HT; have HT := HTx; clear HTx
 have HCx := Lib.hid (HC.out.below hb3); clear HC; have HC := HCx; clear HCx
 have HR1x := Lib.hid (HR1.out.below hb3); clear HR1; have HR1 := HR1x; clear HR1x
 have HR2x := Lib.hid (HR2.out.below hb3); clear HR2; have HR2 := HR2x; clear HR2x
 have HBx := Lib.hid (HB.out.trans (hb3.mono (by omega))); clear HB; have HB := HBx; clear HBx
 clear hxb_w6
 clear hb3
 have HTx := hu; clear hu; have HCx := hcv; clear hcv
 have hxbx_w7 := hc3; clear hc3
 have hzbx := hz3; clear hz3
 go_wp2_with fail
 rw [← Hw.out]
 (try go_wp2_with fail)
 clear Hw
 obtain ⟨B, hB⟩ : ∃ x, keepAns mx Tx cutsx keyx = x := ⟨_, rfl⟩
 have EB := Lib.hid hB; clear hB
 obtain ⟨MB, hMB⟩ : ∃ x, keepM mx B.1 = x := ⟨_, rfl⟩
 have EM := Lib.hid hMB; clear hMB
 have hkr := KeepRows_any mx _ _ _ Tx cutsx keyx _ HTx.out HCx.out HXx.out
 rw [EB.out, EM.out] at hkr
 refine hkr.mono ?_
 clear hkr
 rintro e' w8 ⟨ku, kv, rfl, hK, hb⟩
 have hk1 := hK.v2.1
 have hk2 := hK.v2.2
 clear hK
 obtain ⟨ua3, uc3, rfl, _⟩ := hk1.form
 obtain ⟨ka3, kc3, rfl, _⟩ := hk2.form
 obtain ⟨w9, hw3, hb3, hz3, _, hc3, _⟩ := box_facts w8 (#[.int .i64 MB.c, .int .i64 MB.d, .int .i64 MB.s, .int .i64 MB.e, .int .i64 MB.l, .slice ua3 B.2.1.length uc3] : Array Value) 33
 have hk1x := (hk1.below hb3).any; clear hk1; have hk2x := (hk2.below hb3).any; clear hk2
 have Hw := Lib.hid hw3; clear hw3
 have hxb_w8 : ∀ o, w8.cell? ⟨w2.heap.size, o, none⟩ = (#[.int .i64 m.c, .int .i64 m.d, .int .i64 m.s, .int .i64 m.e, .int .i64 m.l, .slice ua T.length uc] : Array Value)[o]? := fun o => by rw [(bcell hb).1 _ _ (by omega), hxb_w7]
 have hxbx_w8 : ∀ o, w8.cell? ⟨w6.heap.size, o, none⟩ = (#[.int .i64 mx.c, .int .i64 mx.d, .int .i64 mx.s, .int .i64 mx.e, .int .i64 mx.l, .slice uax Tx.length ucx] : Array Value)[o]? := fun o => by rw [(bcell hb).1 _ _ (by omega), hxbx_w7]
 have hz_w8 := hb.size
 have HVx := Lib.hid (HV.out.below hb); clear HV; have HV := HVx; clear HVx
 have HTx := Lib.hid (HT.out.below hb); clear HT; have HT := HTx; clear HTx
 have HCx := Lib.hid (HC.out.below hb); clear HC; have HC := HCx; clear HCx
 have HR1x := Lib.hid (HR1.out.below hb); clear HR1; have HR1 := HR1x; clear HR1x
 have HR2x := Lib.hid (HR2.out.below hb); clear HR2; have HR2 := HR2x; clear HR2x
 have HTxx := Lib.hid (HTx.out.below hb); clear HTx; have HTx := HTxx; clear HTxx
 have HCxx := Lib.hid (HCx.out.below hb); clear HCx; have HCx := HCxx; clear HCxx
 have HXxx := Lib.hid (HXx.out.below hb); clear HXx; have HXx := HXxx; clear HXxx
 have HBx := Lib.hid (HB.out.trans (hb.mono (by omega))); clear HB; have HB := HBx; clear HBx
 clear hxb_w7
 clear hxbx_w7
 clear hb
 have hxb_w9 : ∀ o, w9.cell? ⟨w2.heap.size, o, none⟩ = (#[.int .i64 m.c, .int .i64 m.d, .int .i64 m.s, .int .i64 m.e, .int .i64 m.l, .slice ua T.length uc] : Array Value)[o]? := fun o => by rw [(bcell hb3).1 _ _ (by omega), hxb_w8]
 have hxbx_w9 : ∀ o, w9.cell? ⟨w6.heap.size, o, none⟩ = (#[.int .i64 mx.c, .int .i64 mx.d, .int .i64 mx.s, .int .i64 mx.e, .int .i64 mx.l, .slice uax Tx.length ucx] : Array Value)[o]? := fun o => by rw [(bcell hb3).1 _ _ (by omega), hxbx_w8]
 have hz_w9 := hb3.size
 have HVx := Lib.hid (HV.out.below hb3); clear HV; have HV := HVx; clear HVx
 have HTx := Lib.hid (HT.out.below hb3); clear HT; have HT := HTx; clear HTx
 have HCx := Lib.hid (HC.out.below hb3); clear HC; have HC := HCx; clear HCx
 have HR1x := Lib.hid (HR1.out.below hb3); clear HR1; have HR1 := HR1x; clear HR1x
 have HR2x := Lib.hid (HR2.out.below hb3); clear HR2; have HR2 := HR2x; clear HR2x
 have HTxx := Lib.hid (HTx.out.below hb3); clear HTx; have HTx := HTxx; clear HTxx
 have HCxx := Lib.hid (HCx.out.below hb3); clear HCx; have HCx := HCxx; clear HCxx
 have HXxx := Lib.hid (HXx.out.below hb3); clear HXx; have HXx := HXxx; clear HXxx
 have HBx := Lib.hid (HB.out.trans (hb3.mono (by omega))); clear HB; have HB := HBx; clear HBx
 clear hxb_w8
 clear hxbx_w8
 clear hb3
 have HU3 := Lib.hid hk1x; clear hk1x; have HK3 := Lib.hid hk2x; clear hk2x
 have hxb3_w9 := hc3; clear hc3
 have hzb3 := hz3; clear hz3
 have hqb : ∀ o, (w8.alloc (.cells #[.int .i64 MB.c, .int .i64 MB.d, .int .i64 MB.s, .int .i64 MB.e, .int .i64 MB.l, .slice ua3 B.2.1.length uc3] 33)).cell? ⟨w2.heap.size, o, none⟩ = (#[.int .i64 m.c, .int .i64 m.d, .int .i64 m.s, .int .i64 m.e, .int .i64 m.l, .slice ua T.length uc] : Array Value)[o]? := fun o => by rw [← Hw.out]; exact hxb_w9 o
 have hqbx : ∀ o, (w8.alloc (.cells #[.int .i64 MB.c, .int .i64 MB.d, .int .i64 MB.s, .int .i64 MB.e, .int .i64 MB.l, .slice ua3 B.2.1.length uc3] 33)).cell? ⟨w6.heap.size, o, none⟩ = (#[.int .i64 mx.c, .int .i64 mx.d, .int .i64 mx.s, .int .i64 mx.e, .int .i64 mx.l, .slice uax Tx.length ucx] : Array Value)[o]? := fun o => by rw [← Hw.out]; exact hxbx_w9 o
 go_wp2_with fail
 rw [← Hw.out]
 (try go_wp2_with fail)
 clear Hw
 clear hqb
 clear hqbx
 have hkr := KeepRowsR_own mx _ _ _ Tx cutsx keyx _ HTx.out HCx.out HXx.out
 rw [EB.out, EM.out] at hkr
 refine hkr.mono ?_
 clear hkr
 rintro e' w10 ⟨ku, kv, rfl, hK, hb⟩
 have hk1 := hK.v2.1
 have hk2 := hK.v2.2
 clear hK
 obtain ⟨ua4, uc4, rfl, _⟩ := hk1.form
 obtain ⟨ka4, kc4, rfl, _⟩ := hk2.form
 obtain ⟨w11, hw3, hb3, hz3, _, hc3, _⟩ := box_facts w10 (#[.int .i64 MB.c, .int .i64 MB.d, .int .i64 MB.s, .int .i64 MB.e, .int .i64 MB.l, .slice ua4 B.2.1.length uc4] : Array Value) 33
 have hk1x := (hk1.below hb3).any; clear hk1; have hk2x := (hk2.below hb3).any; clear hk2
 have Hw := Lib.hid hw3; clear hw3
 have hxb_w10 : ∀ o, w10.cell? ⟨w2.heap.size, o, none⟩ = (#[.int .i64 m.c, .int .i64 m.d, .int .i64 m.s, .int .i64 m.e, .int .i64 m.l, .slice ua T.length uc] : Array Value)[o]? := fun o => by rw [(bcell hb).1 _ _ (by omega), hxb_w9]
 have hxbx_w10 : ∀ o, w10.cell? ⟨w6.heap.size, o, none⟩ = (#[.int .i64 mx.c, .int .i64 mx.d, .int .i64 mx.s, .int .i64 mx.e, .int .i64 mx.l, .slice uax Tx.length ucx] : Array Value)[o]? := fun o => by rw [(bcell hb).1 _ _ (by omega), hxbx_w9]
 have hxb3_w10 : ∀ o, w10.cell? ⟨w8.heap.size, o, none⟩ = (#[.int .i64 MB.c, .int .i64 MB.d, .int .i64 MB.s, .int .i64 MB.e, .int .i64 MB.l, .slice ua3 B.2.1.length uc3] : Array Value)[o]? := fun o => by rw [(bcell hb).1 _ _ (by omega), hxb3_w9]
 have hz_w10 := hb.size
 have HVx := Lib.hid (HV.out.below hb); clear HV; have HV := HVx; clear HVx
 have HTx := Lib.hid (HT.out.below hb); clear HT; have HT := HTx; clear HTx
 have HCx := Lib.hid (HC.out.below hb); clear HC; have HC := HCx; clear HCx
 have HR1x := Lib.hid (HR1.out.below hb); clear HR1; have HR1 := HR1x; clear HR1x
 have HR2x := Lib.hid (HR2.out.below hb); clear HR2; have HR2 := HR2x; clear HR2x
 have HTxx := Lib.hid (HTx.out.below hb); clear HTx; have HTx := HTxx; clear HTxx
 have HCxx := Lib.hid (HCx.out.below hb); clear HCx; have HCx := HCxx; clear HCxx
 have HXxx := Lib.hid (HXx.out.below hb); clear HXx; have HXx := HXxx; clear HXxx
 have HU3x := Lib.hid (HU3.out.below hb); clear HU3; have HU3 := HU3x; clear HU3x
 have HK3x := Lib.hid (HK3.out.below hb); clear HK3; have HK3 := HK3x; clear HK3x
 have HBx := Lib.hid (HB.out.trans (hb.mono (by omega))); clear HB; have HB := HBx; clear HBx
 clear hxb_w9
 clear hxbx_w9
 clear hxb3_w9
 clear hb
 have hxb_w11 : ∀ o, w11.cell? ⟨w2.heap.size, o, none⟩ = (#[.int .i64 m.c, .int .i64 m.d, .int .i64 m.s, .int .i64 m.e, .int .i64 m.l, .slice ua T.length uc] : Array Value)[o]? := fun o => by rw [(bcell hb3).1 _ _ (by omega), hxb_w10]
 have hxbx_w11 : ∀ o, w11.cell? ⟨w6.heap.size, o, none⟩ = (#[.int .i64 mx.c, .int .i64 mx.d, .int .i64 mx.s, .int .i64 mx.e, .int .i64 mx.l, .slice uax Tx.length ucx] : Array Value)[o]? := fun o => by rw [(bcell hb3).1 _ _ (by omega), hxbx_w10]
 have hxb3_w11 : ∀ o, w11.cell? ⟨w8.heap.size, o, none⟩ = (#[.int .i64 MB.c, .int .i64 MB.d, .int .i64 MB.s, .int .i64 MB.e, .int .i64 MB.l, .slice ua3 B.2.1.length uc3] : Array Value)[o]? := fun o => by rw [(bcell hb3).1 _ _ (by omega), hxb3_w10]
 have hz_w11 := hb3.size
 have HVx := Lib.hid (HV.out.below hb3); clear HV; have HV := HVx; clear HVx
 have HTx := Lib.hid (HT.out.below hb3); clear HT; have HT := HTx; clear HTx
 have HCx := Lib.hid (HC.out.below hb3); clear HC; have HC := HCx; clear HCx
 have HR1x := Lib.hid (HR1.out.below hb3); clear HR1; have HR1 := HR1x; clear HR1x
 have HR2x := Lib.hid (HR2.out.below hb3); clear HR2; have HR2 := HR2x; clear HR2x
 have HTxx := Lib.hid (HTx.out.below hb3); clear HTx; have HTx := HTxx; clear HTxx
 have HCxx := Lib.hid (HCx.out.below hb3); clear HCx; have HCx := HCxx; clear HCxx
 have HXxx := Lib.hid (HXx.out.below hb3); clear HXx; have HXx := HXxx; clear HXxx
 have HU3x := Lib.hid (HU3.out.below hb3); clear HU3; have HU3 := HU3x; clear HU3x
 have HK3x := Lib.hid (HK3.out.below hb3); clear HK3; have HK3 := HK3x; clear HK3x
 have HBx := Lib.hid (HB.out.trans (hb3.mono (by omega))); clear HB; have HB := HBx; clear HBx
 clear hxb_w10
 clear hxbx_w10
 clear hxb3_w10
 clear hb3
 have HU4 := Lib.hid hk1x; clear hk1x; have HK4 := Lib.hid hk2x; clear hk2x
 have hxb4_w11 := hc3; clear hc3
 have hzb4 := hz3; clear hz3
 have hqb : ∀ o, (w10.alloc (.cells #[.int .i64 MB.c, .int .i64 MB.d, .int .i64 MB.s, .int .i64 MB.e, .int .i64 MB.l, .slice ua4 B.2.1.length uc4] 33)).cell? ⟨w2.heap.size, o, none⟩ = (#[.int .i64 m.c, .int .i64 m.d, .int .i64 m.s, .int .i64 m.e, .int .i64 m.l, .slice ua T.length uc] : Array Value)[o]? := fun o => by rw [← Hw.out]; exact hxb_w11 o
 have hqbx : ∀ o, (w10.alloc (.cells #[.int .i64 MB.c, .int .i64 MB.d, .int .i64 MB.s, .int .i64 MB.e, .int .i64 MB.l, .slice ua4 B.2.1.length uc4] 33)).cell? ⟨w6.heap.size, o, none⟩ = (#[.int .i64 mx.c, .int .i64 mx.d, .int .i64 mx.s, .int .i64 mx.e, .int .i64 mx.l, .slice uax Tx.length ucx] : Array Value)[o]? := fun o => by rw [← Hw.out]; exact hxbx_w11 o
 have hqb3 : ∀ o, (w10.alloc (.cells #[.int .i64 MB.c, .int .i64 MB.d, .int .i64 MB.s, .int .i64 MB.e, .int .i64 MB.l, .slice ua4 B.2.1.length uc4] 33)).cell? ⟨w8.heap.size, o, none⟩ = (#[.int .i64 MB.c, .int .i64 MB.d, .int .i64 MB.s, .int .i64 MB.e, .int .i64 MB.l, .slice ua3 B.2.1.length uc3] : Array Value)[o]? := fun o => by rw [← Hw.out]; exact hxb3_w11 o
 go_wp2_with fail
 rw [← Hw.out]
 (try go_wp2_with fail)
 clear Hw
 clear hqb
 clear hqbx
 clear hqb3
 refine (DrawRowsOf_any _ l _ HV.out).mono ?_
 rintro e' w12 hD
 obtain ⟨ul, Tl, rfl, hu, hb⟩ := hD
 obtain ⟨ual, ucl, rfl, _⟩ := hu.form
 have hux := hu.any; clear hu; have hu := hux; clear hux
 have hxb_w12 : ∀ o, w12.cell? ⟨w2.heap.size, o, none⟩ = (#[.int .i64 m.c, .int .i64 m.d, .int .i64 m.s, .int .i64 m.e, .int .i64 m.l, .slice ua T.length uc] : Array Value)[o]? := fun o => by rw [(bcell hb).1 _ _ (by omega), hxb_w11]
 have hxbx_w12 : ∀ o, w12.cell? ⟨w6.heap.size, o, none⟩ = (#[.int .i64 mx.c, .int .i64 mx.d, .int .i64 mx.s, .int .i64 mx.e, .int .i64 mx.l, .slice uax Tx.length ucx] : Array Value)[o]? := fun o => by rw [(bcell hb).1 _ _ (by omega), hxbx_w11]
 have hxb3_w12 : ∀ o, w12.cell? ⟨w8.heap.size, o, none⟩ = (#[.int .i64 MB.c, .int .i64 MB.d, .int .i64 MB.s, .int .i64 MB.e, .int .i64 MB.l, .slice ua3 B.2.1.length uc3] : Array Value)[o]? := fun o => by rw [(bcell hb).1 _ _ (by omega), hxb3_w11]
 have hxb4_w12 : ∀ o, w12.cell? ⟨w10.heap.size, o, none⟩ = (#[.int .i64 MB.c, .int .i64 MB.d, .int .i64 MB.s, .int .i64 MB.e, .int .i64 MB.l, .slice ua4 B.2.1.length uc4] : Array Value)[o]? := fun o => by rw [(bcell hb).1 _ _ (by omega), hxb4_w11]
 have hz_w12 := hb.size
 have HVx := Lib.hid (HV.out.below hb); clear HV; have HV := HVx; clear HVx
 have HTx := Lib.hid (HT.out.below hb); clear HT; have HT := HTx; clear HTx
 have HCx := Lib.hid (HC.out.below hb); clear HC; have HC := HCx; clear HCx
 have HR1x := Lib.hid (HR1.out.below hb); clear HR1; have HR1 := HR1x; clear HR1x
 have HR2x := Lib.hid (HR2.out.below hb); clear HR2; have HR2 := HR2x; clear HR2x
 have HTxx := Lib.hid (HTx.out.below hb); clear HTx; have HTx := HTxx; clear HTxx
 have HCxx := Lib.hid (HCx.out.below hb); clear HCx; have HCx := HCxx; clear HCxx
 have HXxx := Lib.hid (HXx.out.below hb); clear HXx; have HXx := HXxx; clear HXxx
 have HU3x := Lib.hid (HU3.out.below hb); clear HU3; have HU3 := HU3x; clear HU3x
 have HK3x := Lib.hid (HK3.out.below hb); clear HK3; have HK3 := HK3x; clear HK3x
 have HU4x := Lib.hid (HU4.out.below hb); clear HU4; have HU4 := HU4x; clear HU4x
 have HK4x := Lib.hid (HK4.out.below hb); clear HK4; have HK4 := HK4x; clear HK4x
 have HBx := Lib.hid (HB.out.trans (hb.mono (by omega))); clear HB; have HB := HBx; clear HBx
 clear hxb_w11
 clear hxbx_w11
 clear hxb3_w11
 clear hxb4_w11
 clear hb
 have HTl := Lib.hid hu; clear hu
 go_wp2_with fail
 obtain ⟨C, hC⟩ : ∃ x, rowsAns Tl = x := ⟨_, rfl⟩
 have EC := Lib.hid hC; clear hC
 refine (RowsOf_any _ Tl _ HTl.out).mono ?_
 rintro e' w13 ⟨r5, rfl, hR, hb⟩
 rw [EC.out] at hR ⊢
 obtain ⟨ra5, rc5, rfl, _⟩ := hR.v1.form
 have hxb_w13 : ∀ o, w13.cell? ⟨w2.heap.size, o, none⟩ = (#[.int .i64 m.c, .int .i64 m.d, .int .i64 m.s, .int .i64 m.e, .int .i64 m.l, .slice ua T.length uc] : Array Value)[o]? := fun o => by rw [(bcell hb).1 _ _ (by omega), hxb_w12]
 have hxbx_w13 : ∀ o, w13.cell? ⟨w6.heap.size, o, none⟩ = (#[.int .i64 mx.c, .int .i64 mx.d, .int .i64 mx.s, .int .i64 mx.e, .int .i64 mx.l, .slice uax Tx.length ucx] : Array Value)[o]? := fun o => by rw [(bcell hb).1 _ _ (by omega), hxbx_w12]
 have hxb3_w13 : ∀ o, w13.cell? ⟨w8.heap.size, o, none⟩ = (#[.int .i64 MB.c, .int .i64 MB.d, .int .i64 MB.s, .int .i64 MB.e, .int .i64 MB.l, .slice ua3 B.2.1.length uc3] : Array Value)[o]? := fun o => by rw [(bcell hb).1 _ _ (by omega), hxb3_w12]
 have hxb4_w13 : ∀ o, w13.cell? ⟨w10.heap.size, o, none⟩ = (#[.int .i64 MB.c, .int .i64 MB.d, .int .i64 MB.s, .int .i64 MB.e, .int .i64 MB.l, .slice ua4 B.2.1.length uc4] : Array Value)[o]? := fun o => by rw [(bcell hb).1 _ _ (by omega), hxb4_w12]
 have hz_w13 := hb.size
 have HVx := Lib.hid (HV.out.below hb); clear HV; have HV := HVx; clear HVx
 have HTx := Lib.hid (HT.out.below hb); clear HT; have HT := HTx; clear HTx
 have HCx := Lib.hid (HC.out.below hb); clear HC; have HC := HCx; clear HCx
 have HR1x := Lib.hid (HR1.out.below hb); clear HR1; have HR1 := HR1x; clear HR1x
 have HR2x := Lib.hid (HR2.out.below hb); clear HR2; have HR2 := HR2x; clear HR2x
 have HTxx := Lib.hid (HTx.out.below hb); clear HTx; have HTx := HTxx; clear HTxx
 have HCxx := Lib.hid (HCx.out.below hb); clear HCx; have HCx := HCxx; clear HCxx
 have HXxx := Lib.hid (HXx.out.below hb); clear HXx; have HXx := HXxx; clear HXxx
 have HU3x := Lib.hid (HU3.out.below hb); clear HU3; have HU3 := HU3x; clear HU3x
 have HK3x := Lib.hid (HK3.out.below hb); clear HK3; have HK3 := HK3x; clear HK3x
 have HU4x := Lib.hid (HU4.out.below hb); clear HU4; have HU4 := HU4x; clear HU4x
 have HK4x := Lib.hid (HK4.out.below hb); clear HK4; have HK4 := HK4x; clear HK4x
 have HTlx := Lib.hid (HTl.out.below hb); clear HTl; have HTl := HTlx; clear HTlx
 have HBx := Lib.hid (HB.out.trans (hb.mono (by omega))); clear HB; have HB := HBx; clear HBx
 clear hxb_w12
 clear hxbx_w12
 clear hxb3_w12
 clear hxb4_w12
 clear hb
 have HR5 := Lib.hid (hR.v1.any); clear hR
 go_wp2_with fail
 refine (RowsOfR_any _ Tl _ HTl.out).mono ?_
 rintro e' w14 ⟨r6, rfl, hR, hb⟩
 rw [EC.out] at hR ⊢
 obtain ⟨ra6, rc6, rfl, _⟩ := hR.v1.form
 have hxb_w14 : ∀ o, w14.cell? ⟨w2.heap.size, o, none⟩ = (#[.int .i64 m.c, .int .i64 m.d, .int .i64 m.s, .int .i64 m.e, .int .i64 m.l, .slice ua T.length uc] : Array Value)[o]? := fun o => by rw [(bcell hb).1 _ _ (by omega), hxb_w13]
 have hxbx_w14 : ∀ o, w14.cell? ⟨w6.heap.size, o, none⟩ = (#[.int .i64 mx.c, .int .i64 mx.d, .int .i64 mx.s, .int .i64 mx.e, .int .i64 mx.l, .slice uax Tx.length ucx] : Array Value)[o]? := fun o => by rw [(bcell hb).1 _ _ (by omega), hxbx_w13]
 have hxb3_w14 : ∀ o, w14.cell? ⟨w8.heap.size, o, none⟩ = (#[.int .i64 MB.c, .int .i64 MB.d, .int .i64 MB.s, .int .i64 MB.e, .int .i64 MB.l, .slice ua3 B.2.1.length uc3] : Array Value)[o]? := fun o => by rw [(bcell hb).1 _ _ (by omega), hxb3_w13]
 have hxb4_w14 : ∀ o, w14.cell? ⟨w10.heap.size, o, none⟩ = (#[.int .i64 MB.c, .int .i64 MB.d, .int .i64 MB.s, .int .i64 MB.e, .int .i64 MB.l, .slice ua4 B.2.1.length uc4] : Array Value)[o]? := fun o => by rw [(bcell hb).1 _ _ (by omega), hxb4_w13]
 have hz_w14 := hb.size
 have HVx := Lib.hid (HV.out.below hb); clear HV; have HV := HVx; clear HVx
 have HTx := Lib.hid (HT.out.below hb); clear HT; have HT := HTx; clear HTx
 have HCx := Lib.hid (HC.out.below hb); clear HC; have HC := HCx; clear HCx
 have HR1x := Lib.hid (HR1.out.below hb); clear HR1; have HR1 := HR1x; clear HR1x
 have HR2x := Lib.hid (HR2.out.below hb); clear HR2; have HR2 := HR2x; clear HR2x
 have HTxx := Lib.hid (HTx.out.below hb); clear HTx; have HTx := HTxx; clear HTxx
 have HCxx := Lib.hid (HCx.out.below hb); clear HCx; have HCx := HCxx; clear HCxx
 have HXxx := Lib.hid (HXx.out.below hb); clear HXx; have HXx := HXxx; clear HXxx
 have HU3x := Lib.hid (HU3.out.below hb); clear HU3; have HU3 := HU3x; clear HU3x
 have HK3x := Lib.hid (HK3.out.below hb); clear HK3; have HK3 := HK3x; clear HK3x
 have HU4x := Lib.hid (HU4.out.below hb); clear HU4; have HU4 := HU4x; clear HU4x
 have HK4x := Lib.hid (HK4.out.below hb); clear HK4; have HK4 := HK4x; clear HK4x
 have HTlx := Lib.hid (HTl.out.below hb); clear HTl; have HTl := HTlx; clear HTlx
 have HR5x := Lib.hid (HR5.out.below hb); clear HR5; have HR5 := HR5x; clear HR5x
 have HBx := Lib.hid (HB.out.trans (hb.mono (by omega))); clear HB; have HB := HBx; clear HBx
 clear hxb_w13
 clear hxbx_w13
 clear hxb3_w13
 clear hxb4_w13
 clear hb
 have HR6 := Lib.hid (hR.v1.any); clear hR
 go_wp2_with fail
 refine (likeInts_w _ _ (A.1) (A.1) _ true (decide_eq_true rfl) HR1.out HR2.out).mono ?_
 rintro e' w15 ⟨rfl, hb⟩
 have hxb_w15 : ∀ o, w15.cell? ⟨w2.heap.size, o, none⟩ = (#[.int .i64 m.c, .int .i64 m.d, .int .i64 m.s, .int .i64 m.e, .int .i64 m.l, .slice ua T.length uc] : Array Value)[o]? := fun o => by rw [(bcell hb).1 _ _ (by omega), hxb_w14]
 have hxbx_w15 : ∀ o, w15.cell? ⟨w6.heap.size, o, none⟩ = (#[.int .i64 mx.c, .int .i64 mx.d, .int .i64 mx.s, .int .i64 mx.e, .int .i64 mx.l, .slice uax Tx.length ucx] : Array Value)[o]? := fun o => by rw [(bcell hb).1 _ _ (by omega), hxbx_w14]
 have hxb3_w15 : ∀ o, w15.cell? ⟨w8.heap.size, o, none⟩ = (#[.int .i64 MB.c, .int .i64 MB.d, .int .i64 MB.s, .int .i64 MB.e, .int .i64 MB.l, .slice ua3 B.2.1.length uc3] : Array Value)[o]? := fun o => by rw [(bcell hb).1 _ _ (by omega), hxb3_w14]
 have hxb4_w15 : ∀ o, w15.cell? ⟨w10.heap.size, o, none⟩ = (#[.int .i64 MB.c, .int .i64 MB.d, .int .i64 MB.s, .int .i64 MB.e, .int .i64 MB.l, .slice ua4 B.2.1.length uc4] : Array Value)[o]? := fun o => by rw [(bcell hb).1 _ _ (by omega), hxb4_w14]
 have hz_w15 := hb.size
 have HVx := Lib.hid (HV.out.below hb); clear HV; have HV := HVx; clear HVx
 have HTx := Lib.hid (HT.out.below hb); clear HT; have HT := HTx; clear HTx
 have HCx := Lib.hid (HC.out.below hb); clear HC; have HC := HCx; clear HCx
 have HR1x := Lib.hid (HR1.out.below hb); clear HR1; have HR1 := HR1x; clear HR1x
 have HR2x := Lib.hid (HR2.out.below hb); clear HR2; have HR2 := HR2x; clear HR2x
 have HTxx := Lib.hid (HTx.out.below hb); clear HTx; have HTx := HTxx; clear HTxx
 have HCxx := Lib.hid (HCx.out.below hb); clear HCx; have HCx := HCxx; clear HCxx
 have HXxx := Lib.hid (HXx.out.below hb); clear HXx; have HXx := HXxx; clear HXxx
 have HU3x := Lib.hid (HU3.out.below hb); clear HU3; have HU3 := HU3x; clear HU3x
 have HK3x := Lib.hid (HK3.out.below hb); clear HK3; have HK3 := HK3x; clear HK3x
 have HU4x := Lib.hid (HU4.out.below hb); clear HU4; have HU4 := HU4x; clear HU4x
 have HK4x := Lib.hid (HK4.out.below hb); clear HK4; have HK4 := HK4x; clear HK4x
 have HTlx := Lib.hid (HTl.out.below hb); clear HTl; have HTl := HTlx; clear HTlx
 have HR5x := Lib.hid (HR5.out.below hb); clear HR5; have HR5 := HR5x; clear HR5x
 have HR6x := Lib.hid (HR6.out.below hb); clear HR6; have HR6 := HR6x; clear HR6x
 have HBx := Lib.hid (HB.out.trans (hb.mono (by omega))); clear HB; have HB := HBx; clear HBx
 clear hxb_w14
 clear hxbx_w14
 clear hxb3_w14
 clear hxb4_w14
 clear hb
 go_wp2_with fail
 refine (likeSystems_w MB _ _ B.2.1 _ HU3.out HU4.out).mono ?_
 rintro e' w16 ⟨rfl, hb⟩
 have hxb_w16 : ∀ o, w16.cell? ⟨w2.heap.size, o, none⟩ = (#[.int .i64 m.c, .int .i64 m.d, .int .i64 m.s, .int .i64 m.e, .int .i64 m.l, .slice ua T.length uc] : Array Value)[o]? := fun o => by rw [(bcell hb).1 _ _ (by omega), hxb_w15]
 have hxbx_w16 : ∀ o, w16.cell? ⟨w6.heap.size, o, none⟩ = (#[.int .i64 mx.c, .int .i64 mx.d, .int .i64 mx.s, .int .i64 mx.e, .int .i64 mx.l, .slice uax Tx.length ucx] : Array Value)[o]? := fun o => by rw [(bcell hb).1 _ _ (by omega), hxbx_w15]
 have hxb3_w16 : ∀ o, w16.cell? ⟨w8.heap.size, o, none⟩ = (#[.int .i64 MB.c, .int .i64 MB.d, .int .i64 MB.s, .int .i64 MB.e, .int .i64 MB.l, .slice ua3 B.2.1.length uc3] : Array Value)[o]? := fun o => by rw [(bcell hb).1 _ _ (by omega), hxb3_w15]
 have hxb4_w16 : ∀ o, w16.cell? ⟨w10.heap.size, o, none⟩ = (#[.int .i64 MB.c, .int .i64 MB.d, .int .i64 MB.s, .int .i64 MB.e, .int .i64 MB.l, .slice ua4 B.2.1.length uc4] : Array Value)[o]? := fun o => by rw [(bcell hb).1 _ _ (by omega), hxb4_w15]
 have hz_w16 := hb.size
 have HVx := Lib.hid (HV.out.below hb); clear HV; have HV := HVx; clear HVx
 have HTx := Lib.hid (HT.out.below hb); clear HT; have HT := HTx; clear HTx
 have HCx := Lib.hid (HC.out.below hb); clear HC; have HC := HCx; clear HCx
 have HR1x := Lib.hid (HR1.out.below hb); clear HR1; have HR1 := HR1x; clear HR1x
 have HR2x := Lib.hid (HR2.out.below hb); clear HR2; have HR2 := HR2x; clear HR2x
 have HTxx := Lib.hid (HTx.out.below hb); clear HTx; have HTx := HTxx; clear HTxx
 have HCxx := Lib.hid (HCx.out.below hb); clear HCx; have HCx := HCxx; clear HCxx
 have HXxx := Lib.hid (HXx.out.below hb); clear HXx; have HXx := HXxx; clear HXxx
 have HU3x := Lib.hid (HU3.out.below hb); clear HU3; have HU3 := HU3x; clear HU3x
 have HK3x := Lib.hid (HK3.out.below hb); clear HK3; have HK3 := HK3x; clear HK3x
 have HU4x := Lib.hid (HU4.out.below hb); clear HU4; have HU4 := HU4x; clear HU4x
 have HK4x := Lib.hid (HK4.out.below hb); clear HK4; have HK4 := HK4x; clear HK4x
 have HTlx := Lib.hid (HTl.out.below hb); clear HTl; have HTl := HTlx; clear HTlx
 have HR5x := Lib.hid (HR5.out.below hb); clear HR5; have HR5 := HR5x; clear HR5x
 have HR6x := Lib.hid (HR6.out.below hb); clear HR6; have HR6 := HR6x; clear HR6x
 have HBx := Lib.hid (HB.out.trans (hb.mono (by omega))); clear HB; have HB := HBx; clear HBx
 clear hxb_w15
 clear hxbx_w15
 clear hxb3_w15
 clear hxb4_w15
 clear hb
 go_wp2_with fail
 refine (likeLists_w _ _ (B.2.2) (B.2.2) _ true (decide_eq_true rfl) HK3.out HK4.out).mono ?_
 rintro e' w17 ⟨rfl, hb⟩
 have hxb_w17 : ∀ o, w17.cell? ⟨w2.heap.size, o, none⟩ = (#[.int .i64 m.c, .int .i64 m.d, .int .i64 m.s, .int .i64 m.e, .int .i64 m.l, .slice ua T.length uc] : Array Value)[o]? := fun o => by rw [(bcell hb).1 _ _ (by omega), hxb_w16]
 have hxbx_w17 : ∀ o, w17.cell? ⟨w6.heap.size, o, none⟩ = (#[.int .i64 mx.c, .int .i64 mx.d, .int .i64 mx.s, .int .i64 mx.e, .int .i64 mx.l, .slice uax Tx.length ucx] : Array Value)[o]? := fun o => by rw [(bcell hb).1 _ _ (by omega), hxbx_w16]
 have hxb3_w17 : ∀ o, w17.cell? ⟨w8.heap.size, o, none⟩ = (#[.int .i64 MB.c, .int .i64 MB.d, .int .i64 MB.s, .int .i64 MB.e, .int .i64 MB.l, .slice ua3 B.2.1.length uc3] : Array Value)[o]? := fun o => by rw [(bcell hb).1 _ _ (by omega), hxb3_w16]
 have hxb4_w17 : ∀ o, w17.cell? ⟨w10.heap.size, o, none⟩ = (#[.int .i64 MB.c, .int .i64 MB.d, .int .i64 MB.s, .int .i64 MB.e, .int .i64 MB.l, .slice ua4 B.2.1.length uc4] : Array Value)[o]? := fun o => by rw [(bcell hb).1 _ _ (by omega), hxb4_w16]
 have hz_w17 := hb.size
 have HVx := Lib.hid (HV.out.below hb); clear HV; have HV := HVx; clear HVx
 have HTx := Lib.hid (HT.out.below hb); clear HT; have HT := HTx; clear HTx
 have HCx := Lib.hid (HC.out.below hb); clear HC; have HC := HCx; clear HCx
 have HR1x := Lib.hid (HR1.out.below hb); clear HR1; have HR1 := HR1x; clear HR1x
 have HR2x := Lib.hid (HR2.out.below hb); clear HR2; have HR2 := HR2x; clear HR2x
 have HTxx := Lib.hid (HTx.out.below hb); clear HTx; have HTx := HTxx; clear HTxx
 have HCxx := Lib.hid (HCx.out.below hb); clear HCx; have HCx := HCxx; clear HCxx
 have HXxx := Lib.hid (HXx.out.below hb); clear HXx; have HXx := HXxx; clear HXxx
 have HU3x := Lib.hid (HU3.out.below hb); clear HU3; have HU3 := HU3x; clear HU3x
 have HK3x := Lib.hid (HK3.out.below hb); clear HK3; have HK3 := HK3x; clear HK3x
 have HU4x := Lib.hid (HU4.out.below hb); clear HU4; have HU4 := HU4x; clear HU4x
 have HK4x := Lib.hid (HK4.out.below hb); clear HK4; have HK4 := HK4x; clear HK4x
 have HTlx := Lib.hid (HTl.out.below hb); clear HTl; have HTl := HTlx; clear HTlx
 have HR5x := Lib.hid (HR5.out.below hb); clear HR5; have HR5 := HR5x; clear HR5x
 have HR6x := Lib.hid (HR6.out.below hb); clear HR6; have HR6 := HR6x; clear HR6x
 have HBx := Lib.hid (HB.out.trans (hb.mono (by omega))); clear HB; have HB := HBx; clear HBx
 clear hxb_w16
 clear hxbx_w16
 clear hxb3_w16
 clear hxb4_w16
 clear hb
 go_wp2_with fail
 refine (likeInts_w _ _ (C.1) (C.1) _ true (decide_eq_true rfl) HR5.out HR6.out).mono ?_
 rintro e' w18 ⟨rfl, hb⟩
 have hxb_w18 : ∀ o, w18.cell? ⟨w2.heap.size, o, none⟩ = (#[.int .i64 m.c, .int .i64 m.d, .int .i64 m.s, .int .i64 m.e, .int .i64 m.l, .slice ua T.length uc] : Array Value)[o]? := fun o => by rw [(bcell hb).1 _ _ (by omega), hxb_w17]
 have hxbx_w18 : ∀ o, w18.cell? ⟨w6.heap.size, o, none⟩ = (#[.int .i64 mx.c, .int .i64 mx.d, .int .i64 mx.s, .int .i64 mx.e, .int .i64 mx.l, .slice uax Tx.length ucx] : Array Value)[o]? := fun o => by rw [(bcell hb).1 _ _ (by omega), hxbx_w17]
 have hxb3_w18 : ∀ o, w18.cell? ⟨w8.heap.size, o, none⟩ = (#[.int .i64 MB.c, .int .i64 MB.d, .int .i64 MB.s, .int .i64 MB.e, .int .i64 MB.l, .slice ua3 B.2.1.length uc3] : Array Value)[o]? := fun o => by rw [(bcell hb).1 _ _ (by omega), hxb3_w17]
 have hxb4_w18 : ∀ o, w18.cell? ⟨w10.heap.size, o, none⟩ = (#[.int .i64 MB.c, .int .i64 MB.d, .int .i64 MB.s, .int .i64 MB.e, .int .i64 MB.l, .slice ua4 B.2.1.length uc4] : Array Value)[o]? := fun o => by rw [(bcell hb).1 _ _ (by omega), hxb4_w17]
 have hz_w18 := hb.size
 have HVx := Lib.hid (HV.out.below hb); clear HV; have HV := HVx; clear HVx
 have HTx := Lib.hid (HT.out.below hb); clear HT; have HT := HTx; clear HTx
 have HCx := Lib.hid (HC.out.below hb); clear HC; have HC := HCx; clear HCx
 have HR1x := Lib.hid (HR1.out.below hb); clear HR1; have HR1 := HR1x; clear HR1x
 have HR2x := Lib.hid (HR2.out.below hb); clear HR2; have HR2 := HR2x; clear HR2x
 have HTxx := Lib.hid (HTx.out.below hb); clear HTx; have HTx := HTxx; clear HTxx
 have HCxx := Lib.hid (HCx.out.below hb); clear HCx; have HCx := HCxx; clear HCxx
 have HXxx := Lib.hid (HXx.out.below hb); clear HXx; have HXx := HXxx; clear HXxx
 have HU3x := Lib.hid (HU3.out.below hb); clear HU3; have HU3 := HU3x; clear HU3x
 have HK3x := Lib.hid (HK3.out.below hb); clear HK3; have HK3 := HK3x; clear HK3x
 have HU4x := Lib.hid (HU4.out.below hb); clear HU4; have HU4 := HU4x; clear HU4x
 have HK4x := Lib.hid (HK4.out.below hb); clear HK4; have HK4 := HK4x; clear HK4x
 have HTlx := Lib.hid (HTl.out.below hb); clear HTl; have HTl := HTlx; clear HTlx
 have HR5x := Lib.hid (HR5.out.below hb); clear HR5; have HR5 := HR5x; clear HR5x
 have HR6x := Lib.hid (HR6.out.below hb); clear HR6; have HR6 := HR6x; clear HR6x
 have HBx := Lib.hid (HB.out.trans (hb.mono (by omega))); clear HB; have HB := HBx; clear HBx
 clear hxb_w17
 clear hxbx_w17
 clear hxb3_w17
 clear hxb4_w17
 clear hb
 have hrl := rows_law (l := Tl)
 rw [EC.out] at hrl
 obtain ⟨A1, A2⟩ := A
 obtain ⟨B1, B2, B3⟩ := B
 obtain ⟨C1, C2⟩ := C
 dsimp only at *
 have Hrl := Lib.hid hrl; clear hrl
 by_cases hb1 : B1 = 0
 rotate_left
 ·skip
  have hb1d : (B1 == 0) = false := by simp [hb1]
  by_cases hc2 : C2 = 0
  rotate_left
  ·skip
   have hc2d : (C2 == 0) = false := by simp [hc2]
   go_wp2_with fail
   go_loopw [23] (fun iv wr => iv = .int .i64 0 ∧ Below w18.heap.size w18 wr) (fun iv _ => 0)
   case atStart => exact ⟨rfl, Below.refl _ _⟩
   case round =>
    obtain ⟨rfl, hbr⟩ := hrel
    have hxb_wr : ∀ o, wr.cell? ⟨w2.heap.size, o, none⟩ = (#[.int .i64 m.c, .int .i64 m.d, .int .i64 m.s, .int .i64 m.e, .int .i64 m.l, .slice ua T.length uc] : Array Value)[o]? := fun o => by rw [(bcell hbr).1 _ _ (by omega), hxb_w18]
    have hxbx_wr : ∀ o, wr.cell? ⟨w6.heap.size, o, none⟩ = (#[.int .i64 mx.c, .int .i64 mx.d, .int .i64 mx.s, .int .i64 mx.e, .int .i64 mx.l, .slice uax Tx.length ucx] : Array Value)[o]? := fun o => by rw [(bcell hbr).1 _ _ (by omega), hxbx_w18]
    have hxb3_wr : ∀ o, wr.cell? ⟨w8.heap.size, o, none⟩ = (#[.int .i64 MB.c, .int .i64 MB.d, .int .i64 MB.s, .int .i64 MB.e, .int .i64 MB.l, .slice ua3 B2.length uc3] : Array Value)[o]? := fun o => by rw [(bcell hbr).1 _ _ (by omega), hxb3_w18]
    have hxb4_wr : ∀ o, wr.cell? ⟨w10.heap.size, o, none⟩ = (#[.int .i64 MB.c, .int .i64 MB.d, .int .i64 MB.s, .int .i64 MB.e, .int .i64 MB.l, .slice ua4 B2.length uc4] : Array Value)[o]? := fun o => by rw [(bcell hbr).1 _ _ (by omega), hxb4_w18]
    have hz_wr := hbr.size
    have HVx := Lib.hid (HV.out.below hbr); clear HV; have HV := HVx; clear HVx
    have HTx := Lib.hid (HT.out.below hbr); clear HT; have HT := HTx; clear HTx
    have HCx := Lib.hid (HC.out.below hbr); clear HC; have HC := HCx; clear HCx
    have HR1x := Lib.hid (HR1.out.below hbr); clear HR1; have HR1 := HR1x; clear HR1x
    have HR2x := Lib.hid (HR2.out.below hbr); clear HR2; have HR2 := HR2x; clear HR2x
    have HTxx := Lib.hid (HTx.out.below hbr); clear HTx; have HTx := HTxx; clear HTxx
    have HCxx := Lib.hid (HCx.out.below hbr); clear HCx; have HCx := HCxx; clear HCxx
    have HXxx := Lib.hid (HXx.out.below hbr); clear HXx; have HXx := HXxx; clear HXxx
    have HU3x := Lib.hid (HU3.out.below hbr); clear HU3; have HU3 := HU3x; clear HU3x
    have HK3x := Lib.hid (HK3.out.below hbr); clear HK3; have HK3 := HK3x; clear HK3x
    have HU4x := Lib.hid (HU4.out.below hbr); clear HU4; have HU4 := HU4x; clear HU4x
    have HK4x := Lib.hid (HK4.out.below hbr); clear HK4; have HK4 := HK4x; clear HK4x
    have HTlx := Lib.hid (HTl.out.below hbr); clear HTl; have HTl := HTlx; clear HTlx
    have HR5x := Lib.hid (HR5.out.below hbr); clear HR5; have HR5 := HR5x; clear HR5x
    have HR6x := Lib.hid (HR6.out.below hbr); clear HR6; have HR6 := HR6x; clear HR6x
    have HBx := Lib.hid (HB.out.trans (hbr.mono (by omega))); clear HB; have HB := HBx; clear HBx
    clear hxb_w18
    clear hxbx_w18
    clear hxb3_w18
    clear hxb4_w18
    clear hbr
    by_cases ha2 : A2 = 0
    rotate_left
    ·skip
     have ha2d : (A2 != 0) = true := by simp [ha2]
     go_wp2_with fail
     go_ret
     exact ⟨rfl, HB.out⟩
    obtain ⟨D, hD⟩ : ∃ x, keepAns m T cuts A1 = x := ⟨_, rfl⟩
    obtain ⟨D1, D2, D3⟩ := D
    obtain ⟨hd1, nn, hnp, hcn⟩ := blame_cnt EA.out ha2 hD
    obtain ⟨MD, hMD⟩ : ∃ x, keepM m D1 = x := ⟨_, rfl⟩
    rw [hMD] at hcn
    have ED := Lib.hid hD; clear hD
    have EN := Lib.hid hMD; clear hMD
    have Hcn := Lib.hid hcn; clear hcn
    have hnd : decide ((0 : Int) < (nn : Int)) = true := decide_eq_true (by omega)
    subst ha2
    go_wp2_with fail
    have hkr := KeepRows_any m _ _ _ T cuts A1 _ HT.out HC.out HR1.out
    rw [ED.out, EN.out] at hkr
    refine hkr.mono ?_
    clear hkr
    rintro e' w19 ⟨ku, kv, rfl, hK, hb⟩
    have hk1 := hK.v2.1
    have hk2 := hK.v2.2
    clear hK
    dsimp only at hk1 hk2 ⊢
    obtain ⟨ua7, uc7, rfl, _⟩ := hk1.form
    obtain ⟨ka7, kc7, rfl, _⟩ := hk2.form
    obtain ⟨w20, hw3, hb3, hz3, _, hc3, _⟩ := box_facts w19 (#[.int .i64 MD.c, .int .i64 MD.d, .int .i64 MD.s, .int .i64 MD.e, .int .i64 MD.l, .slice ua7 D2.length uc7] : Array Value) 33
    have hk1x := (hk1.below hb3).any; clear hk1; have hk2x := (hk2.below hb3).any; clear hk2
    have Hw := Lib.hid hw3; clear hw3
    have hxb_w19 : ∀ o, w19.cell? ⟨w2.heap.size, o, none⟩ = (#[.int .i64 m.c, .int .i64 m.d, .int .i64 m.s, .int .i64 m.e, .int .i64 m.l, .slice ua T.length uc] : Array Value)[o]? := fun o => by rw [(bcell hb).1 _ _ (by omega), hxb_wr]
    have hxbx_w19 : ∀ o, w19.cell? ⟨w6.heap.size, o, none⟩ = (#[.int .i64 mx.c, .int .i64 mx.d, .int .i64 mx.s, .int .i64 mx.e, .int .i64 mx.l, .slice uax Tx.length ucx] : Array Value)[o]? := fun o => by rw [(bcell hb).1 _ _ (by omega), hxbx_wr]
    have hxb3_w19 : ∀ o, w19.cell? ⟨w8.heap.size, o, none⟩ = (#[.int .i64 MB.c, .int .i64 MB.d, .int .i64 MB.s, .int .i64 MB.e, .int .i64 MB.l, .slice ua3 B2.length uc3] : Array Value)[o]? := fun o => by rw [(bcell hb).1 _ _ (by omega), hxb3_wr]
    have hxb4_w19 : ∀ o, w19.cell? ⟨w10.heap.size, o, none⟩ = (#[.int .i64 MB.c, .int .i64 MB.d, .int .i64 MB.s, .int .i64 MB.e, .int .i64 MB.l, .slice ua4 B2.length uc4] : Array Value)[o]? := fun o => by rw [(bcell hb).1 _ _ (by omega), hxb4_wr]
    have hz_w19 := hb.size
    have HVx := Lib.hid (HV.out.below hb); clear HV; have HV := HVx; clear HVx
    have HTx := Lib.hid (HT.out.below hb); clear HT; have HT := HTx; clear HTx
    have HCx := Lib.hid (HC.out.below hb); clear HC; have HC := HCx; clear HCx
    have HR1x := Lib.hid (HR1.out.below hb); clear HR1; have HR1 := HR1x; clear HR1x
    have HR2x := Lib.hid (HR2.out.below hb); clear HR2; have HR2 := HR2x; clear HR2x
    have HTxx := Lib.hid (HTx.out.below hb); clear HTx; have HTx := HTxx; clear HTxx
    have HCxx := Lib.hid (HCx.out.below hb); clear HCx; have HCx := HCxx; clear HCxx
    have HXxx := Lib.hid (HXx.out.below hb); clear HXx; have HXx := HXxx; clear HXxx
    have HU3x := Lib.hid (HU3.out.below hb); clear HU3; have HU3 := HU3x; clear HU3x
    have HK3x := Lib.hid (HK3.out.below hb); clear HK3; have HK3 := HK3x; clear HK3x
    have HU4x := Lib.hid (HU4.out.below hb); clear HU4; have HU4 := HU4x; clear HU4x
    have HK4x := Lib.hid (HK4.out.below hb); clear HK4; have HK4 := HK4x; clear HK4x
    have HTlx := Lib.hid (HTl.out.below hb); clear HTl; have HTl := HTlx; clear HTlx
    have HR5x := Lib.hid (HR5.out.below hb); clear HR5; have HR5 := HR5x; clear HR5x
    have HR6x := Lib.hid (HR6.out.below hb); clear HR6; have HR6 := HR6x; clear HR6x
    have HBx := Lib.hid (HB.out.trans (hb.mono (by omega))); clear HB; have HB := HBx; clear HBx
    clear hxb_wr
    clear hxbx_wr
    clear hxb3_wr
    clear hxb4_wr
    clear hb
    have hxb_w20 : ∀ o, w20.cell? ⟨w2.heap.size, o, none⟩ = (#[.int .i64 m.c, .int .i64 m.d, .int .i64 m.s, .int .i64 m.e, .int .i64 m.l, .slice ua T.length uc] : Array Value)[o]? := fun o => by rw [(bcell hb3).1 _ _ (by omega), hxb_w19]
    have hxbx_w20 : ∀ o, w20.cell? ⟨w6.heap.size, o, none⟩ = (#[.int .i64 mx.c, .int .i64 mx.d, .int .i64 mx.s, .int .i64 mx.e, .int .i64 mx.l, .slice uax Tx.length ucx] : Array Value)[o]? := fun o => by rw [(bcell hb3).1 _ _ (by omega), hxbx_w19]
    have hxb3_w20 : ∀ o, w20.cell? ⟨w8.heap.size, o, none⟩ = (#[.int .i64 MB.c, .int .i64 MB.d, .int .i64 MB.s, .int .i64 MB.e, .int .i64 MB.l, .slice ua3 B2.length uc3] : Array Value)[o]? := fun o => by rw [(bcell hb3).1 _ _ (by omega), hxb3_w19]
    have hxb4_w20 : ∀ o, w20.cell? ⟨w10.heap.size, o, none⟩ = (#[.int .i64 MB.c, .int .i64 MB.d, .int .i64 MB.s, .int .i64 MB.e, .int .i64 MB.l, .slice ua4 B2.length uc4] : Array Value)[o]? := fun o => by rw [(bcell hb3).1 _ _ (by omega), hxb4_w19]
    have hz_w20 := hb3.size
    have HVx := Lib.hid (HV.out.below hb3); clear HV; have HV := HVx; clear HVx
    have HTx := Lib.hid (HT.out.below hb3); clear HT; have HT := HTx; clear HTx
    have HCx := Lib.hid (HC.out.below hb3); clear HC; have HC := HCx; clear HCx
    have HR1x := Lib.hid (HR1.out.below hb3); clear HR1; have HR1 := HR1x; clear HR1x
    have HR2x := Lib.hid (HR2.out.below hb3); clear HR2; have HR2 := HR2x; clear HR2x
    have HTxx := Lib.hid (HTx.out.below hb3); clear HTx; have HTx := HTxx; clear HTxx
    have HCxx := Lib.hid (HCx.out.below hb3); clear HCx; have HCx := HCxx; clear HCxx
    have HXxx := Lib.hid (HXx.out.below hb3); clear HXx; have HXx := HXxx; clear HXxx
    have HU3x := Lib.hid (HU3.out.below hb3); clear HU3; have HU3 := HU3x; clear HU3x
    have HK3x := Lib.hid (HK3.out.below hb3); clear HK3; have HK3 := HK3x; clear HK3x
    have HU4x := Lib.hid (HU4.out.below hb3); clear HU4; have HU4 := HU4x; clear HU4x
    have HK4x := Lib.hid (HK4.out.below hb3); clear HK4; have HK4 := HK4x; clear HK4x
    have HTlx := Lib.hid (HTl.out.below hb3); clear HTl; have HTl := HTlx; clear HTlx
    have HR5x := Lib.hid (HR5.out.below hb3); clear HR5; have HR5 := HR5x; clear HR5x
    have HR6x := Lib.hid (HR6.out.below hb3); clear HR6; have HR6 := HR6x; clear HR6x
    have HBx := Lib.hid (HB.out.trans (hb3.mono (by omega))); clear HB; have HB := HBx; clear HBx
    clear hxb_w19
    clear hxbx_w19
    clear hxb3_w19
    clear hxb4_w19
    clear hb3
    have HU7 := Lib.hid hk1x; clear hk1x; have HK7 := Lib.hid hk2x; clear hk2x
    have hxb7_w20 := hc3; clear hc3
    have hzb7 := hz3; clear hz3
    have hd1d : (D1 == 0) = true := by simp [hd1]
    subst hd1
    have hqb : ∀ o, (w19.alloc (.cells #[.int .i64 MD.c, .int .i64 MD.d, .int .i64 MD.s, .int .i64 MD.e, .int .i64 MD.l, .slice ua7 D2.length uc7] 33)).cell? ⟨w2.heap.size, o, none⟩ = (#[.int .i64 m.c, .int .i64 m.d, .int .i64 m.s, .int .i64 m.e, .int .i64 m.l, .slice ua T.length uc] : Array Value)[o]? := fun o => by rw [← Hw.out]; exact hxb_w20 o
    have hqbx : ∀ o, (w19.alloc (.cells #[.int .i64 MD.c, .int .i64 MD.d, .int .i64 MD.s, .int .i64 MD.e, .int .i64 MD.l, .slice ua7 D2.length uc7] 33)).cell? ⟨w6.heap.size, o, none⟩ = (#[.int .i64 mx.c, .int .i64 mx.d, .int .i64 mx.s, .int .i64 mx.e, .int .i64 mx.l, .slice uax Tx.length ucx] : Array Value)[o]? := fun o => by rw [← Hw.out]; exact hxbx_w20 o
    have hqb3 : ∀ o, (w19.alloc (.cells #[.int .i64 MD.c, .int .i64 MD.d, .int .i64 MD.s, .int .i64 MD.e, .int .i64 MD.l, .slice ua7 D2.length uc7] 33)).cell? ⟨w8.heap.size, o, none⟩ = (#[.int .i64 MB.c, .int .i64 MB.d, .int .i64 MB.s, .int .i64 MB.e, .int .i64 MB.l, .slice ua3 B2.length uc3] : Array Value)[o]? := fun o => by rw [← Hw.out]; exact hxb3_w20 o
    have hqb4 : ∀ o, (w19.alloc (.cells #[.int .i64 MD.c, .int .i64 MD.d, .int .i64 MD.s, .int .i64 MD.e, .int .i64 MD.l, .slice ua7 D2.length uc7] 33)).cell? ⟨w10.heap.size, o, none⟩ = (#[.int .i64 MB.c, .int .i64 MB.d, .int .i64 MB.s, .int .i64 MB.e, .int .i64 MB.l, .slice ua4 B2.length uc4] : Array Value)[o]? := fun o => by rw [← Hw.out]; exact hxb4_w20 o
    go_wp2_with fail
    rw [← Hw.out]
    (try go_wp2_with fail)
    clear Hw
    clear hqb
    clear hqbx
    clear hqb3
    clear hqb4
    refine (CountFalse_any MD _ _ D2 D3 _ HU7.out HK7.out).mono ?_
    rintro e' w21 ⟨rfl, hb⟩
    rw [Hcn.out]
    have hxb_w21 : ∀ o, w21.cell? ⟨w2.heap.size, o, none⟩ = (#[.int .i64 m.c, .int .i64 m.d, .int .i64 m.s, .int .i64 m.e, .int .i64 m.l, .slice ua T.length uc] : Array Value)[o]? := fun o => by rw [(bcell hb).1 _ _ (by omega), hxb_w20]
    have hxbx_w21 : ∀ o, w21.cell? ⟨w6.heap.size, o, none⟩ = (#[.int .i64 mx.c, .int .i64 mx.d, .int .i64 mx.s, .int .i64 mx.e, .int .i64 mx.l, .slice uax Tx.length ucx] : Array Value)[o]? := fun o => by rw [(bcell hb).1 _ _ (by omega), hxbx_w20]
    have hxb3_w21 : ∀ o, w21.cell? ⟨w8.heap.size, o, none⟩ = (#[.int .i64 MB.c, .int .i64 MB.d, .int .i64 MB.s, .int .i64 MB.e, .int .i64 MB.l, .slice ua3 B2.length uc3] : Array Value)[o]? := fun o => by rw [(bcell hb).1 _ _ (by omega), hxb3_w20]
    have hxb4_w21 : ∀ o, w21.cell? ⟨w10.heap.size, o, none⟩ = (#[.int .i64 MB.c, .int .i64 MB.d, .int .i64 MB.s, .int .i64 MB.e, .int .i64 MB.l, .slice ua4 B2.length uc4] : Array Value)[o]? := fun o => by rw [(bcell hb).1 _ _ (by omega), hxb4_w20]
    have hxb7_w21 : ∀ o, w21.cell? ⟨w19.heap.size, o, none⟩ = (#[.int .i64 MD.c, .int .i64 MD.d, .int .i64 MD.s, .int .i64 MD.e, .int .i64 MD.l, .slice ua7 D2.length uc7] : Array Value)[o]? := fun o => by rw [(bcell hb).1 _ _ (by omega), hxb7_w20]
    have hz_w21 := hb.size
    have HVx := Lib.hid (HV.out.below hb); clear HV; have HV := HVx; clear HVx
    have HTx := Lib.hid (HT.out.below hb); clear HT; have HT := HTx; clear HTx
    have HCx := Lib.hid (HC.out.below hb); clear HC; have HC := HCx; clear HCx
    have HR1x := Lib.hid (HR1.out.below hb); clear HR1; have HR1 := HR1x; clear HR1x
    have HR2x := Lib.hid (HR2.out.below hb); clear HR2; have HR2 := HR2x; clear HR2x
    have HTxx := Lib.hid (HTx.out.below hb); clear HTx; have HTx := HTxx; clear HTxx
    have HCxx := Lib.hid (HCx.out.below hb); clear HCx; have HCx := HCxx; clear HCxx
    have HXxx := Lib.hid (HXx.out.below hb); clear HXx; have HXx := HXxx; clear HXxx
    have HU3x := Lib.hid (HU3.out.below hb); clear HU3; have HU3 := HU3x; clear HU3x
    have HK3x := Lib.hid (HK3.out.below hb); clear HK3; have HK3 := HK3x; clear HK3x
    have HU4x := Lib.hid (HU4.out.below hb); clear HU4; have HU4 := HU4x; clear HU4x
    have HK4x := Lib.hid (HK4.out.below hb); clear HK4; have HK4 := HK4x; clear HK4x
    have HTlx := Lib.hid (HTl.out.below hb); clear HTl; have HTl := HTlx; clear HTlx
    have HR5x := Lib.hid (HR5.out.below hb); clear HR5; have HR5 := HR5x; clear HR5x
    have HR6x := Lib.hid (HR6.out.below hb); clear HR6; have HR6 := HR6x; clear HR6x
    have HU7x := Lib.hid (HU7.out.below hb); clear HU7; have HU7 := HU7x; clear HU7x
    have HK7x := Lib.hid (HK7.out.below hb); clear HK7; have HK7 := HK7x; clear HK7x
    have HBx := Lib.hid (HB.out.trans (hb.mono (by omega))); clear HB; have HB := HBx; clear HBx
    clear hxb_w20
    clear hxbx_w20
    clear hxb3_w20
    clear hxb4_w20
    clear hxb7_w20
    clear hb
    go_wp2_with fail
    go_ret
    exact ⟨rfl, HB.out⟩
  subst hc2
  have Hrl2 := Lib.hid (Hrl.out rfl)
  go_wp2_with fail
  go_loopw [23] (fun iv wr => ∃ k : Nat, k ≤ Tl.length ∧ iv = .int .i64 (k : Int) ∧ Below w18.heap.size w18 wr) (fun iv _ => Tl.length - (intOf iv).toNat)
  case atStart => exact ⟨0, Nat.zero_le _, rfl, Below.refl _ _⟩
  case round =>
   obtain ⟨k, hk, rfl, hbr⟩ := hrel
   have Hbr := Lib.hid hbr
   have hxb_wr : ∀ o, wr.cell? ⟨w2.heap.size, o, none⟩ = (#[.int .i64 m.c, .int .i64 m.d, .int .i64 m.s, .int .i64 m.e, .int .i64 m.l, .slice ua T.length uc] : Array Value)[o]? := fun o => by rw [(bcell hbr).1 _ _ (by omega), hxb_w18]
   have hxbx_wr : ∀ o, wr.cell? ⟨w6.heap.size, o, none⟩ = (#[.int .i64 mx.c, .int .i64 mx.d, .int .i64 mx.s, .int .i64 mx.e, .int .i64 mx.l, .slice uax Tx.length ucx] : Array Value)[o]? := fun o => by rw [(bcell hbr).1 _ _ (by omega), hxbx_w18]
   have hxb3_wr : ∀ o, wr.cell? ⟨w8.heap.size, o, none⟩ = (#[.int .i64 MB.c, .int .i64 MB.d, .int .i64 MB.s, .int .i64 MB.e, .int .i64 MB.l, .slice ua3 B2.length uc3] : Array Value)[o]? := fun o => by rw [(bcell hbr).1 _ _ (by omega), hxb3_w18]
   have hxb4_wr : ∀ o, wr.cell? ⟨w10.heap.size, o, none⟩ = (#[.int .i64 MB.c, .int .i64 MB.d, .int .i64 MB.s, .int .i64 MB.e, .int .i64 MB.l, .slice ua4 B2.length uc4] : Array Value)[o]? := fun o => by rw [(bcell hbr).1 _ _ (by omega), hxb4_w18]
   have hz_wr := hbr.size
   have HVx := Lib.hid (HV.out.below hbr); clear HV; have HV := HVx; clear HVx
   have HTx := Lib.hid (HT.out.below hbr); clear HT; have HT := HTx; clear HTx
   have HCx := Lib.hid (HC.out.below hbr); clear HC; have HC := HCx; clear HCx
   have HR1x := Lib.hid (HR1.out.below hbr); clear HR1; have HR1 := HR1x; clear HR1x
   have HR2x := Lib.hid (HR2.out.below hbr); clear HR2; have HR2 := HR2x; clear HR2x
   have HTxx := Lib.hid (HTx.out.below hbr); clear HTx; have HTx := HTxx; clear HTxx
   have HCxx := Lib.hid (HCx.out.below hbr); clear HCx; have HCx := HCxx; clear HCxx
   have HXxx := Lib.hid (HXx.out.below hbr); clear HXx; have HXx := HXxx; clear HXxx
   have HU3x := Lib.hid (HU3.out.below hbr); clear HU3; have HU3 := HU3x; clear HU3x
   have HK3x := Lib.hid (HK3.out.below hbr); clear HK3; have HK3 := HK3x; clear HK3x
   have HU4x := Lib.hid (HU4.out.below hbr); clear HU4; have HU4 := HU4x; clear HU4x
   have HK4x := Lib.hid (HK4.out.below hbr); clear HK4; have HK4 := HK4x; clear HK4x
   have HTlx := Lib.hid (HTl.out.below hbr); clear HTl; have HTl := HTlx; clear HTlx
   have HR5x := Lib.hid (HR5.out.below hbr); clear HR5; have HR5 := HR5x; clear HR5x
   have HR6x := Lib.hid (HR6.out.below hbr); clear HR6; have HR6 := HR6x; clear HR6x
   have HBx := Lib.hid (HB.out.trans (hbr.mono (by omega))); clear HB; have HB := HBx; clear HBx
   clear hxb_w18
   clear hxbx_w18
   clear hxb3_w18
   clear hxb4_w18
   clear hbr
   by_cases hkk : k < Tl.length
   ·skip
    have hkd : decide ((k : Int) < (Tl.length : Int)) = true := decide_eq_true (by omega)
    have Hin := Lib.hid (Hrl2.out _ (geti_mem hkk))
    obtain ⟨bq, oq, rfl, _, hcq⟩ := HTl.out.cell hkk
    go_wp2_with fail
    refine (hasInt_b _ C1 (geti Tl k) _ true Hin.out HR5.out).mono ?_
    rintro e' w' ⟨rfl, hw⟩
    subst hw
    go_wp2_with fail
    go_roundw
    case rel => exact ⟨k + 1, by omega, by go_num, Hbr.out⟩
    case measure => simp [intOf]; omega
   ·skip
    have hkd : decide ((k : Int) < (Tl.length : Int)) = false := decide_eq_false (by omega)
    by_cases ha2 : A2 = 0
    rotate_left
    ·skip
     have ha2d : (A2 != 0) = true := by simp [ha2]
     go_wp2_with fail
     go_ret
     exact ⟨rfl, HB.out⟩
    obtain ⟨D, hD⟩ : ∃ x, keepAns m T cuts A1 = x := ⟨_, rfl⟩
    obtain ⟨D1, D2, D3⟩ := D
    obtain ⟨hd1, nn, hnp, hcn⟩ := blame_cnt EA.out ha2 hD
    obtain ⟨MD, hMD⟩ : ∃ x, keepM m D1 = x := ⟨_, rfl⟩
    rw [hMD] at hcn
    have ED := Lib.hid hD; clear hD
    have EN := Lib.hid hMD; clear hMD
    have Hcn := Lib.hid hcn; clear hcn
    have hnd : decide ((0 : Int) < (nn : Int)) = true := decide_eq_true (by omega)
    subst ha2
    go_wp2_with fail
    have hkr := KeepRows_any m _ _ _ T cuts A1 _ HT.out HC.out HR1.out
    rw [ED.out, EN.out] at hkr
    refine hkr.mono ?_
    clear hkr
    rintro e' w19 ⟨ku, kv, rfl, hK, hb⟩
    have hk1 := hK.v2.1
    have hk2 := hK.v2.2
    clear hK
    dsimp only at hk1 hk2 ⊢
    obtain ⟨ua7, uc7, rfl, _⟩ := hk1.form
    obtain ⟨ka7, kc7, rfl, _⟩ := hk2.form
    obtain ⟨w20, hw3, hb3, hz3, _, hc3, _⟩ := box_facts w19 (#[.int .i64 MD.c, .int .i64 MD.d, .int .i64 MD.s, .int .i64 MD.e, .int .i64 MD.l, .slice ua7 D2.length uc7] : Array Value) 33
    have hk1x := (hk1.below hb3).any; clear hk1; have hk2x := (hk2.below hb3).any; clear hk2
    have Hw := Lib.hid hw3; clear hw3
    have hxb_w19 : ∀ o, w19.cell? ⟨w2.heap.size, o, none⟩ = (#[.int .i64 m.c, .int .i64 m.d, .int .i64 m.s, .int .i64 m.e, .int .i64 m.l, .slice ua T.length uc] : Array Value)[o]? := fun o => by rw [(bcell hb).1 _ _ (by omega), hxb_wr]
    have hxbx_w19 : ∀ o, w19.cell? ⟨w6.heap.size, o, none⟩ = (#[.int .i64 mx.c, .int .i64 mx.d, .int .i64 mx.s, .int .i64 mx.e, .int .i64 mx.l, .slice uax Tx.length ucx] : Array Value)[o]? := fun o => by rw [(bcell hb).1 _ _ (by omega), hxbx_wr]
    have hxb3_w19 : ∀ o, w19.cell? ⟨w8.heap.size, o, none⟩ = (#[.int .i64 MB.c, .int .i64 MB.d, .int .i64 MB.s, .int .i64 MB.e, .int .i64 MB.l, .slice ua3 B2.length uc3] : Array Value)[o]? := fun o => by rw [(bcell hb).1 _ _ (by omega), hxb3_wr]
    have hxb4_w19 : ∀ o, w19.cell? ⟨w10.heap.size, o, none⟩ = (#[.int .i64 MB.c, .int .i64 MB.d, .int .i64 MB.s, .int .i64 MB.e, .int .i64 MB.l, .slice ua4 B2.length uc4] : Array Value)[o]? := fun o => by rw [(bcell hb).1 _ _ (by omega), hxb4_wr]
    have hz_w19 := hb.size
    have HVx := Lib.hid (HV.out.below hb); clear HV; have HV := HVx; clear HVx
    have HTx := Lib.hid (HT.out.below hb); clear HT; have HT := HTx; clear HTx
    have HCx := Lib.hid (HC.out.below hb); clear HC; have HC := HCx; clear HCx
    have HR1x := Lib.hid (HR1.out.below hb); clear HR1; have HR1 := HR1x; clear HR1x
    have HR2x := Lib.hid (HR2.out.below hb); clear HR2; have HR2 := HR2x; clear HR2x
    have HTxx := Lib.hid (HTx.out.below hb); clear HTx; have HTx := HTxx; clear HTxx
    have HCxx := Lib.hid (HCx.out.below hb); clear HCx; have HCx := HCxx; clear HCxx
    have HXxx := Lib.hid (HXx.out.below hb); clear HXx; have HXx := HXxx; clear HXxx
    have HU3x := Lib.hid (HU3.out.below hb); clear HU3; have HU3 := HU3x; clear HU3x
    have HK3x := Lib.hid (HK3.out.below hb); clear HK3; have HK3 := HK3x; clear HK3x
    have HU4x := Lib.hid (HU4.out.below hb); clear HU4; have HU4 := HU4x; clear HU4x
    have HK4x := Lib.hid (HK4.out.below hb); clear HK4; have HK4 := HK4x; clear HK4x
    have HTlx := Lib.hid (HTl.out.below hb); clear HTl; have HTl := HTlx; clear HTlx
    have HR5x := Lib.hid (HR5.out.below hb); clear HR5; have HR5 := HR5x; clear HR5x
    have HR6x := Lib.hid (HR6.out.below hb); clear HR6; have HR6 := HR6x; clear HR6x
    have HBx := Lib.hid (HB.out.trans (hb.mono (by omega))); clear HB; have HB := HBx; clear HBx
    clear hxb_wr
    clear hxbx_wr
    clear hxb3_wr
    clear hxb4_wr
    clear hb
    have hxb_w20 : ∀ o, w20.cell? ⟨w2.heap.size, o, none⟩ = (#[.int .i64 m.c, .int .i64 m.d, .int .i64 m.s, .int .i64 m.e, .int .i64 m.l, .slice ua T.length uc] : Array Value)[o]? := fun o => by rw [(bcell hb3).1 _ _ (by omega), hxb_w19]
    have hxbx_w20 : ∀ o, w20.cell? ⟨w6.heap.size, o, none⟩ = (#[.int .i64 mx.c, .int .i64 mx.d, .int .i64 mx.s, .int .i64 mx.e, .int .i64 mx.l, .slice uax Tx.length ucx] : Array Value)[o]? := fun o => by rw [(bcell hb3).1 _ _ (by omega), hxbx_w19]
    have hxb3_w20 : ∀ o, w20.cell? ⟨w8.heap.size, o, none⟩ = (#[.int .i64 MB.c, .int .i64 MB.d, .int .i64 MB.s, .int .i64 MB.e, .int .i64 MB.l, .slice ua3 B2.length uc3] : Array Value)[o]? := fun o => by rw [(bcell hb3).1 _ _ (by omega), hxb3_w19]
    have hxb4_w20 : ∀ o, w20.cell? ⟨w10.heap.size, o, none⟩ = (#[.int .i64 MB.c, .int .i64 MB.d, .int .i64 MB.s, .int .i64 MB.e, .int .i64 MB.l, .slice ua4 B2.length uc4] : Array Value)[o]? := fun o => by rw [(bcell hb3).1 _ _ (by omega), hxb4_w19]
    have hz_w20 := hb3.size
    have HVx := Lib.hid (HV.out.below hb3); clear HV; have HV := HVx; clear HVx
    have HTx := Lib.hid (HT.out.below hb3); clear HT; have HT := HTx; clear HTx
    have HCx := Lib.hid (HC.out.below hb3); clear HC; have HC := HCx; clear HCx
    have HR1x := Lib.hid (HR1.out.below hb3); clear HR1; have HR1 := HR1x; clear HR1x
    have HR2x := Lib.hid (HR2.out.below hb3); clear HR2; have HR2 := HR2x; clear HR2x
    have HTxx := Lib.hid (HTx.out.below hb3); clear HTx; have HTx := HTxx; clear HTxx
    have HCxx := Lib.hid (HCx.out.below hb3); clear HCx; have HCx := HCxx; clear HCxx
    have HXxx := Lib.hid (HXx.out.below hb3); clear HXx; have HXx := HXxx; clear HXxx
    have HU3x := Lib.hid (HU3.out.below hb3); clear HU3; have HU3 := HU3x; clear HU3x
    have HK3x := Lib.hid (HK3.out.below hb3); clear HK3; have HK3 := HK3x; clear HK3x
    have HU4x := Lib.hid (HU4.out.below hb3); clear HU4; have HU4 := HU4x; clear HU4x
    have HK4x := Lib.hid (HK4.out.below hb3); clear HK4; have HK4 := HK4x; clear HK4x
    have HTlx := Lib.hid (HTl.out.below hb3); clear HTl; have HTl := HTlx; clear HTlx
    have HR5x := Lib.hid (HR5.out.below hb3); clear HR5; have HR5 := HR5x; clear HR5x
    have HR6x := Lib.hid (HR6.out.below hb3); clear HR6; have HR6 := HR6x; clear HR6x
    have HBx := Lib.hid (HB.out.trans (hb3.mono (by omega))); clear HB; have HB := HBx; clear HBx
    clear hxb_w19
    clear hxbx_w19
    clear hxb3_w19
    clear hxb4_w19
    clear hb3
    have HU7 := Lib.hid hk1x; clear hk1x; have HK7 := Lib.hid hk2x; clear hk2x
    have hxb7_w20 := hc3; clear hc3
    have hzb7 := hz3; clear hz3
    have hd1d : (D1 == 0) = true := by simp [hd1]
    subst hd1
    have hqb : ∀ o, (w19.alloc (.cells #[.int .i64 MD.c, .int .i64 MD.d, .int .i64 MD.s, .int .i64 MD.e, .int .i64 MD.l, .slice ua7 D2.length uc7] 33)).cell? ⟨w2.heap.size, o, none⟩ = (#[.int .i64 m.c, .int .i64 m.d, .int .i64 m.s, .int .i64 m.e, .int .i64 m.l, .slice ua T.length uc] : Array Value)[o]? := fun o => by rw [← Hw.out]; exact hxb_w20 o
    have hqbx : ∀ o, (w19.alloc (.cells #[.int .i64 MD.c, .int .i64 MD.d, .int .i64 MD.s, .int .i64 MD.e, .int .i64 MD.l, .slice ua7 D2.length uc7] 33)).cell? ⟨w6.heap.size, o, none⟩ = (#[.int .i64 mx.c, .int .i64 mx.d, .int .i64 mx.s, .int .i64 mx.e, .int .i64 mx.l, .slice uax Tx.length ucx] : Array Value)[o]? := fun o => by rw [← Hw.out]; exact hxbx_w20 o
    have hqb3 : ∀ o, (w19.alloc (.cells #[.int .i64 MD.c, .int .i64 MD.d, .int .i64 MD.s, .int .i64 MD.e, .int .i64 MD.l, .slice ua7 D2.length uc7] 33)).cell? ⟨w8.heap.size, o, none⟩ = (#[.int .i64 MB.c, .int .i64 MB.d, .int .i64 MB.s, .int .i64 MB.e, .int .i64 MB.l, .slice ua3 B2.length uc3] : Array Value)[o]? := fun o => by rw [← Hw.out]; exact hxb3_w20 o
    have hqb4 : ∀ o, (w19.alloc (.cells #[.int .i64 MD.c, .int .i64 MD.d, .int .i64 MD.s, .int .i64 MD.e, .int .i64 MD.l, .slice ua7 D2.length uc7] 33)).cell? ⟨w10.heap.size, o, none⟩ = (#[.int .i64 MB.c, .int .i64 MB.d, .int .i64 MB.s, .int .i64 MB.e, .int .i64 MB.l, .slice ua4 B2.length uc4] : Array Value)[o]? := fun o => by rw [← Hw.out]; exact hxb4_w20 o
    go_wp2_with fail
    rw [← Hw.out]
    (try go_wp2_with fail)
    clear Hw
    clear hqb
    clear hqbx
    clear hqb3
    clear hqb4
    refine (CountFalse_any MD _ _ D2 D3 _ HU7.out HK7.out).mono ?_
    rintro e' w21 ⟨rfl, hb⟩
    rw [Hcn.out]
    have hxb_w21 : ∀ o, w21.cell? ⟨w2.heap.size, o, none⟩ = (#[.int .i64 m.c, .int .i64 m.d, .int .i64 m.s, .int .i64 m.e, .int .i64 m.l, .slice ua T.length uc] : Array Value)[o]? := fun o => by rw [(bcell hb).1 _ _ (by omega), hxb_w20]
    have hxbx_w21 : ∀ o, w21.cell? ⟨w6.heap.size, o, none⟩ = (#[.int .i64 mx.c, .int .i64 mx.d, .int .i64 mx.s, .int .i64 mx.e, .int .i64 mx.l, .slice uax Tx.length ucx] : Array Value)[o]? := fun o => by rw [(bcell hb).1 _ _ (by omega), hxbx_w20]
    have hxb3_w21 : ∀ o, w21.cell? ⟨w8.heap.size, o, none⟩ = (#[.int .i64 MB.c, .int .i64 MB.d, .int .i64 MB.s, .int .i64 MB.e, .int .i64 MB.l, .slice ua3 B2.length uc3] : Array Value)[o]? := fun o => by rw [(bcell hb).1 _ _ (by omega), hxb3_w20]
    have hxb4_w21 : ∀ o, w21.cell? ⟨w10.heap.size, o, none⟩ = (#[.int .i64 MB.c, .int .i64 MB.d, .int .i64 MB.s, .int .i64 MB.e, .int .i64 MB.l, .slice ua4 B2.length uc4] : Array Value)[o]? := fun o => by rw [(bcell hb).1 _ _ (by omega), hxb4_w20]
    have hxb7_w21 : ∀ o, w21.cell? ⟨w19.heap.size, o, none⟩ = (#[.int .i64 MD.c, .int .i64 MD.d, .int .i64 MD.s, .int .i64 MD.e, .int .i64 MD.l, .slice ua7 D2.length uc7] : Array Value)[o]? := fun o => by rw [(bcell hb).1 _ _ (by omega), hxb7_w20]
    have hz_w21 := hb.size
    have HVx := Lib.hid (HV.out.below hb); clear HV; have HV := HVx; clear HVx
    have HTx := Lib.hid (HT.out.below hb); clear HT; have HT := HTx; clear HTx
    have HCx := Lib.hid (HC.out.below hb); clear HC; have HC := HCx; clear HCx
    have HR1x := Lib.hid (HR1.out.below hb); clear HR1; have HR1 := HR1x; clear HR1x
    have HR2x := Lib.hid (HR2.out.below hb); clear HR2; have HR2 := HR2x; clear HR2x
    have HTxx := Lib.hid (HTx.out.below hb); clear HTx; have HTx := HTxx; clear HTxx
    have HCxx := Lib.hid (HCx.out.below hb); clear HCx; have HCx := HCxx; clear HCxx
    have HXxx := Lib.hid (HXx.out.below hb); clear HXx; have HXx := HXxx; clear HXxx
    have HU3x := Lib.hid (HU3.out.below hb); clear HU3; have HU3 := HU3x; clear HU3x
    have HK3x := Lib.hid (HK3.out.below hb); clear HK3; have HK3 := HK3x; clear HK3x
    have HU4x := Lib.hid (HU4.out.below hb); clear HU4; have HU4 := HU4x; clear HU4x
    have HK4x := Lib.hid (HK4.out.below hb); clear HK4; have HK4 := HK4x; clear HK4x
    have HTlx := Lib.hid (HTl.out.below hb); clear HTl; have HTl := HTlx; clear HTlx
    have HR5x := Lib.hid (HR5.out.below hb); clear HR5; have HR5 := HR5x; clear HR5x
    have HR6x := Lib.hid (HR6.out.below hb); clear HR6; have HR6 := HR6x; clear HR6x
    have HU7x := Lib.hid (HU7.out.below hb); clear HU7; have HU7 := HU7x; clear HU7x
    have HK7x := Lib.hid (HK7.out.below hb); clear HK7; have HK7 := HK7x; clear HK7x
    have HBx := Lib.hid (HB.out.trans (hb.mono (by omega))); clear HB; have HB := HBx; clear HBx
    clear hxb_w20
    clear hxbx_w20
    clear hxb3_w20
    clear hxb4_w20
    clear hxb7_w20
    clear hb
    go_wp2_with fail
    go_ret
    exact ⟨rfl, HB.out⟩
 have hkl := keep_law EB.out hb1
 rw [EM.out] at hkl
 have hln : ((B3.length : Int) != (keyx.length : Int)) = false := by rw [hkl.2]; simp
 have hln2 : ((B3.length : Int) == (keyx.length : Int)) = true := by rw [hkl.2]; simp
 have Hkl := Lib.hid hkl; clear hkl
 subst hb1
 go_wp2_with fail
 refine (isSystem_b MB _ B2 _ true Hkl.out.1 HU3.out).mono ?_
 rintro e' w19 ⟨rfl, hb⟩
 have hxb_w19 : ∀ o, w19.cell? ⟨w2.heap.size, o, none⟩ = (#[.int .i64 m.c, .int .i64 m.d, .int .i64 m.s, .int .i64 m.e, .int .i64 m.l, .slice ua T.length uc] : Array Value)[o]? := fun o => by rw [(bcell hb).1 _ _ (by omega), hxb_w18]
 have hxbx_w19 : ∀ o, w19.cell? ⟨w6.heap.size, o, none⟩ = (#[.int .i64 mx.c, .int .i64 mx.d, .int .i64 mx.s, .int .i64 mx.e, .int .i64 mx.l, .slice uax Tx.length ucx] : Array Value)[o]? := fun o => by rw [(bcell hb).1 _ _ (by omega), hxbx_w18]
 have hxb3_w19 : ∀ o, w19.cell? ⟨w8.heap.size, o, none⟩ = (#[.int .i64 MB.c, .int .i64 MB.d, .int .i64 MB.s, .int .i64 MB.e, .int .i64 MB.l, .slice ua3 B2.length uc3] : Array Value)[o]? := fun o => by rw [(bcell hb).1 _ _ (by omega), hxb3_w18]
 have hxb4_w19 : ∀ o, w19.cell? ⟨w10.heap.size, o, none⟩ = (#[.int .i64 MB.c, .int .i64 MB.d, .int .i64 MB.s, .int .i64 MB.e, .int .i64 MB.l, .slice ua4 B2.length uc4] : Array Value)[o]? := fun o => by rw [(bcell hb).1 _ _ (by omega), hxb4_w18]
 have hz_w19 := hb.size
 have HVx := Lib.hid (HV.out.below hb); clear HV; have HV := HVx; clear HVx
 have HTx := Lib.hid (HT.out.below hb); clear HT; have HT := HTx; clear HTx
 have HCx := Lib.hid (HC.out.below hb); clear HC; have HC := HCx; clear HCx
 have HR1x := Lib.hid (HR1.out.below hb); clear HR1; have HR1 := HR1x; clear HR1x
 have HR2x := Lib.hid (HR2.out.below hb); clear HR2; have HR2 := HR2x; clear HR2x
 have HTxx := Lib.hid (HTx.out.below hb); clear HTx; have HTx := HTxx; clear HTxx
 have HCxx := Lib.hid (HCx.out.below hb); clear HCx; have HCx := HCxx; clear HCxx
 have HXxx := Lib.hid (HXx.out.below hb); clear HXx; have HXx := HXxx; clear HXxx
 have HU3x := Lib.hid (HU3.out.below hb); clear HU3; have HU3 := HU3x; clear HU3x
 have HK3x := Lib.hid (HK3.out.below hb); clear HK3; have HK3 := HK3x; clear HK3x
 have HU4x := Lib.hid (HU4.out.below hb); clear HU4; have HU4 := HU4x; clear HU4x
 have HK4x := Lib.hid (HK4.out.below hb); clear HK4; have HK4 := HK4x; clear HK4x
 have HTlx := Lib.hid (HTl.out.below hb); clear HTl; have HTl := HTlx; clear HTlx
 have HR5x := Lib.hid (HR5.out.below hb); clear HR5; have HR5 := HR5x; clear HR5x
 have HR6x := Lib.hid (HR6.out.below hb); clear HR6; have HR6 := HR6x; clear HR6x
 have HBx := Lib.hid (HB.out.trans (hb.mono (by omega))); clear HB; have HB := HBx; clear HBx
 clear hxb_w18
 clear hxbx_w18
 clear hxb3_w18
 clear hxb4_w18
 clear hb
 by_cases hc2 : C2 = 0
 rotate_left
 ·skip
  have hc2d : (C2 == 0) = false := by simp [hc2]
  go_wp2_with fail
  go_loopw [23] (fun iv wr => iv = .int .i64 0 ∧ Below w19.heap.size w19 wr) (fun iv _ => 0)
  case atStart => exact ⟨rfl, Below.refl _ _⟩
  case round =>
   obtain ⟨rfl, hbr⟩ := hrel
   have hxb_wr : ∀ o, wr.cell? ⟨w2.heap.size, o, none⟩ = (#[.int .i64 m.c, .int .i64 m.d, .int .i64 m.s, .int .i64 m.e, .int .i64 m.l, .slice ua T.length uc] : Array Value)[o]? := fun o => by rw [(bcell hbr).1 _ _ (by omega), hxb_w19]
   have hxbx_wr : ∀ o, wr.cell? ⟨w6.heap.size, o, none⟩ = (#[.int .i64 mx.c, .int .i64 mx.d, .int .i64 mx.s, .int .i64 mx.e, .int .i64 mx.l, .slice uax Tx.length ucx] : Array Value)[o]? := fun o => by rw [(bcell hbr).1 _ _ (by omega), hxbx_w19]
   have hxb3_wr : ∀ o, wr.cell? ⟨w8.heap.size, o, none⟩ = (#[.int .i64 MB.c, .int .i64 MB.d, .int .i64 MB.s, .int .i64 MB.e, .int .i64 MB.l, .slice ua3 B2.length uc3] : Array Value)[o]? := fun o => by rw [(bcell hbr).1 _ _ (by omega), hxb3_w19]
   have hxb4_wr : ∀ o, wr.cell? ⟨w10.heap.size, o, none⟩ = (#[.int .i64 MB.c, .int .i64 MB.d, .int .i64 MB.s, .int .i64 MB.e, .int .i64 MB.l, .slice ua4 B2.length uc4] : Array Value)[o]? := fun o => by rw [(bcell hbr).1 _ _ (by omega), hxb4_w19]
   have hz_wr := hbr.size
   have HVx := Lib.hid (HV.out.below hbr); clear HV; have HV := HVx; clear HVx
   have HTx := Lib.hid (HT.out.below hbr); clear HT; have HT := HTx; clear HTx
   have HCx := Lib.hid (HC.out.below hbr); clear HC; have HC := HCx; clear HCx
   have HR1x := Lib.hid (HR1.out.below hbr); clear HR1; have HR1 := HR1x; clear HR1x
   have HR2x := Lib.hid (HR2.out.below hbr); clear HR2; have HR2 := HR2x; clear HR2x
   have HTxx := Lib.hid (HTx.out.below hbr); clear HTx; have HTx := HTxx; clear HTxx
   have HCxx := Lib.hid (HCx.out.below hbr); clear HCx; have HCx := HCxx; clear HCxx
   have HXxx := Lib.hid (HXx.out.below hbr); clear HXx; have HXx := HXxx; clear HXxx
   have HU3x := Lib.hid (HU3.out.below hbr); clear HU3; have HU3 := HU3x; clear HU3x
   have HK3x := Lib.hid (HK3.out.below hbr); clear HK3; have HK3 := HK3x; clear HK3x
   have HU4x := Lib.hid (HU4.out.below hbr); clear HU4; have HU4 := HU4x; clear HU4x
   have HK4x := Lib.hid (HK4.out.below hbr); clear HK4; have HK4 := HK4x; clear HK4x
   have HTlx := Lib.hid (HTl.out.below hbr); clear HTl; have HTl := HTlx; clear HTlx
   have HR5x := Lib.hid (HR5.out.below hbr); clear HR5; have HR5 := HR5x; clear HR5x
   have HR6x := Lib.hid (HR6.out.below hbr); clear HR6; have HR6 := HR6x; clear HR6x
   have HBx := Lib.hid (HB.out.trans (hbr.mono (by omega))); clear HB; have HB := HBx; clear HBx
   clear hxb_w19
   clear hxbx_w19
   clear hxb3_w19
   clear hxb4_w19
   clear hbr
   by_cases ha2 : A2 = 0
   rotate_left
   ·skip
    have ha2d : (A2 != 0) = true := by simp [ha2]
    go_wp2_with fail
    go_ret
    exact ⟨rfl, HB.out⟩
   obtain ⟨D, hD⟩ : ∃ x, keepAns m T cuts A1 = x := ⟨_, rfl⟩
   obtain ⟨D1, D2, D3⟩ := D
   obtain ⟨hd1, nn, hnp, hcn⟩ := blame_cnt EA.out ha2 hD
   obtain ⟨MD, hMD⟩ : ∃ x, keepM m D1 = x := ⟨_, rfl⟩
   rw [hMD] at hcn
   have ED := Lib.hid hD; clear hD
   have EN := Lib.hid hMD; clear hMD
   have Hcn := Lib.hid hcn; clear hcn
   have hnd : decide ((0 : Int) < (nn : Int)) = true := decide_eq_true (by omega)
   subst ha2
   go_wp2_with fail
   have hkr := KeepRows_any m _ _ _ T cuts A1 _ HT.out HC.out HR1.out
   rw [ED.out, EN.out] at hkr
   refine hkr.mono ?_
   clear hkr
   rintro e' w20 ⟨ku, kv, rfl, hK, hb⟩
   have hk1 := hK.v2.1
   have hk2 := hK.v2.2
   clear hK
   dsimp only at hk1 hk2 ⊢
   obtain ⟨ua7, uc7, rfl, _⟩ := hk1.form
   obtain ⟨ka7, kc7, rfl, _⟩ := hk2.form
   obtain ⟨w21, hw3, hb3, hz3, _, hc3, _⟩ := box_facts w20 (#[.int .i64 MD.c, .int .i64 MD.d, .int .i64 MD.s, .int .i64 MD.e, .int .i64 MD.l, .slice ua7 D2.length uc7] : Array Value) 33
   have hk1x := (hk1.below hb3).any; clear hk1; have hk2x := (hk2.below hb3).any; clear hk2
   have Hw := Lib.hid hw3; clear hw3
   have hxb_w20 : ∀ o, w20.cell? ⟨w2.heap.size, o, none⟩ = (#[.int .i64 m.c, .int .i64 m.d, .int .i64 m.s, .int .i64 m.e, .int .i64 m.l, .slice ua T.length uc] : Array Value)[o]? := fun o => by rw [(bcell hb).1 _ _ (by omega), hxb_wr]
   have hxbx_w20 : ∀ o, w20.cell? ⟨w6.heap.size, o, none⟩ = (#[.int .i64 mx.c, .int .i64 mx.d, .int .i64 mx.s, .int .i64 mx.e, .int .i64 mx.l, .slice uax Tx.length ucx] : Array Value)[o]? := fun o => by rw [(bcell hb).1 _ _ (by omega), hxbx_wr]
   have hxb3_w20 : ∀ o, w20.cell? ⟨w8.heap.size, o, none⟩ = (#[.int .i64 MB.c, .int .i64 MB.d, .int .i64 MB.s, .int .i64 MB.e, .int .i64 MB.l, .slice ua3 B2.length uc3] : Array Value)[o]? := fun o => by rw [(bcell hb).1 _ _ (by omega), hxb3_wr]
   have hxb4_w20 : ∀ o, w20.cell? ⟨w10.heap.size, o, none⟩ = (#[.int .i64 MB.c, .int .i64 MB.d, .int .i64 MB.s, .int .i64 MB.e, .int .i64 MB.l, .slice ua4 B2.length uc4] : Array Value)[o]? := fun o => by rw [(bcell hb).1 _ _ (by omega), hxb4_wr]
   have hz_w20 := hb.size
   have HVx := Lib.hid (HV.out.below hb); clear HV; have HV := HVx; clear HVx
   have HTx := Lib.hid (HT.out.below hb); clear HT; have HT := HTx; clear HTx
   have HCx := Lib.hid (HC.out.below hb); clear HC; have HC := HCx; clear HCx
   have HR1x := Lib.hid (HR1.out.below hb); clear HR1; have HR1 := HR1x; clear HR1x
   have HR2x := Lib.hid (HR2.out.below hb); clear HR2; have HR2 := HR2x; clear HR2x
   have HTxx := Lib.hid (HTx.out.below hb); clear HTx; have HTx := HTxx; clear HTxx
   have HCxx := Lib.hid (HCx.out.below hb); clear HCx; have HCx := HCxx; clear HCxx
   have HXxx := Lib.hid (HXx.out.below hb); clear HXx; have HXx := HXxx; clear HXxx
   have HU3x := Lib.hid (HU3.out.below hb); clear HU3; have HU3 := HU3x; clear HU3x
   have HK3x := Lib.hid (HK3.out.below hb); clear HK3; have HK3 := HK3x; clear HK3x
   have HU4x := Lib.hid (HU4.out.below hb); clear HU4; have HU4 := HU4x; clear HU4x
   have HK4x := Lib.hid (HK4.out.below hb); clear HK4; have HK4 := HK4x; clear HK4x
   have HTlx := Lib.hid (HTl.out.below hb); clear HTl; have HTl := HTlx; clear HTlx
   have HR5x := Lib.hid (HR5.out.below hb); clear HR5; have HR5 := HR5x; clear HR5x
   have HR6x := Lib.hid (HR6.out.below hb); clear HR6; have HR6 := HR6x; clear HR6x
   have HBx := Lib.hid (HB.out.trans (hb.mono (by omega))); clear HB; have HB := HBx; clear HBx
   clear hxb_wr
   clear hxbx_wr
   clear hxb3_wr
   clear hxb4_wr
   clear hb
   have hxb_w21 : ∀ o, w21.cell? ⟨w2.heap.size, o, none⟩ = (#[.int .i64 m.c, .int .i64 m.d, .int .i64 m.s, .int .i64 m.e, .int .i64 m.l, .slice ua T.length uc] : Array Value)[o]? := fun o => by rw [(bcell hb3).1 _ _ (by omega), hxb_w20]
   have hxbx_w21 : ∀ o, w21.cell? ⟨w6.heap.size, o, none⟩ = (#[.int .i64 mx.c, .int .i64 mx.d, .int .i64 mx.s, .int .i64 mx.e, .int .i64 mx.l, .slice uax Tx.length ucx] : Array Value)[o]? := fun o => by rw [(bcell hb3).1 _ _ (by omega), hxbx_w20]
   have hxb3_w21 : ∀ o, w21.cell? ⟨w8.heap.size, o, none⟩ = (#[.int .i64 MB.c, .int .i64 MB.d, .int .i64 MB.s, .int .i64 MB.e, .int .i64 MB.l, .slice ua3 B2.length uc3] : Array Value)[o]? := fun o => by rw [(bcell hb3).1 _ _ (by omega), hxb3_w20]
   have hxb4_w21 : ∀ o, w21.cell? ⟨w10.heap.size, o, none⟩ = (#[.int .i64 MB.c, .int .i64 MB.d, .int .i64 MB.s, .int .i64 MB.e, .int .i64 MB.l, .slice ua4 B2.length uc4] : Array Value)[o]? := fun o => by rw [(bcell hb3).1 _ _ (by omega), hxb4_w20]
   have hz_w21 := hb3.size
   have HVx := Lib.hid (HV.out.below hb3); clear HV; have HV := HVx; clear HVx
   have HTx := Lib.hid (HT.out.below hb3); clear HT; have HT := HTx; clear HTx
   have HCx := Lib.hid (HC.out.below hb3); clear HC; have HC := HCx; clear HCx
   have HR1x := Lib.hid (HR1.out.below hb3); clear HR1; have HR1 := HR1x; clear HR1x
   have HR2x := Lib.hid (HR2.out.below hb3); clear HR2; have HR2 := HR2x; clear HR2x
   have HTxx := Lib.hid (HTx.out.below hb3); clear HTx; have HTx := HTxx; clear HTxx
   have HCxx := Lib.hid (HCx.out.below hb3); clear HCx; have HCx := HCxx; clear HCxx
   have HXxx := Lib.hid (HXx.out.below hb3); clear HXx; have HXx := HXxx; clear HXxx
   have HU3x := Lib.hid (HU3.out.below hb3); clear HU3; have HU3 := HU3x; clear HU3x
   have HK3x := Lib.hid (HK3.out.below hb3); clear HK3; have HK3 := HK3x; clear HK3x
   have HU4x := Lib.hid (HU4.out.below hb3); clear HU4; have HU4 := HU4x; clear HU4x
   have HK4x := Lib.hid (HK4.out.below hb3); clear HK4; have HK4 := HK4x; clear HK4x
   have HTlx := Lib.hid (HTl.out.below hb3); clear HTl; have HTl := HTlx; clear HTlx
   have HR5x := Lib.hid (HR5.out.below hb3); clear HR5; have HR5 := HR5x; clear HR5x
   have HR6x := Lib.hid (HR6.out.below hb3); clear HR6; have HR6 := HR6x; clear HR6x
   have HBx := Lib.hid (HB.out.trans (hb3.mono (by omega))); clear HB; have HB := HBx; clear HBx
   clear hxb_w20
   clear hxbx_w20
   clear hxb3_w20
   clear hxb4_w20
   clear hb3
   have HU7 := Lib.hid hk1x; clear hk1x; have HK7 := Lib.hid hk2x; clear hk2x
   have hxb7_w21 := hc3; clear hc3
   have hzb7 := hz3; clear hz3
   have hd1d : (D1 == 0) = true := by simp [hd1]
   subst hd1
   have hqb : ∀ o, (w20.alloc (.cells #[.int .i64 MD.c, .int .i64 MD.d, .int .i64 MD.s, .int .i64 MD.e, .int .i64 MD.l, .slice ua7 D2.length uc7] 33)).cell? ⟨w2.heap.size, o, none⟩ = (#[.int .i64 m.c, .int .i64 m.d, .int .i64 m.s, .int .i64 m.e, .int .i64 m.l, .slice ua T.length uc] : Array Value)[o]? := fun o => by rw [← Hw.out]; exact hxb_w21 o
   have hqbx : ∀ o, (w20.alloc (.cells #[.int .i64 MD.c, .int .i64 MD.d, .int .i64 MD.s, .int .i64 MD.e, .int .i64 MD.l, .slice ua7 D2.length uc7] 33)).cell? ⟨w6.heap.size, o, none⟩ = (#[.int .i64 mx.c, .int .i64 mx.d, .int .i64 mx.s, .int .i64 mx.e, .int .i64 mx.l, .slice uax Tx.length ucx] : Array Value)[o]? := fun o => by rw [← Hw.out]; exact hxbx_w21 o
   have hqb3 : ∀ o, (w20.alloc (.cells #[.int .i64 MD.c, .int .i64 MD.d, .int .i64 MD.s, .int .i64 MD.e, .int .i64 MD.l, .slice ua7 D2.length uc7] 33)).cell? ⟨w8.heap.size, o, none⟩ = (#[.int .i64 MB.c, .int .i64 MB.d, .int .i64 MB.s, .int .i64 MB.e, .int .i64 MB.l, .slice ua3 B2.length uc3] : Array Value)[o]? := fun o => by rw [← Hw.out]; exact hxb3_w21 o
   have hqb4 : ∀ o, (w20.alloc (.cells #[.int .i64 MD.c, .int .i64 MD.d, .int .i64 MD.s, .int .i64 MD.e, .int .i64 MD.l, .slice ua7 D2.length uc7] 33)).cell? ⟨w10.heap.size, o, none⟩ = (#[.int .i64 MB.c, .int .i64 MB.d, .int .i64 MB.s, .int .i64 MB.e, .int .i64 MB.l, .slice ua4 B2.length uc4] : Array Value)[o]? := fun o => by rw [← Hw.out]; exact hxb4_w21 o
   go_wp2_with fail
   rw [← Hw.out]
   (try go_wp2_with fail)
   clear Hw
   clear hqb
   clear hqbx
   clear hqb3
   clear hqb4
   refine (CountFalse_any MD _ _ D2 D3 _ HU7.out HK7.out).mono ?_
   rintro e' w22 ⟨rfl, hb⟩
   rw [Hcn.out]
   have hxb_w22 : ∀ o, w22.cell? ⟨w2.heap.size, o, none⟩ = (#[.int .i64 m.c, .int .i64 m.d, .int .i64 m.s, .int .i64 m.e, .int .i64 m.l, .slice ua T.length uc] : Array Value)[o]? := fun o => by rw [(bcell hb).1 _ _ (by omega), hxb_w21]
   have hxbx_w22 : ∀ o, w22.cell? ⟨w6.heap.size, o, none⟩ = (#[.int .i64 mx.c, .int .i64 mx.d, .int .i64 mx.s, .int .i64 mx.e, .int .i64 mx.l, .slice uax Tx.length ucx] : Array Value)[o]? := fun o => by rw [(bcell hb).1 _ _ (by omega), hxbx_w21]
   have hxb3_w22 : ∀ o, w22.cell? ⟨w8.heap.size, o, none⟩ = (#[.int .i64 MB.c, .int .i64 MB.d, .int .i64 MB.s, .int .i64 MB.e, .int .i64 MB.l, .slice ua3 B2.length uc3] : Array Value)[o]? := fun o => by rw [(bcell hb).1 _ _ (by omega), hxb3_w21]
   have hxb4_w22 : ∀ o, w22.cell? ⟨w10.heap.size, o, none⟩ = (#[.int .i64 MB.c, .int .i64 MB.d, .int .i64 MB.s, .int .i64 MB.e, .int .i64 MB.l, .slice ua4 B2.length uc4] : Array Value)[o]? := fun o => by rw [(bcell hb).1 _ _ (by omega), hxb4_w21]
   have hxb7_w22 : ∀ o, w22.cell? ⟨w20.heap.size, o, none⟩ = (#[.int .i64 MD.c, .int .i64 MD.d, .int .i64 MD.s, .int .i64 MD.e, .int .i64 MD.l, .slice ua7 D2.length uc7] : Array Value)[o]? := fun o => by rw [(bcell hb).1 _ _ (by omega), hxb7_w21]
   have hz_w22 := hb.size
   have HVx := Lib.hid (HV.out.below hb); clear HV; have HV := HVx; clear HVx
   have HTx := Lib.hid (HT.out.below hb); clear HT; have HT := HTx; clear HTx
   have HCx := Lib.hid (HC.out.below hb); clear HC; have HC := HCx; clear HCx
   have HR1x := Lib.hid (HR1.out.below hb); clear HR1; have HR1 := HR1x; clear HR1x
   have HR2x := Lib.hid (HR2.out.below hb); clear HR2; have HR2 := HR2x; clear HR2x
   have HTxx := Lib.hid (HTx.out.below hb); clear HTx; have HTx := HTxx; clear HTxx
   have HCxx := Lib.hid (HCx.out.below hb); clear HCx; have HCx := HCxx; clear HCxx
   have HXxx := Lib.hid (HXx.out.below hb); clear HXx; have HXx := HXxx; clear HXxx
   have HU3x := Lib.hid (HU3.out.below hb); clear HU3; have HU3 := HU3x; clear HU3x
   have HK3x := Lib.hid (HK3.out.below hb); clear HK3; have HK3 := HK3x; clear HK3x
   have HU4x := Lib.hid (HU4.out.below hb); clear HU4; have HU4 := HU4x; clear HU4x
   have HK4x := Lib.hid (HK4.out.below hb); clear HK4; have HK4 := HK4x; clear HK4x
   have HTlx := Lib.hid (HTl.out.below hb); clear HTl; have HTl := HTlx; clear HTlx
   have HR5x := Lib.hid (HR5.out.below hb); clear HR5; have HR5 := HR5x; clear HR5x
   have HR6x := Lib.hid (HR6.out.below hb); clear HR6; have HR6 := HR6x; clear HR6x
   have HU7x := Lib.hid (HU7.out.below hb); clear HU7; have HU7 := HU7x; clear HU7x
   have HK7x := Lib.hid (HK7.out.below hb); clear HK7; have HK7 := HK7x; clear HK7x
   have HBx := Lib.hid (HB.out.trans (hb.mono (by omega))); clear HB; have HB := HBx; clear HBx
   clear hxb_w21
   clear hxbx_w21
   clear hxb3_w21
   clear hxb4_w21
   clear hxb7_w21
   clear hb
   go_wp2_with fail
   go_ret
   exact ⟨rfl, HB.out⟩
 subst hc2
 have Hrl2 := Lib.hid (Hrl.out rfl)
 go_wp2_with fail
 go_loopw [23] (fun iv wr => ∃ k : Nat, k ≤ Tl.length ∧ iv = .int .i64 (k : Int) ∧ Below w19.heap.size w19 wr) (fun iv _ => Tl.length - (intOf iv).toNat)
 case atStart => exact ⟨0, Nat.zero_le _, rfl, Below.refl _ _⟩
 case round =>
  obtain ⟨k, hk, rfl, hbr⟩ := hrel
  have Hbr := Lib.hid hbr
  have hxb_wr : ∀ o, wr.cell? ⟨w2.heap.size, o, none⟩ = (#[.int .i64 m.c, .int .i64 m.d, .int .i64 m.s, .int .i64 m.e, .int .i64 m.l, .slice ua T.length uc] : Array Value)[o]? := fun o => by rw [(bcell hbr).1 _ _ (by omega), hxb_w19]
  have hxbx_wr : ∀ o, wr.cell? ⟨w6.heap.size, o, none⟩ = (#[.int .i64 mx.c, .int .i64 mx.d, .int .i64 mx.s, .int .i64 mx.e, .int .i64 mx.l, .slice uax Tx.length ucx] : Array Value)[o]? := fun o => by rw [(bcell hbr).1 _ _ (by omega), hxbx_w19]
  have hxb3_wr : ∀ o, wr.cell? ⟨w8.heap.size, o, none⟩ = (#[.int .i64 MB.c, .int .i64 MB.d, .int .i64 MB.s, .int .i64 MB.e, .int .i64 MB.l, .slice ua3 B2.length uc3] : Array Value)[o]? := fun o => by rw [(bcell hbr).1 _ _ (by omega), hxb3_w19]
  have hxb4_wr : ∀ o, wr.cell? ⟨w10.heap.size, o, none⟩ = (#[.int .i64 MB.c, .int .i64 MB.d, .int .i64 MB.s, .int .i64 MB.e, .int .i64 MB.l, .slice ua4 B2.length uc4] : Array Value)[o]? := fun o => by rw [(bcell hbr).1 _ _ (by omega), hxb4_w19]
  have hz_wr := hbr.size
  have HVx := Lib.hid (HV.out.below hbr); clear HV; have HV := HVx; clear HVx
  have HTx := Lib.hid (HT.out.below hbr); clear HT; have HT := HTx; clear HTx
  have HCx := Lib.hid (HC.out.below hbr); clear HC; have HC := HCx; clear HCx
  have HR1x := Lib.hid (HR1.out.below hbr); clear HR1; have HR1 := HR1x; clear HR1x
  have HR2x := Lib.hid (HR2.out.below hbr); clear HR2; have HR2 := HR2x; clear HR2x
  have HTxx := Lib.hid (HTx.out.below hbr); clear HTx; have HTx := HTxx; clear HTxx
  have HCxx := Lib.hid (HCx.out.below hbr); clear HCx; have HCx := HCxx; clear HCxx
  have HXxx := Lib.hid (HXx.out.below hbr); clear HXx; have HXx := HXxx; clear HXxx
  have HU3x := Lib.hid (HU3.out.below hbr); clear HU3; have HU3 := HU3x; clear HU3x
  have HK3x := Lib.hid (HK3.out.below hbr); clear HK3; have HK3 := HK3x; clear HK3x
  have HU4x := Lib.hid (HU4.out.below hbr); clear HU4; have HU4 := HU4x; clear HU4x
  have HK4x := Lib.hid (HK4.out.below hbr); clear HK4; have HK4 := HK4x; clear HK4x
  have HTlx := Lib.hid (HTl.out.below hbr); clear HTl; have HTl := HTlx; clear HTlx
  have HR5x := Lib.hid (HR5.out.below hbr); clear HR5; have HR5 := HR5x; clear HR5x
  have HR6x := Lib.hid (HR6.out.below hbr); clear HR6; have HR6 := HR6x; clear HR6x
  have HBx := Lib.hid (HB.out.trans (hbr.mono (by omega))); clear HB; have HB := HBx; clear HBx
  clear hxb_w19
  clear hxbx_w19
  clear hxb3_w19
  clear hxb4_w19
  clear hbr
  by_cases hkk : k < Tl.length
  ·skip
   have hkd : decide ((k : Int) < (Tl.length : Int)) = true := decide_eq_true (by omega)
   have Hin := Lib.hid (Hrl2.out _ (geti_mem hkk))
   obtain ⟨bq, oq, rfl, _, hcq⟩ := HTl.out.cell hkk
   go_wp2_with fail
   refine (hasInt_b _ C1 (geti Tl k) _ true Hin.out HR5.out).mono ?_
   rintro e' w' ⟨rfl, hw⟩
   subst hw
   go_wp2_with fail
   go_roundw
   case rel => exact ⟨k + 1, by omega, by go_num, Hbr.out⟩
   case measure => simp [intOf]; omega
  ·skip
   have hkd : decide ((k : Int) < (Tl.length : Int)) = false := decide_eq_false (by omega)
   by_cases ha2 : A2 = 0
   rotate_left
   ·skip
    have ha2d : (A2 != 0) = true := by simp [ha2]
    go_wp2_with fail
    go_ret
    exact ⟨rfl, HB.out⟩
   obtain ⟨D, hD⟩ : ∃ x, keepAns m T cuts A1 = x := ⟨_, rfl⟩
   obtain ⟨D1, D2, D3⟩ := D
   obtain ⟨hd1, nn, hnp, hcn⟩ := blame_cnt EA.out ha2 hD
   obtain ⟨MD, hMD⟩ : ∃ x, keepM m D1 = x := ⟨_, rfl⟩
   rw [hMD] at hcn
   have ED := Lib.hid hD; clear hD
   have EN := Lib.hid hMD; clear hMD
   have Hcn := Lib.hid hcn; clear hcn
   have hnd : decide ((0 : Int) < (nn : Int)) = true := decide_eq_true (by omega)
   subst ha2
   go_wp2_with fail
   have hkr := KeepRows_any m _ _ _ T cuts A1 _ HT.out HC.out HR1.out
   rw [ED.out, EN.out] at hkr
   refine hkr.mono ?_
   clear hkr
   rintro e' w20 ⟨ku, kv, rfl, hK, hb⟩
   have hk1 := hK.v2.1
   have hk2 := hK.v2.2
   clear hK
   dsimp only at hk1 hk2 ⊢
   obtain ⟨ua7, uc7, rfl, _⟩ := hk1.form
   obtain ⟨ka7, kc7, rfl, _⟩ := hk2.form
   obtain ⟨w21, hw3, hb3, hz3, _, hc3, _⟩ := box_facts w20 (#[.int .i64 MD.c, .int .i64 MD.d, .int .i64 MD.s, .int .i64 MD.e, .int .i64 MD.l, .slice ua7 D2.length uc7] : Array Value) 33
   have hk1x := (hk1.below hb3).any; clear hk1; have hk2x := (hk2.below hb3).any; clear hk2
   have Hw := Lib.hid hw3; clear hw3
   have hxb_w20 : ∀ o, w20.cell? ⟨w2.heap.size, o, none⟩ = (#[.int .i64 m.c, .int .i64 m.d, .int .i64 m.s, .int .i64 m.e, .int .i64 m.l, .slice ua T.length uc] : Array Value)[o]? := fun o => by rw [(bcell hb).1 _ _ (by omega), hxb_wr]
   have hxbx_w20 : ∀ o, w20.cell? ⟨w6.heap.size, o, none⟩ = (#[.int .i64 mx.c, .int .i64 mx.d, .int .i64 mx.s, .int .i64 mx.e, .int .i64 mx.l, .slice uax Tx.length ucx] : Array Value)[o]? := fun o => by rw [(bcell hb).1 _ _ (by omega), hxbx_wr]
   have hxb3_w20 : ∀ o, w20.cell? ⟨w8.heap.size, o, none⟩ = (#[.int .i64 MB.c, .int .i64 MB.d, .int .i64 MB.s, .int .i64 MB.e, .int .i64 MB.l, .slice ua3 B2.length uc3] : Array Value)[o]? := fun o => by rw [(bcell hb).1 _ _ (by omega), hxb3_wr]
   have hxb4_w20 : ∀ o, w20.cell? ⟨w10.heap.size, o, none⟩ = (#[.int .i64 MB.c, .int .i64 MB.d, .int .i64 MB.s, .int .i64 MB.e, .int .i64 MB.l, .slice ua4 B2.length uc4] : Array Value)[o]? := fun o => by rw [(bcell hb).1 _ _ (by omega), hxb4_wr]
   have hz_w20 := hb.size
   have HVx := Lib.hid (HV.out.below hb); clear HV; have HV := HVx; clear HVx
   have HTx := Lib.hid (HT.out.below hb); clear HT; have HT := HTx; clear HTx
   have HCx := Lib.hid (HC.out.below hb); clear HC; have HC := HCx; clear HCx
   have HR1x := Lib.hid (HR1.out.below hb); clear HR1; have HR1 := HR1x; clear HR1x
   have HR2x := Lib.hid (HR2.out.below hb); clear HR2; have HR2 := HR2x; clear HR2x
   have HTxx := Lib.hid (HTx.out.below hb); clear HTx; have HTx := HTxx; clear HTxx
   have HCxx := Lib.hid (HCx.out.below hb); clear HCx; have HCx := HCxx; clear HCxx
   have HXxx := Lib.hid (HXx.out.below hb); clear HXx; have HXx := HXxx; clear HXxx
   have HU3x := Lib.hid (HU3.out.below hb); clear HU3; have HU3 := HU3x; clear HU3x
   have HK3x := Lib.hid (HK3.out.below hb); clear HK3; have HK3 := HK3x; clear HK3x
   have HU4x := Lib.hid (HU4.out.below hb); clear HU4; have HU4 := HU4x; clear HU4x
   have HK4x := Lib.hid (HK4.out.below hb); clear HK4; have HK4 := HK4x; clear HK4x
   have HTlx := Lib.hid (HTl.out.below hb); clear HTl; have HTl := HTlx; clear HTlx
   have HR5x := Lib.hid (HR5.out.below hb); clear HR5; have HR5 := HR5x; clear HR5x
   have HR6x := Lib.hid (HR6.out.below hb); clear HR6; have HR6 := HR6x; clear HR6x
   have HBx := Lib.hid (HB.out.trans (hb.mono (by omega))); clear HB; have HB := HBx; clear HBx
   clear hxb_wr
   clear hxbx_wr
   clear hxb3_wr
   clear hxb4_wr
   clear hb
   have hxb_w21 : ∀ o, w21.cell? ⟨w2.heap.size, o, none⟩ = (#[.int .i64 m.c, .int .i64 m.d, .int .i64 m.s, .int .i64 m.e, .int .i64 m.l, .slice ua T.length uc] : Array Value)[o]? := fun o => by rw [(bcell hb3).1 _ _ (by omega), hxb_w20]
   have hxbx_w21 : ∀ o, w21.cell? ⟨w6.heap.size, o, none⟩ = (#[.int .i64 mx.c, .int .i64 mx.d, .int .i64 mx.s, .int .i64 mx.e, .int .i64 mx.l, .slice uax Tx.length ucx] : Array Value)[o]? := fun o => by rw [(bcell hb3).1 _ _ (by omega), hxbx_w20]
   have hxb3_w21 : ∀ o, w21.cell? ⟨w8.heap.size, o, none⟩ = (#[.int .i64 MB.c, .int .i64 MB.d, .int .i64 MB.s, .int .i64 MB.e, .int .i64 MB.l, .slice ua3 B2.length uc3] : Array Value)[o]? := fun o => by rw [(bcell hb3).1 _ _ (by omega), hxb3_w20]
   have hxb4_w21 : ∀ o, w21.cell? ⟨w10.heap.size, o, none⟩ = (#[.int .i64 MB.c, .int .i64 MB.d, .int .i64 MB.s, .int .i64 MB.e, .int .i64 MB.l, .slice ua4 B2.length uc4] : Array Value)[o]? := fun o => by rw [(bcell hb3).1 _ _ (by omega), hxb4_w20]
   have hz_w21 := hb3.size
   have HVx := Lib.hid (HV.out.below hb3); clear HV; have HV := HVx; clear HVx
   have HTx := Lib.hid (HT.out.below hb3); clear HT; have HT := HTx; clear HTx
   have HCx := Lib.hid (HC.out.below hb3); clear HC; have HC := HCx; clear HCx
   have HR1x := Lib.hid (HR1.out.below hb3); clear HR1; have HR1 := HR1x; clear HR1x
   have HR2x := Lib.hid (HR2.out.below hb3); clear HR2; have HR2 := HR2x; clear HR2x
   have HTxx := Lib.hid (HTx.out.below hb3); clear HTx; have HTx := HTxx; clear HTxx
   have HCxx := Lib.hid (HCx.out.below hb3); clear HCx; have HCx := HCxx; clear HCxx
   have HXxx := Lib.hid (HXx.out.below hb3); clear HXx; have HXx := HXxx; clear HXxx
   have HU3x := Lib.hid (HU3.out.below hb3); clear HU3; have HU3 := HU3x; clear HU3x
   have HK3x := Lib.hid (HK3.out.below hb3); clear HK3; have HK3 := HK3x; clear HK3x
   have HU4x := Lib.hid (HU4.out.below hb3); clear HU4; have HU4 := HU4x; clear HU4x
   have HK4x := Lib.hid (HK4.out.below hb3); clear HK4; have HK4 := HK4x; clear HK4x
   have HTlx := Lib.hid (HTl.out.below hb3); clear HTl; have HTl := HTlx; clear HTlx
   have HR5x := Lib.hid (HR5.out.below hb3); clear HR5; have HR5 := HR5x; clear HR5x
   have HR6x := Lib.hid (HR6.out.below hb3); clear HR6; have HR6 := HR6x; clear HR6x
   have HBx := Lib.hid (HB.out.trans (hb3.mono (by omega))); clear HB; have HB := HBx; clear HBx
   clear hxb_w20
   clear hxbx_w20
   clear hxb3_w20
   clear hxb4_w20
   clear hb3
   have HU7 := Lib.hid hk1x; clear hk1x; have HK7 := Lib.hid hk2x; clear hk2x
   have hxb7_w21 := hc3; clear hc3
   have hzb7 := hz3; clear hz3
   have hd1d : (D1 == 0) = true := by simp [hd1]
   subst hd1
   have hqb : ∀ o, (w20.alloc (.cells #[.int .i64 MD.c, .int .i64 MD.d, .int .i64 MD.s, .int .i64 MD.e, .int .i64 MD.l, .slice ua7 D2.length uc7] 33)).cell? ⟨w2.heap.size, o, none⟩ = (#[.int .i64 m.c, .int .i64 m.d, .int .i64 m.s, .int .i64 m.e, .int .i64 m.l, .slice ua T.length uc] : Array Value)[o]? := fun o => by rw [← Hw.out]; exact hxb_w21 o
   have hqbx : ∀ o, (w20.alloc (.cells #[.int .i64 MD.c, .int .i64 MD.d, .int .i64 MD.s, .int .i64 MD.e, .int .i64 MD.l, .slice ua7 D2.length uc7] 33)).cell? ⟨w6.heap.size, o, none⟩ = (#[.int .i64 mx.c, .int .i64 mx.d, .int .i64 mx.s, .int .i64 mx.e, .int .i64 mx.l, .slice uax Tx.length ucx] : Array Value)[o]? := fun o => by rw [← Hw.out]; exact hxbx_w21 o
   have hqb3 : ∀ o, (w20.alloc (.cells #[.int .i64 MD.c, .int .i64 MD.d, .int .i64 MD.s, .int .i64 MD.e, .int .i64 MD.l, .slice ua7 D2.length uc7] 33)).cell? ⟨w8.heap.size, o, none⟩ = (#[.int .i64 MB.c, .int .i64 MB.d, .int .i64 MB.s, .int .i64 MB.e, .int .i64 MB.l, .slice ua3 B2.length uc3] : Array Value)[o]? := fun o => by rw [← Hw.out]; exact hxb3_w21 o
   have hqb4 : ∀ o, (w20.alloc (.cells #[.int .i64 MD.c, .int .i64 MD.d, .int .i64 MD.s, .int .i64 MD.e, .int .i64 MD.l, .slice ua7 D2.length uc7] 33)).cell? ⟨w10.heap.size, o, none⟩ = (#[.int .i64 MB.c, .int .i64 MB.d, .int .i64 MB.s, .int .i64 MB.e, .int .i64 MB.l, .slice ua4 B2.length uc4] : Array Value)[o]? := fun o => by rw [← Hw.out]; exact hxb4_w21 o
   go_wp2_with fail
   rw [← Hw.out]
   (try go_wp2_with fail)
   clear Hw
   clear hqb
   clear hqbx
   clear hqb3
   clear hqb4
   refine (CountFalse_any MD _ _ D2 D3 _ HU7.out HK7.out).mono ?_
   rintro e' w22 ⟨rfl, hb⟩
   rw [Hcn.out]
   have hxb_w22 : ∀ o, w22.cell? ⟨w2.heap.size, o, none⟩ = (#[.int .i64 m.c, .int .i64 m.d, .int .i64 m.s, .int .i64 m.e, .int .i64 m.l, .slice ua T.length uc] : Array Value)[o]? := fun o => by rw [(bcell hb).1 _ _ (by omega), hxb_w21]
   have hxbx_w22 : ∀ o, w22.cell? ⟨w6.heap.size, o, none⟩ = (#[.int .i64 mx.c, .int .i64 mx.d, .int .i64 mx.s, .int .i64 mx.e, .int .i64 mx.l, .slice uax Tx.length ucx] : Array Value)[o]? := fun o => by rw [(bcell hb).1 _ _ (by omega), hxbx_w21]
   have hxb3_w22 : ∀ o, w22.cell? ⟨w8.heap.size, o, none⟩ = (#[.int .i64 MB.c, .int .i64 MB.d, .int .i64 MB.s, .int .i64 MB.e, .int .i64 MB.l, .slice ua3 B2.length uc3] : Array Value)[o]? := fun o => by rw [(bcell hb).1 _ _ (by omega), hxb3_w21]
   have hxb4_w22 : ∀ o, w22.cell? ⟨w10.heap.size, o, none⟩ = (#[.int .i64 MB.c, .int .i64 MB.d, .int .i64 MB.s, .int .i64 MB.e, .int .i64 MB.l, .slice ua4 B2.length uc4] : Array Value)[o]? := fun o => by rw [(bcell hb).1 _ _ (by omega), hxb4_w21]
   have hxb7_w22 : ∀ o, w22.cell? ⟨w20.heap.size, o, none⟩ = (#[.int .i64 MD.c, .int .i64 MD.d, .int .i64 MD.s, .int .i64 MD.e, .int .i64 MD.l, .slice ua7 D2.length uc7] : Array Value)[o]? := fun o => by rw [(bcell hb).1 _ _ (by omega), hxb7_w21]
   have hz_w22 := hb.size
   have HVx := Lib.hid (HV.out.below hb); clear HV; have HV := HVx; clear HVx
   have HTx := Lib.hid (HT.out.below hb); clear HT; have HT := HTx; clear HTx
   have HCx := Lib.hid (HC.out.below hb); clear HC; have HC := HCx; clear HCx
   have HR1x := Lib.hid (HR1.out.below hb); clear HR1; have HR1 := HR1x; clear HR1x
   have HR2x := Lib.hid (HR2.out.below hb); clear HR2; have HR2 := HR2x; clear HR2x
   have HTxx := Lib.hid (HTx.out.below hb); clear HTx; have HTx := HTxx; clear HTxx
   have HCxx := Lib.hid (HCx.out.below hb); clear HCx; have HCx := HCxx; clear HCxx
   have HXxx := Lib.hid (HXx.out.below hb); clear HXx; have HXx := HXxx; clear HXxx
   have HU3x := Lib.hid (HU3.out.below hb); clear HU3; have HU3 := HU3x; clear HU3x
   have HK3x := Lib.hid (HK3.out.below hb); clear HK3; have HK3 := HK3x; clear HK3x
   have HU4x := Lib.hid (HU4.out.below hb); clear HU4; have HU4 := HU4x; clear HU4x
   have HK4x := Lib.hid (HK4.out.below hb); clear HK4; have HK4 := HK4x; clear HK4x
   have HTlx := Lib.hid (HTl.out.below hb); clear HTl; have HTl := HTlx; clear HTlx
   have HR5x := Lib.hid (HR5.out.below hb); clear HR5; have HR5 := HR5x; clear HR5x
   have HR6x := Lib.hid (HR6.out.below hb); clear HR6; have HR6 := HR6x; clear HR6x
   have HU7x := Lib.hid (HU7.out.below hb); clear HU7; have HU7 := HU7x; clear HU7x
   have HK7x := Lib.hid (HK7.out.below hb); clear HK7; have HK7 := HK7x; clear HK7x
   have HBx := Lib.hid (HB.out.trans (hb.mono (by omega))); clear HB; have HB := HBx; clear HBx
   clear hxb_w21
   clear hxbx_w21
   clear hxb3_w21
   clear hxb4_w21
   clear hxb7_w21
   clear hb
   go_wp2_with fail
   go_ret
   exact ⟨rfl, HB.out⟩
end Go.Proofs.YtmjplkbmhdkggaaGreat
