/- The walk of 'laws.FnFound'. No conditions. -/
import Derived.Test.YtmaefilliggjiaaGreatMDraw1
import Derived.Test.YtmaefilliggjiaaGreatMRefFirst
import Derived.Test.YtmaefilliggjiaaGreatMDraw30
import Derived.Test.YtmaefilliggjiaaGreatMDraw23
import Derived.Test.YtmaefilliggjiaaGreatMDesO
import Derived.Test.YtmaefilliggjiaaGreatMGoS
namespace Go.Proofs.YtmaefilliggjiaaGreat
open Go.RowKit
set_option linter.unusedVariables false
set_option linter.unusedSimpArgs false
theorem des_one {B : Nat} {w : World} {v : Value} {d : List (List Int)} (h : F3 B w v [d]) : ∃ g c qa qc, v = .slice (some ⟨g, 0, none⟩) 1 c ∧ w.cell? ⟨g, 0, none⟩ = some (.slice qa d.length qc) ∧ V2 (fun _ => True) w (.slice qa d.length qc) d := by
 obtain ⟨vs, L, U, hO⟩ := h
 obtain ⟨g, cap, e, _, _⟩ := own_some hO.own (by simp)
 subst e
 obtain ⟨rv, h1, h2⟩ := hO.each 0 (by simp)
 have hc0 : w.cell? ⟨g, 0, none⟩ = some rv := by
  have h3 := hO.own.cells (g := g) rfl 0 rv h1
  simpa [Addr.add] using h3
 have hF : V2 (fun _ => True) w rv d := h2.f2.v2.any
 obtain ⟨ra, rc, rfl, _⟩ := hF.form
 exact ⟨g, cap, ra, rc, rfl, hc0, hF⟩
set_option maxHeartbeats 4000000 in
set_option maxRecDepth 100000 in
theorem fnFound_walk (W : World) (v : Value) (l : List Int) (h : VB (Old W) W v l) :
  Calls Tryz.prog 8 #[v] W fun e' w' => e' = .returned (.bool true) ∧ Below W.heap.size W w' := by
 have hV := h
 obtain ⟨a, c, rfl, hm⟩ := h.form
 have HV := Lib.hid hV; clear hV h
 cases hbig : decide (4096 < l.length)
 rotate_left
 ·have Hbig := Lib.hid hbig; clear hbig
  go_enter Tryz.func8, Tryz.ntmps8
  go_wp2_with fail
  refine (big_any _ l W true Hbig.out HV.out).mono ?_
  rintro e' w' ⟨rfl, hW⟩
  subst hW
  go_wp2_with fail
  go_ret
  exact ⟨rfl, Below.refl _ _⟩
 have Hbig := Lib.hid hbig; clear hbig
 go_enter Tryz.func8, Tryz.ntmps8
 go_wp2_with fail
 refine (big_any _ l W false Hbig.out HV.out).mono ?_
 rintro e' w' ⟨rfl, hW⟩
 subst hW
 have HB := Lib.hid (Below.refl W.heap.size W)
 go_wp2_with fail
 refine (DrawFindDesign_any _ l _ HV.out).mono ?_
 rintro e' w2 hD
 obtain ⟨m, u, T, n, rfl, hu, hb⟩ := hD.open
 obtain ⟨ua, uc, rfl, _⟩ := hu.form
 obtain ⟨w3, hw3, hb3, hz3, _, hc3, _⟩ := box_facts w2 (#[.int .i64 m.c, .int .i64 m.d, .int .i64 m.s, .int .i64 m.e, .int .i64 m.l, .slice ua T.length uc] : Array Value) 28
 have hu := Lib.hid (hu.any.below hb3)
 have Hw := Lib.hid hw3; clear hw3
 have hz_w2 := hb.size
 have HVx := Lib.hid (HV.out.below hb); clear HV; have HV := HVx; clear HVx
 have HBx := Lib.hid (HB.out.trans (hb.mono (by omega))); clear HB; have HB := HBx; clear HBx
 clear hb
 have hz_w3 := hb3.size
 have HVx := Lib.hid (HV.out.below hb3); clear HV; have HV := HVx; clear HVx
 have HBx := Lib.hid (HB.out.trans (hb3.mono (by omega))); clear HB; have HB := HBx; clear HBx
 clear hb3
 have HT := hu; clear hu
 have hxb_w3 := hc3; clear hc3
 have hzb := hz3; clear hz3
 go_wp2_with fail
 rw [← Hw.out]
 (try go_wp2_with fail)
 clear Hw
 obtain ⟨A, hA⟩ : ∃ x, findAns m T [] n = x := ⟨_, rfl⟩
 have EA := Lib.hid hA; clear hA
 refine (FindDesign_any m _ T n _ HT.out).mono ?_
 rintro e' w4 ⟨r1, rfl, hR, hb⟩
 rw [EA.out] at hR ⊢
 obtain ⟨ra1, rc1, rfl, _⟩ := hR.v2.form
 have hxb_w4 : ∀ o, w4.cell? ⟨w2.heap.size, o, none⟩ = (#[.int .i64 m.c, .int .i64 m.d, .int .i64 m.s, .int .i64 m.e, .int .i64 m.l, .slice ua T.length uc] : Array Value)[o]? := fun o => by rw [(bcell hb).1 _ _ (by omega), hxb_w3]
 have hz_w4 := hb.size
 have HVx := Lib.hid (HV.out.below hb); clear HV; have HV := HVx; clear HVx
 have HTx := Lib.hid (HT.out.below hb); clear HT; have HT := HTx; clear HTx
 have HBx := Lib.hid (HB.out.trans (hb.mono (by omega))); clear HB; have HB := HBx; clear HBx
 clear hxb_w3
 clear hb
 have HR1 := Lib.hid (hR.v2.any); clear hR
 go_wp2_with fail
 refine (FindDesignR_any m _ T n _ HT.out).mono ?_
 rintro e' w5 ⟨r2, rfl, hR, hb⟩
 rw [EA.out] at hR ⊢
 obtain ⟨ra2, rc2, rfl, _⟩ := hR.v2.form
 have hxb_w5 : ∀ o, w5.cell? ⟨w2.heap.size, o, none⟩ = (#[.int .i64 m.c, .int .i64 m.d, .int .i64 m.s, .int .i64 m.e, .int .i64 m.l, .slice ua T.length uc] : Array Value)[o]? := fun o => by rw [(bcell hb).1 _ _ (by omega), hxb_w4]
 have hz_w5 := hb.size
 have HVx := Lib.hid (HV.out.below hb); clear HV; have HV := HVx; clear HVx
 have HTx := Lib.hid (HT.out.below hb); clear HT; have HT := HTx; clear HTx
 have HR1x := Lib.hid (HR1.out.below hb); clear HR1; have HR1 := HR1x; clear HR1x
 have HBx := Lib.hid (HB.out.trans (hb.mono (by omega))); clear HB; have HB := HBx; clear HBx
 clear hxb_w4
 clear hb
 have HR2 := Lib.hid (hR.v2.any); clear hR
 go_wp2_with fail
 refine (DrawFindFrom_any _ l _ HV.out).mono ?_
 rintro e' w6 hD
 obtain ⟨mx, ux, cvx, Tx, cutsx, nx, rfl, hpv, hu, hcv, hb⟩ := hD.open
 obtain ⟨uax, ucx, rfl, _⟩ := hu.form
 obtain ⟨cax, ccx, rfl, _⟩ := hcv.form
 have HPVx := Lib.hid hpv; clear hpv
 obtain ⟨w7, hw3, hb3, hz3, _, hc3, _⟩ := box_facts w6 (#[.int .i64 mx.c, .int .i64 mx.d, .int .i64 mx.s, .int .i64 mx.e, .int .i64 mx.l, .slice uax Tx.length ucx] : Array Value) 28
 have hu := Lib.hid (hu.any.below hb3); have hcv := Lib.hid (hcv.any.below hb3)
 have Hw := Lib.hid hw3; clear hw3
 have hxb_w6 : ∀ o, w6.cell? ⟨w2.heap.size, o, none⟩ = (#[.int .i64 m.c, .int .i64 m.d, .int .i64 m.s, .int .i64 m.e, .int .i64 m.l, .slice ua T.length uc] : Array Value)[o]? := fun o => by rw [(bcell hb).1 _ _ (by omega), hxb_w5]
 have hz_w6 := hb.size
 have HVx := Lib.hid (HV.out.below hb); clear HV; have HV := HVx; clear HVx
 have HTx := Lib.hid (HT.out.below hb); clear HT; have HT := HTx; clear HTx
 have HR1x := Lib.hid (HR1.out.below hb); clear HR1; have HR1 := HR1x; clear HR1x
 have HR2x := Lib.hid (HR2.out.below hb); clear HR2; have HR2 := HR2x; clear HR2x
 have HBx := Lib.hid (HB.out.trans (hb.mono (by omega))); clear HB; have HB := HBx; clear HBx
 clear hxb_w5
 clear hb
 have hxb_w7 : ∀ o, w7.cell? ⟨w2.heap.size, o, none⟩ = (#[.int .i64 m.c, .int .i64 m.d, .int .i64 m.s, .int .i64 m.e, .int .i64 m.l, .slice ua T.length uc] : Array Value)[o]? := fun o => by rw [(bcell hb3).1 _ _ (by omega), hxb_w6]
 have hz_w7 := hb3.size
 have HVx := Lib.hid (HV.out.below hb3); clear HV; have HV := HVx; clear HVx
 have HTx := Lib.hid (HT.out.below hb3); clear HT; have HT := HTx; clear HTx
 have HR1x := Lib.hid (HR1.out.below hb3); clear HR1; have HR1 := HR1x; clear HR1x
 have HR2x := Lib.hid (HR2.out.below hb3); clear HR2; have HR2 := HR2x; clear HR2x
 have HBx := Lib.hid (HB.out.trans (hb3.mono (by omega))); clear HB; have HB := HBx; clear HBx
 clear hxb_w6
 clear hb3
 have HTx := hu; clear hu; have HCx := hcv; clear hcv
 have hxbx_w7 := hc3; clear hc3
 have hzbx := hz3; clear hz3
 go_wp2_with fail
 rw [← Hw.out]
 (try go_wp2_with fail)
 clear Hw
 obtain ⟨B, hB⟩ : ∃ x, findAns mx Tx cutsx nx = x := ⟨_, rfl⟩
 have EB := Lib.hid hB; clear hB
 refine (FindFrom_any mx _ _ Tx cutsx nx _ HTx.out HCx.out HPVx.out).mono ?_
 rintro e' w8 ⟨r3, rfl, hR, hb⟩
 rw [EB.out] at hR ⊢
 obtain ⟨ra3, rc3, rfl, _⟩ := hR.v2.form
 have hxb_w8 : ∀ o, w8.cell? ⟨w2.heap.size, o, none⟩ = (#[.int .i64 m.c, .int .i64 m.d, .int .i64 m.s, .int .i64 m.e, .int .i64 m.l, .slice ua T.length uc] : Array Value)[o]? := fun o => by rw [(bcell hb).1 _ _ (by omega), hxb_w7]
 have hxbx_w8 : ∀ o, w8.cell? ⟨w6.heap.size, o, none⟩ = (#[.int .i64 mx.c, .int .i64 mx.d, .int .i64 mx.s, .int .i64 mx.e, .int .i64 mx.l, .slice uax Tx.length ucx] : Array Value)[o]? := fun o => by rw [(bcell hb).1 _ _ (by omega), hxbx_w7]
 have hz_w8 := hb.size
 have HVx := Lib.hid (HV.out.below hb); clear HV; have HV := HVx; clear HVx
 have HTx := Lib.hid (HT.out.below hb); clear HT; have HT := HTx; clear HTx
 have HR1x := Lib.hid (HR1.out.below hb); clear HR1; have HR1 := HR1x; clear HR1x
 have HR2x := Lib.hid (HR2.out.below hb); clear HR2; have HR2 := HR2x; clear HR2x
 have HTxx := Lib.hid (HTx.out.below hb); clear HTx; have HTx := HTxx; clear HTxx
 have HCxx := Lib.hid (HCx.out.below hb); clear HCx; have HCx := HCxx; clear HCxx
 have HBx := Lib.hid (HB.out.trans (hb.mono (by omega))); clear HB; have HB := HBx; clear HBx
 clear hxb_w7
 clear hxbx_w7
 clear hb
 have HR3 := Lib.hid (hR.v2.any); clear hR
 go_wp2_with fail
 refine (FindFromR_any mx _ _ Tx cutsx nx _ HTx.out HCx.out HPVx.out).mono ?_
 rintro e' w9 ⟨r4, rfl, hR, hb⟩
 rw [EB.out] at hR ⊢
 obtain ⟨ra4, rc4, rfl, _⟩ := hR.form
 have hxb_w9 : ∀ o, w9.cell? ⟨w2.heap.size, o, none⟩ = (#[.int .i64 m.c, .int .i64 m.d, .int .i64 m.s, .int .i64 m.e, .int .i64 m.l, .slice ua T.length uc] : Array Value)[o]? := fun o => by rw [(bcell hb).1 _ _ (by omega), hxb_w8]
 have hxbx_w9 : ∀ o, w9.cell? ⟨w6.heap.size, o, none⟩ = (#[.int .i64 mx.c, .int .i64 mx.d, .int .i64 mx.s, .int .i64 mx.e, .int .i64 mx.l, .slice uax Tx.length ucx] : Array Value)[o]? := fun o => by rw [(bcell hb).1 _ _ (by omega), hxbx_w8]
 have hz_w9 := hb.size
 have HVx := Lib.hid (HV.out.below hb); clear HV; have HV := HVx; clear HVx
 have HTx := Lib.hid (HT.out.below hb); clear HT; have HT := HTx; clear HTx
 have HR1x := Lib.hid (HR1.out.below hb); clear HR1; have HR1 := HR1x; clear HR1x
 have HR2x := Lib.hid (HR2.out.below hb); clear HR2; have HR2 := HR2x; clear HR2x
 have HTxx := Lib.hid (HTx.out.below hb); clear HTx; have HTx := HTxx; clear HTxx
 have HCxx := Lib.hid (HCx.out.below hb); clear HCx; have HCx := HCxx; clear HCxx
 have HR3x := Lib.hid (HR3.out.below hb); clear HR3; have HR3 := HR3x; clear HR3x
 have HBx := Lib.hid (HB.out.trans (hb.mono (by omega))); clear HB; have HB := HBx; clear HBx
 clear hxb_w8
 clear hxbx_w8
 clear hb
 have HR4 := Lib.hid (hR.any); clear hR
 go_wp2_with fail
 obtain ⟨C, hC⟩ : ∃ x, hasAns m T n = x := ⟨_, rfl⟩
 have EC := Lib.hid hC; clear hC
 refine (HasDesign_any m _ T n _ HT.out).mono ?_
 rintro e' w10 ⟨rfl, hb⟩
 rw [EC.out]
 have hxb_w10 : ∀ o, w10.cell? ⟨w2.heap.size, o, none⟩ = (#[.int .i64 m.c, .int .i64 m.d, .int .i64 m.s, .int .i64 m.e, .int .i64 m.l, .slice ua T.length uc] : Array Value)[o]? := fun o => by rw [(bcell hb).1 _ _ (by omega), hxb_w9]
 have hxbx_w10 : ∀ o, w10.cell? ⟨w6.heap.size, o, none⟩ = (#[.int .i64 mx.c, .int .i64 mx.d, .int .i64 mx.s, .int .i64 mx.e, .int .i64 mx.l, .slice uax Tx.length ucx] : Array Value)[o]? := fun o => by rw [(bcell hb).1 _ _ (by omega), hxbx_w9]
 have hz_w10 := hb.size
 have HVx := Lib.hid (HV.out.below hb); clear HV; have HV := HVx; clear HVx
 have HTx := Lib.hid (HT.out.below hb); clear HT; have HT := HTx; clear HTx
 have HR1x := Lib.hid (HR1.out.below hb); clear HR1; have HR1 := HR1x; clear HR1x
 have HR2x := Lib.hid (HR2.out.below hb); clear HR2; have HR2 := HR2x; clear HR2x
 have HTxx := Lib.hid (HTx.out.below hb); clear HTx; have HTx := HTxx; clear HTxx
 have HCxx := Lib.hid (HCx.out.below hb); clear HCx; have HCx := HCxx; clear HCxx
 have HR3x := Lib.hid (HR3.out.below hb); clear HR3; have HR3 := HR3x; clear HR3x
 have HR4x := Lib.hid (HR4.out.below hb); clear HR4; have HR4 := HR4x; clear HR4x
 have HBx := Lib.hid (HB.out.trans (hb.mono (by omega))); clear HB; have HB := HBx; clear HBx
 clear hxb_w9
 clear hxbx_w9
 clear hb
 go_wp2_with fail
 refine (HasDesignR_any m _ T n _ HT.out).mono ?_
 rintro e' w11 ⟨rfl, hb⟩
 rw [EC.out]
 have hxb_w11 : ∀ o, w11.cell? ⟨w2.heap.size, o, none⟩ = (#[.int .i64 m.c, .int .i64 m.d, .int .i64 m.s, .int .i64 m.e, .int .i64 m.l, .slice ua T.length uc] : Array Value)[o]? := fun o => by rw [(bcell hb).1 _ _ (by omega), hxb_w10]
 have hxbx_w11 : ∀ o, w11.cell? ⟨w6.heap.size, o, none⟩ = (#[.int .i64 mx.c, .int .i64 mx.d, .int .i64 mx.s, .int .i64 mx.e, .int .i64 mx.l, .slice uax Tx.length ucx] : Array Value)[o]? := fun o => by rw [(bcell hb).1 _ _ (by omega), hxbx_w10]
 have hz_w11 := hb.size
 have HVx := Lib.hid (HV.out.below hb); clear HV; have HV := HVx; clear HVx
 have HTx := Lib.hid (HT.out.below hb); clear HT; have HT := HTx; clear HTx
 have HR1x := Lib.hid (HR1.out.below hb); clear HR1; have HR1 := HR1x; clear HR1x
 have HR2x := Lib.hid (HR2.out.below hb); clear HR2; have HR2 := HR2x; clear HR2x
 have HTxx := Lib.hid (HTx.out.below hb); clear HTx; have HTx := HTxx; clear HTxx
 have HCxx := Lib.hid (HCx.out.below hb); clear HCx; have HCx := HCxx; clear HCxx
 have HR3x := Lib.hid (HR3.out.below hb); clear HR3; have HR3 := HR3x; clear HR3x
 have HR4x := Lib.hid (HR4.out.below hb); clear HR4; have HR4 := HR4x; clear HR4x
 have HBx := Lib.hid (HB.out.trans (hb.mono (by omega))); clear HB; have HB := HBx; clear HBx
 clear hxb_w10
 clear hxbx_w10
 clear hb
 go_wp2_with fail
 refine (likeLists_w _ _ (A.1) (A.1) _ true (decide_eq_true rfl) HR1.out HR2.out).mono ?_
 rintro e' w12 ⟨rfl, hb⟩
 have hxb_w12 : ∀ o, w12.cell? ⟨w2.heap.size, o, none⟩ = (#[.int .i64 m.c, .int .i64 m.d, .int .i64 m.s, .int .i64 m.e, .int .i64 m.l, .slice ua T.length uc] : Array Value)[o]? := fun o => by rw [(bcell hb).1 _ _ (by omega), hxb_w11]
 have hxbx_w12 : ∀ o, w12.cell? ⟨w6.heap.size, o, none⟩ = (#[.int .i64 mx.c, .int .i64 mx.d, .int .i64 mx.s, .int .i64 mx.e, .int .i64 mx.l, .slice uax Tx.length ucx] : Array Value)[o]? := fun o => by rw [(bcell hb).1 _ _ (by omega), hxbx_w11]
 have hz_w12 := hb.size
 have HVx := Lib.hid (HV.out.below hb); clear HV; have HV := HVx; clear HVx
 have HTx := Lib.hid (HT.out.below hb); clear HT; have HT := HTx; clear HTx
 have HR1x := Lib.hid (HR1.out.below hb); clear HR1; have HR1 := HR1x; clear HR1x
 have HR2x := Lib.hid (HR2.out.below hb); clear HR2; have HR2 := HR2x; clear HR2x
 have HTxx := Lib.hid (HTx.out.below hb); clear HTx; have HTx := HTxx; clear HTxx
 have HCxx := Lib.hid (HCx.out.below hb); clear HCx; have HCx := HCxx; clear HCxx
 have HR3x := Lib.hid (HR3.out.below hb); clear HR3; have HR3 := HR3x; clear HR3x
 have HR4x := Lib.hid (HR4.out.below hb); clear HR4; have HR4 := HR4x; clear HR4x
 have HBx := Lib.hid (HB.out.trans (hb.mono (by omega))); clear HB; have HB := HBx; clear HBx
 clear hxb_w11
 clear hxbx_w11
 clear hb
 go_wp2_with fail
 refine (likeLists_w _ _ (B.1) (B.1) _ true (decide_eq_true rfl) HR3.out HR4.out).mono ?_
 rintro e' w13 ⟨rfl, hb⟩
 have hxb_w13 : ∀ o, w13.cell? ⟨w2.heap.size, o, none⟩ = (#[.int .i64 m.c, .int .i64 m.d, .int .i64 m.s, .int .i64 m.e, .int .i64 m.l, .slice ua T.length uc] : Array Value)[o]? := fun o => by rw [(bcell hb).1 _ _ (by omega), hxb_w12]
 have hxbx_w13 : ∀ o, w13.cell? ⟨w6.heap.size, o, none⟩ = (#[.int .i64 mx.c, .int .i64 mx.d, .int .i64 mx.s, .int .i64 mx.e, .int .i64 mx.l, .slice uax Tx.length ucx] : Array Value)[o]? := fun o => by rw [(bcell hb).1 _ _ (by omega), hxbx_w12]
 have hz_w13 := hb.size
 have HVx := Lib.hid (HV.out.below hb); clear HV; have HV := HVx; clear HVx
 have HTx := Lib.hid (HT.out.below hb); clear HT; have HT := HTx; clear HTx
 have HR1x := Lib.hid (HR1.out.below hb); clear HR1; have HR1 := HR1x; clear HR1x
 have HR2x := Lib.hid (HR2.out.below hb); clear HR2; have HR2 := HR2x; clear HR2x
 have HTxx := Lib.hid (HTx.out.below hb); clear HTx; have HTx := HTxx; clear HTxx
 have HCxx := Lib.hid (HCx.out.below hb); clear HCx; have HCx := HCxx; clear HCxx
 have HR3x := Lib.hid (HR3.out.below hb); clear HR3; have HR3 := HR3x; clear HR3x
 have HR4x := Lib.hid (HR4.out.below hb); clear HR4; have HR4 := HR4x; clear HR4x
 have HBx := Lib.hid (HB.out.trans (hb.mono (by omega))); clear HB; have HB := HBx; clear HBx
 clear hxb_w12
 clear hxbx_w12
 clear hb
 obtain ⟨B1, B2, B3⟩ := B
 dsimp only at HR3 HR4 ⊢
 obtain ⟨A1, A2, A3⟩ := A
 dsimp only at HR1 HR2 ⊢
 obtain ⟨C1, C2⟩ := C
 dsimp only at *
 have hlast : ∀ w : World, V2 (fun _ => True) w (.slice ra1 A1.length rc1) A1 → True := fun _ _ => trivial
 by_cases hb3 : B3 = 0
 rotate_left
 ·skip
  have hb3d : (B3 == 0) = false := by simp [hb3]
  clear hb3
  by_cases ha3 : A3 = 0
  rotate_left
  ·skip
   have ha3d : (A3 != 0) = true := by simp [ha3]
   have hc1 : C1 = false := by
    have := (has_of (m := m) (t := T) (limit := n)).2 (by rw [EA.out]; exact ha3)
    rw [EC.out] at this; exact this
   subst hc1
   clear ha3
   go_wp2_with fail
   go_ret
   exact ⟨rfl, HB.out⟩
  subst ha3
  have hc1 : C1 = true := by
   have := (has_of (m := m) (t := T) (limit := n)).1 (by rw [EA.out])
   rw [EC.out] at this; exact congrArg Prod.fst this
  subst hc1
  have hfl := find_law EA.out
  have hde := first_des EA.out
  have HDL := Lib.hid (And.intro hfl hde); clear hfl hde
  go_wp2_with fail
  refine (DesignsOf_any m _ T 1 n _ HT.out).mono ?_
  rintro e' w14 ⟨r5, rfl, hR, hb⟩
  rw [HDL.out.2] at hR ⊢
  dsimp only at hR ⊢
  obtain ⟨g5, c5, qa5, qc5, rfl, hcc5, hV5⟩ := des_one hR
  have hxb_w14 : ∀ o, w14.cell? ⟨w2.heap.size, o, none⟩ = (#[.int .i64 m.c, .int .i64 m.d, .int .i64 m.s, .int .i64 m.e, .int .i64 m.l, .slice ua T.length uc] : Array Value)[o]? := fun o => by rw [(bcell hb).1 _ _ (by omega), hxb_w13]
  have hxbx_w14 : ∀ o, w14.cell? ⟨w6.heap.size, o, none⟩ = (#[.int .i64 mx.c, .int .i64 mx.d, .int .i64 mx.s, .int .i64 mx.e, .int .i64 mx.l, .slice uax Tx.length ucx] : Array Value)[o]? := fun o => by rw [(bcell hb).1 _ _ (by omega), hxbx_w13]
  have hz_w14 := hb.size
  have HVx := Lib.hid (HV.out.below hb); clear HV; have HV := HVx; clear HVx
  have HTx := Lib.hid (HT.out.below hb); clear HT; have HT := HTx; clear HTx
  have HR1x := Lib.hid (HR1.out.below hb); clear HR1; have HR1 := HR1x; clear HR1x
  have HR2x := Lib.hid (HR2.out.below hb); clear HR2; have HR2 := HR2x; clear HR2x
  have HTxx := Lib.hid (HTx.out.below hb); clear HTx; have HTx := HTxx; clear HTxx
  have HCxx := Lib.hid (HCx.out.below hb); clear HCx; have HCx := HCxx; clear HCxx
  have HR3x := Lib.hid (HR3.out.below hb); clear HR3; have HR3 := HR3x; clear HR3x
  have HR4x := Lib.hid (HR4.out.below hb); clear HR4; have HR4 := HR4x; clear HR4x
  have HBx := Lib.hid (HB.out.trans (hb.mono (by omega))); clear HB; have HB := HBx; clear HBx
  clear hxb_w13
  clear hxbx_w13
  clear hb
  have hsave := hcc5
  have HR5 := Lib.hid hV5; clear hV5 hR
  go_wp2_with fail
  refine (IsDesign_b m _ _ T A1 _ true HDL.out.1.1 HT.out HR1.out).mono ?_
  rintro e' w15 ⟨rfl, hb⟩
  have hcc6 := cell_keep hcc5 (hb.block _ (lt_of_cell hcc5))
  have hxb_w15 : ∀ o, w15.cell? ⟨w2.heap.size, o, none⟩ = (#[.int .i64 m.c, .int .i64 m.d, .int .i64 m.s, .int .i64 m.e, .int .i64 m.l, .slice ua T.length uc] : Array Value)[o]? := fun o => by rw [(bcell hb).1 _ _ (by omega), hxb_w14]
  have hxbx_w15 : ∀ o, w15.cell? ⟨w6.heap.size, o, none⟩ = (#[.int .i64 mx.c, .int .i64 mx.d, .int .i64 mx.s, .int .i64 mx.e, .int .i64 mx.l, .slice uax Tx.length ucx] : Array Value)[o]? := fun o => by rw [(bcell hb).1 _ _ (by omega), hxbx_w14]
  have hz_w15 := hb.size
  have HVx := Lib.hid (HV.out.below hb); clear HV; have HV := HVx; clear HVx
  have HTx := Lib.hid (HT.out.below hb); clear HT; have HT := HTx; clear HTx
  have HR1x := Lib.hid (HR1.out.below hb); clear HR1; have HR1 := HR1x; clear HR1x
  have HR2x := Lib.hid (HR2.out.below hb); clear HR2; have HR2 := HR2x; clear HR2x
  have HTxx := Lib.hid (HTx.out.below hb); clear HTx; have HTx := HTxx; clear HTxx
  have HCxx := Lib.hid (HCx.out.below hb); clear HCx; have HCx := HCxx; clear HCxx
  have HR3x := Lib.hid (HR3.out.below hb); clear HR3; have HR3 := HR3x; clear HR3x
  have HR4x := Lib.hid (HR4.out.below hb); clear HR4; have HR4 := HR4x; clear HR4x
  have HR5x := Lib.hid (HR5.out.below hb); clear HR5; have HR5 := HR5x; clear HR5x
  have HBx := Lib.hid (HB.out.trans (hb.mono (by omega))); clear HB; have HB := HBx; clear HBx
  clear hxb_w14
  clear hxbx_w14
  clear hb
  have hle : decide (A2 ≤ n) = true := decide_eq_true HDL.out.1.2.2.2
  go_wp2_with fail
  refine (likeLists_w _ _ (A1) (A1) _ true (decide_eq_true rfl) HR5.out HR1.out).mono ?_
  rintro e' w16 ⟨rfl, hb⟩
  have hxb_w16 : ∀ o, w16.cell? ⟨w2.heap.size, o, none⟩ = (#[.int .i64 m.c, .int .i64 m.d, .int .i64 m.s, .int .i64 m.e, .int .i64 m.l, .slice ua T.length uc] : Array Value)[o]? := fun o => by rw [(bcell hb).1 _ _ (by omega), hxb_w15]
  have hxbx_w16 : ∀ o, w16.cell? ⟨w6.heap.size, o, none⟩ = (#[.int .i64 mx.c, .int .i64 mx.d, .int .i64 mx.s, .int .i64 mx.e, .int .i64 mx.l, .slice uax Tx.length ucx] : Array Value)[o]? := fun o => by rw [(bcell hb).1 _ _ (by omega), hxbx_w15]
  have hz_w16 := hb.size
  have HVx := Lib.hid (HV.out.below hb); clear HV; have HV := HVx; clear HVx
  have HTx := Lib.hid (HT.out.below hb); clear HT; have HT := HTx; clear HTx
  have HR1x := Lib.hid (HR1.out.below hb); clear HR1; have HR1 := HR1x; clear HR1x
  have HR2x := Lib.hid (HR2.out.below hb); clear HR2; have HR2 := HR2x; clear HR2x
  have HTxx := Lib.hid (HTx.out.below hb); clear HTx; have HTx := HTxx; clear HTxx
  have HCxx := Lib.hid (HCx.out.below hb); clear HCx; have HCx := HCxx; clear HCxx
  have HR3x := Lib.hid (HR3.out.below hb); clear HR3; have HR3 := HR3x; clear HR3x
  have HR4x := Lib.hid (HR4.out.below hb); clear HR4; have HR4 := HR4x; clear HR4x
  have HR5x := Lib.hid (HR5.out.below hb); clear HR5; have HR5 := HR5x; clear HR5x
  have HBx := Lib.hid (HB.out.trans (hb.mono (by omega))); clear HB; have HB := HBx; clear HBx
  clear hxb_w15
  clear hxbx_w15
  clear hb
  go_wp2_with fail
  go_ret
  exact ⟨rfl, HB.out⟩
 subst hb3
 have hfx := find_law EB.out
 have HFX := Lib.hid hfx
 have hlx : cutsx.length ≤ B1.length := hfx.2.1
 have hlxd : decide ((B1.length : Int) < (cutsx.length : Int)) = false := decide_eq_false (by omega)
 have hlxd2 : decide (B1.length < cutsx.length) = false := decide_eq_false (by omega)
 have hkx : decide (nx < B2) = false := decide_eq_false (by have := hfx.2.2.2; omega)
 have hcapx := HR3.out.cap
 have hwx : (cutsx.length : Int) ≤ (rc3 : Int) := by omega
 have hwx2 : cutsx.length ≤ rc3 := by omega
 clear hfx
 go_wp2_with fail
 refine (IsDesign_b mx _ _ Tx B1 _ true HFX.out.1 HTx.out HR3.out).mono ?_
 rintro e' w14 ⟨rfl, hb⟩
 have hxb_w14 : ∀ o, w14.cell? ⟨w2.heap.size, o, none⟩ = (#[.int .i64 m.c, .int .i64 m.d, .int .i64 m.s, .int .i64 m.e, .int .i64 m.l, .slice ua T.length uc] : Array Value)[o]? := fun o => by rw [(bcell hb).1 _ _ (by omega), hxb_w13]
 have hxbx_w14 : ∀ o, w14.cell? ⟨w6.heap.size, o, none⟩ = (#[.int .i64 mx.c, .int .i64 mx.d, .int .i64 mx.s, .int .i64 mx.e, .int .i64 mx.l, .slice uax Tx.length ucx] : Array Value)[o]? := fun o => by rw [(bcell hb).1 _ _ (by omega), hxbx_w13]
 have hz_w14 := hb.size
 have HVx := Lib.hid (HV.out.below hb); clear HV; have HV := HVx; clear HVx
 have HTx := Lib.hid (HT.out.below hb); clear HT; have HT := HTx; clear HTx
 have HR1x := Lib.hid (HR1.out.below hb); clear HR1; have HR1 := HR1x; clear HR1x
 have HR2x := Lib.hid (HR2.out.below hb); clear HR2; have HR2 := HR2x; clear HR2x
 have HTxx := Lib.hid (HTx.out.below hb); clear HTx; have HTx := HTxx; clear HTxx
 have HCxx := Lib.hid (HCx.out.below hb); clear HCx; have HCx := HCxx; clear HCxx
 have HR3x := Lib.hid (HR3.out.below hb); clear HR3; have HR3 := HR3x; clear HR3x
 have HR4x := Lib.hid (HR4.out.below hb); clear HR4; have HR4 := HR4x; clear HR4x
 have HBx := Lib.hid (HB.out.trans (hb.mono (by omega))); clear HB; have HB := HBx; clear HBx
 clear hxb_w13
 clear hxbx_w13
 clear hb
 go_wp2_with fail
 have htk := HR3.out.take (n := cutsx.length) hlx
 refine (likeLists_w _ _ (B1.take cutsx.length) cutsx _ true (decide_eq_true HFX.out.2.2.1) htk HCx.out).mono ?_
 rintro e' w15 ⟨rfl, hb⟩
 clear htk
 have hxb_w15 : ∀ o, w15.cell? ⟨w2.heap.size, o, none⟩ = (#[.int .i64 m.c, .int .i64 m.d, .int .i64 m.s, .int .i64 m.e, .int .i64 m.l, .slice ua T.length uc] : Array Value)[o]? := fun o => by rw [(bcell hb).1 _ _ (by omega), hxb_w14]
 have hxbx_w15 : ∀ o, w15.cell? ⟨w6.heap.size, o, none⟩ = (#[.int .i64 mx.c, .int .i64 mx.d, .int .i64 mx.s, .int .i64 mx.e, .int .i64 mx.l, .slice uax Tx.length ucx] : Array Value)[o]? := fun o => by rw [(bcell hb).1 _ _ (by omega), hxbx_w14]
 have hz_w15 := hb.size
 have HVx := Lib.hid (HV.out.below hb); clear HV; have HV := HVx; clear HVx
 have HTx := Lib.hid (HT.out.below hb); clear HT; have HT := HTx; clear HTx
 have HR1x := Lib.hid (HR1.out.below hb); clear HR1; have HR1 := HR1x; clear HR1x
 have HR2x := Lib.hid (HR2.out.below hb); clear HR2; have HR2 := HR2x; clear HR2x
 have HTxx := Lib.hid (HTx.out.below hb); clear HTx; have HTx := HTxx; clear HTxx
 have HCxx := Lib.hid (HCx.out.below hb); clear HCx; have HCx := HCxx; clear HCxx
 have HR3x := Lib.hid (HR3.out.below hb); clear HR3; have HR3 := HR3x; clear HR3x
 have HR4x := Lib.hid (HR4.out.below hb); clear HR4; have HR4 := HR4x; clear HR4x
 have HBx := Lib.hid (HB.out.trans (hb.mono (by omega))); clear HB; have HB := HBx; clear HBx
 clear hxb_w14
 clear hxbx_w14
 clear hb
 by_cases ha3 : A3 = 0
 rotate_left
 ·skip
  have ha3d : (A3 != 0) = true := by simp [ha3]
  have hc1 : C1 = false := by
   have := (has_of (m := m) (t := T) (limit := n)).2 (by rw [EA.out]; exact ha3)
   rw [EC.out] at this; exact this
  subst hc1
  clear ha3
  go_wp2_with fail
  go_ret
  exact ⟨rfl, HB.out⟩
 subst ha3
 have hc1 : C1 = true := by
  have := (has_of (m := m) (t := T) (limit := n)).1 (by rw [EA.out])
  rw [EC.out] at this; exact congrArg Prod.fst this
 subst hc1
 have hfl := find_law EA.out
 have hde := first_des EA.out
 have HDL := Lib.hid (And.intro hfl hde); clear hfl hde
 go_wp2_with fail
 refine (DesignsOf_any m _ T 1 n _ HT.out).mono ?_
 rintro e' w16 ⟨r5, rfl, hR, hb⟩
 rw [HDL.out.2] at hR ⊢
 dsimp only at hR ⊢
 obtain ⟨g5, c5, qa5, qc5, rfl, hcc5, hV5⟩ := des_one hR
 have hxb_w16 : ∀ o, w16.cell? ⟨w2.heap.size, o, none⟩ = (#[.int .i64 m.c, .int .i64 m.d, .int .i64 m.s, .int .i64 m.e, .int .i64 m.l, .slice ua T.length uc] : Array Value)[o]? := fun o => by rw [(bcell hb).1 _ _ (by omega), hxb_w15]
 have hxbx_w16 : ∀ o, w16.cell? ⟨w6.heap.size, o, none⟩ = (#[.int .i64 mx.c, .int .i64 mx.d, .int .i64 mx.s, .int .i64 mx.e, .int .i64 mx.l, .slice uax Tx.length ucx] : Array Value)[o]? := fun o => by rw [(bcell hb).1 _ _ (by omega), hxbx_w15]
 have hz_w16 := hb.size
 have HVx := Lib.hid (HV.out.below hb); clear HV; have HV := HVx; clear HVx
 have HTx := Lib.hid (HT.out.below hb); clear HT; have HT := HTx; clear HTx
 have HR1x := Lib.hid (HR1.out.below hb); clear HR1; have HR1 := HR1x; clear HR1x
 have HR2x := Lib.hid (HR2.out.below hb); clear HR2; have HR2 := HR2x; clear HR2x
 have HTxx := Lib.hid (HTx.out.below hb); clear HTx; have HTx := HTxx; clear HTxx
 have HCxx := Lib.hid (HCx.out.below hb); clear HCx; have HCx := HCxx; clear HCxx
 have HR3x := Lib.hid (HR3.out.below hb); clear HR3; have HR3 := HR3x; clear HR3x
 have HR4x := Lib.hid (HR4.out.below hb); clear HR4; have HR4 := HR4x; clear HR4x
 have HBx := Lib.hid (HB.out.trans (hb.mono (by omega))); clear HB; have HB := HBx; clear HBx
 clear hxb_w15
 clear hxbx_w15
 clear hb
 have hsave := hcc5
 have HR5 := Lib.hid hV5; clear hV5 hR
 go_wp2_with fail
 refine (IsDesign_b m _ _ T A1 _ true HDL.out.1.1 HT.out HR1.out).mono ?_
 rintro e' w17 ⟨rfl, hb⟩
 have hcc6 := cell_keep hcc5 (hb.block _ (lt_of_cell hcc5))
 have hxb_w17 : ∀ o, w17.cell? ⟨w2.heap.size, o, none⟩ = (#[.int .i64 m.c, .int .i64 m.d, .int .i64 m.s, .int .i64 m.e, .int .i64 m.l, .slice ua T.length uc] : Array Value)[o]? := fun o => by rw [(bcell hb).1 _ _ (by omega), hxb_w16]
 have hxbx_w17 : ∀ o, w17.cell? ⟨w6.heap.size, o, none⟩ = (#[.int .i64 mx.c, .int .i64 mx.d, .int .i64 mx.s, .int .i64 mx.e, .int .i64 mx.l, .slice uax Tx.length ucx] : Array Value)[o]? := fun o => by rw [(bcell hb).1 _ _ (by omega), hxbx_w16]
 have hz_w17 := hb.size
 have HVx := Lib.hid (HV.out.below hb); clear HV; have HV := HVx; clear HVx
 have HTx := Lib.hid (HT.out.below hb); clear HT; have HT := HTx; clear HTx
 have HR1x := Lib.hid (HR1.out.below hb); clear HR1; have HR1 := HR1x; clear HR1x
 have HR2x := Lib.hid (HR2.out.below hb); clear HR2; have HR2 := HR2x; clear HR2x
 have HTxx := Lib.hid (HTx.out.below hb); clear HTx; have HTx := HTxx; clear HTxx
 have HCxx := Lib.hid (HCx.out.below hb); clear HCx; have HCx := HCxx; clear HCxx
 have HR3x := Lib.hid (HR3.out.below hb); clear HR3; have HR3 := HR3x; clear HR3x
 have HR4x := Lib.hid (HR4.out.below hb); clear HR4; have HR4 := HR4x; clear HR4x
 have HR5x := Lib.hid (HR5.out.below hb); clear HR5; have HR5 := HR5x; clear HR5x
 have HBx := Lib.hid (HB.out.trans (hb.mono (by omega))); clear HB; have HB := HBx; clear HBx
 clear hxb_w16
 clear hxbx_w16
 clear hb
 have hle : decide (A2 ≤ n) = true := decide_eq_true HDL.out.1.2.2.2
 go_wp2_with fail
 refine (likeLists_w _ _ (A1) (A1) _ true (decide_eq_true rfl) HR5.out HR1.out).mono ?_
 rintro e' w18 ⟨rfl, hb⟩
 have hxb_w18 : ∀ o, w18.cell? ⟨w2.heap.size, o, none⟩ = (#[.int .i64 m.c, .int .i64 m.d, .int .i64 m.s, .int .i64 m.e, .int .i64 m.l, .slice ua T.length uc] : Array Value)[o]? := fun o => by rw [(bcell hb).1 _ _ (by omega), hxb_w17]
 have hxbx_w18 : ∀ o, w18.cell? ⟨w6.heap.size, o, none⟩ = (#[.int .i64 mx.c, .int .i64 mx.d, .int .i64 mx.s, .int .i64 mx.e, .int .i64 mx.l, .slice uax Tx.length ucx] : Array Value)[o]? := fun o => by rw [(bcell hb).1 _ _ (by omega), hxbx_w17]
 have hz_w18 := hb.size
 have HVx := Lib.hid (HV.out.below hb); clear HV; have HV := HVx; clear HVx
 have HTx := Lib.hid (HT.out.below hb); clear HT; have HT := HTx; clear HTx
 have HR1x := Lib.hid (HR1.out.below hb); clear HR1; have HR1 := HR1x; clear HR1x
 have HR2x := Lib.hid (HR2.out.below hb); clear HR2; have HR2 := HR2x; clear HR2x
 have HTxx := Lib.hid (HTx.out.below hb); clear HTx; have HTx := HTxx; clear HTxx
 have HCxx := Lib.hid (HCx.out.below hb); clear HCx; have HCx := HCxx; clear HCxx
 have HR3x := Lib.hid (HR3.out.below hb); clear HR3; have HR3 := HR3x; clear HR3x
 have HR4x := Lib.hid (HR4.out.below hb); clear HR4; have HR4 := HR4x; clear HR4x
 have HR5x := Lib.hid (HR5.out.below hb); clear HR5; have HR5 := HR5x; clear HR5x
 have HBx := Lib.hid (HB.out.trans (hb.mono (by omega))); clear HB; have HB := HBx; clear HBx
 clear hxb_w17
 clear hxbx_w17
 clear hb
 go_wp2_with fail
 go_ret
 exact ⟨rfl, HB.out⟩
end Go.Proofs.YtmaefilliggjiaaGreat
