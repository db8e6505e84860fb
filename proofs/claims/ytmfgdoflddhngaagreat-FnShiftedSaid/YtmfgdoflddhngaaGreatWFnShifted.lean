/- The walk of 'laws.FnShifted'. No conditions. -/
import Derived.Test.YtmfgdoflddhngaaGreatMRowv
import Derived.Test.YtmfgdoflddhngaaGreatMCount
import Derived.Test.YtmfgdoflddhngaaGreatMStay
import Derived.Test.YtmfgdoflddhngaaGreatMReadO
namespace Go.Proofs.YtmfgdoflddhngaaGreat
open Go.RowKit
set_option linter.unusedVariables false
set_option linter.unusedSimpArgs false

set_option maxHeartbeats 4000000 in
set_option maxRecDepth 100000 in
theorem fnShifted_walk (W : World) (v : Value) (l : List Int) (h : VB (Old W) W v l) :
    Calls Tryz.prog 3 #[v] W fun e' w' => e' = .returned (.bool true) ∧ Below W.heap.size W w' := by
  have hV := h
  obtain ⟨a, c, rfl, hm⟩ := h.form
  have HV := Lib.hid hV; clear hV h
  cases hbig : decide (4096 < l.length)
  rotate_left
  · have Hbig := Lib.hid hbig; clear hbig
    go_enter Tryz.func3, Tryz.ntmps3
    go_wp2_with fail
    refine (big_any _ l W true Hbig.out HV.out).mono ?_
    rintro e' w' ⟨rfl, hW⟩
    subst hW
    go_wp2_with fail
    go_ret
    exact ⟨rfl, Below.refl _ _⟩
  have Hbig := Lib.hid hbig; clear hbig
  go_enter Tryz.func3, Tryz.ntmps3
  go_wp2_with fail
  refine (big_any _ l W false Hbig.out HV.out).mono ?_
  rintro e' w' ⟨rfl, hW⟩
  subst hW
  have HB := Lib.hid (Below.refl W.heap.size W)
  go_wp2_with fail
  refine (DrawShiftSteps_any _ l _ HV.out).mono ?_
  rintro e' w2 hD
  obtain ⟨m, u, cv, T, cuts, rfl, hu, hcv, hb⟩ := hD.open
  obtain ⟨ua, uc, rfl, _⟩ := hu.form
  obtain ⟨ca, cc, rfl, _⟩ := hcv.form
  obtain ⟨w3, hw3, hb3, hz3, _, hc3, _⟩ := box_facts w2 (#[.int .i64 m.c, .int .i64 m.d, .int .i64 m.s, .int .i64 m.e, .int .i64 m.l, .slice ua T.length uc] : Array Value) 28
  have hu := Lib.hid (hu.any.below hb3); have hcv := Lib.hid (hcv.any.below hb3)
  have Hw := Lib.hid hw3; clear hw3
  have hz_w2 := hb.size
  have HVx := Lib.hid (HV.out.below hb); clear HV; have HV := HVx; clear HVx
  have HBx := Lib.hid (HB.out.trans (hb.mono (by omega))); clear HB; have HB := HBx; clear HBx
  clear hb
  have hz_w3 := hb3.size
  have HVx := Lib.hid (HV.out.below hb3); clear HV; have HV := HVx; clear HVx
  have HBx := Lib.hid (HB.out.trans (hb3.mono (by omega))); clear HB; have HB := HBx; clear HBx
  clear hb3
  have HT := hu; clear hu; have HC := hcv; clear hcv
  have hxb_w3 := hc3; clear hc3
  have hzb := hz3; clear hz3
  go_wp2_with fail
  rw [← Hw.out]
  (try go_wp2_with fail)
  clear Hw
  obtain ⟨A, hA⟩ : ∃ x, shiftAns m T cuts = x := ⟨_, rfl⟩
  have EA := Lib.hid hA; clear hA
  refine (ShiftSteps_any m _ _ T cuts _ HT.out HC.out).mono ?_
  rintro e' w4 ⟨r1, rfl, hR, hb⟩
  rw [EA.out] at hR ⊢
  obtain ⟨ra1, rc1, rfl, _⟩ := hR.vs.form
  have hxb_w4 : ∀ o, w4.cell? ⟨w2.heap.size, o, none⟩ = (#[.int .i64 m.c, .int .i64 m.d, .int .i64 m.s, .int .i64 m.e, .int .i64 m.l, .slice ua T.length uc] : Array Value)[o]? := fun o => by rw [(bcell hb).1 _ _ (by omega), hxb_w3]
  have hz_w4 := hb.size
  have HVx := Lib.hid (HV.out.below hb); clear HV; have HV := HVx; clear HVx
  have HTx := Lib.hid (HT.out.below hb); clear HT; have HT := HTx; clear HTx
  have HCx := Lib.hid (HC.out.below hb); clear HC; have HC := HCx; clear HCx
  have HBx := Lib.hid (HB.out.trans (hb.mono (by omega))); clear HB; have HB := HBx; clear HBx
  clear hxb_w3
  clear hb
  have HR1 := Lib.hid (hR.vs.any); clear hR
  go_wp2_with fail
  refine (ShiftStepsR_any m _ _ T cuts _ HT.out HC.out).mono ?_
  rintro e' w5 ⟨r2, rfl, hR, hb⟩
  rw [EA.out] at hR ⊢
  obtain ⟨ra2, rc2, rfl, _⟩ := hR.form
  have hxb_w5 : ∀ o, w5.cell? ⟨w2.heap.size, o, none⟩ = (#[.int .i64 m.c, .int .i64 m.d, .int .i64 m.s, .int .i64 m.e, .int .i64 m.l, .slice ua T.length uc] : Array Value)[o]? := fun o => by rw [(bcell hb).1 _ _ (by omega), hxb_w4]
  have hz_w5 := hb.size
  have HVx := Lib.hid (HV.out.below hb); clear HV; have HV := HVx; clear HVx
  have HTx := Lib.hid (HT.out.below hb); clear HT; have HT := HTx; clear HTx
  have HCx := Lib.hid (HC.out.below hb); clear HC; have HC := HCx; clear HCx
  have HR1x := Lib.hid (HR1.out.below hb); clear HR1; have HR1 := HR1x; clear HR1x
  have HBx := Lib.hid (HB.out.trans (hb.mono (by omega))); clear HB; have HB := HBx; clear HBx
  clear hxb_w4
  clear hb
  have HR2 := Lib.hid (hR.any); clear hR
  go_wp2_with fail
  refine (likeSteps_w _ _ (A.1) (A.1) _ true (decide_eq_true rfl) HR1.out HR2.out).mono ?_
  rintro e' w6 ⟨rfl, hb⟩
  have hxb_w6 : ∀ o, w6.cell? ⟨w2.heap.size, o, none⟩ = (#[.int .i64 m.c, .int .i64 m.d, .int .i64 m.s, .int .i64 m.e, .int .i64 m.l, .slice ua T.length uc] : Array Value)[o]? := fun o => by rw [(bcell hb).1 _ _ (by omega), hxb_w5]
  have hz_w6 := hb.size
  have HVx := Lib.hid (HV.out.below hb); clear HV; have HV := HVx; clear HVx
  have HTx := Lib.hid (HT.out.below hb); clear HT; have HT := HTx; clear HTx
  have HCx := Lib.hid (HC.out.below hb); clear HC; have HC := HCx; clear HCx
  have HR1x := Lib.hid (HR1.out.below hb); clear HR1; have HR1 := HR1x; clear HR1x
  have HR2x := Lib.hid (HR2.out.below hb); clear HR2; have HR2 := HR2x; clear HR2x
  have HBx := Lib.hid (HB.out.trans (hb.mono (by omega))); clear HB; have HB := HBx; clear HBx
  clear hxb_w5
  clear hb
  have hlaw := shift_law (m := m) (t := T) (steps := cuts)
  rw [EA.out] at hlaw
  have HLw := Lib.hid hlaw; clear hlaw
  by_cases hq : A.2 = 0
  rotate_left
  · skip
    have hq2 : (A.2 != 0) = true := by simp [hq]
    have hr := HLw.out.1 hq
    have Hr := Lib.hid hr; clear hr hq
    go_wp2_with fail
    refine (IsRefutation_any m _ _ T cuts _ HT.out HC.out).mono ?_
    rintro e' w7 ⟨rfl, hb⟩
    rw [Hr.out]
    have hxb_w7 : ∀ o, w7.cell? ⟨w2.heap.size, o, none⟩ = (#[.int .i64 m.c, .int .i64 m.d, .int .i64 m.s, .int .i64 m.e, .int .i64 m.l, .slice ua T.length uc] : Array Value)[o]? := fun o => by rw [(bcell hb).1 _ _ (by omega), hxb_w6]
    have hz_w7 := hb.size
    have HVx := Lib.hid (HV.out.below hb); clear HV; have HV := HVx; clear HVx
    have HTx := Lib.hid (HT.out.below hb); clear HT; have HT := HTx; clear HTx
    have HCx := Lib.hid (HC.out.below hb); clear HC; have HC := HCx; clear HCx
    have HR1x := Lib.hid (HR1.out.below hb); clear HR1; have HR1 := HR1x; clear HR1x
    have HR2x := Lib.hid (HR2.out.below hb); clear HR2; have HR2 := HR2x; clear HR2x
    have HBx := Lib.hid (HB.out.trans (hb.mono (by omega))); clear HB; have HB := HBx; clear HBx
    clear hxb_w6
    clear hb
    go_wp2_with fail
    go_ret
    exact ⟨rfl, HB.out⟩
  have hq2 : (A.2 != 0) = false := by simp [hq]
  obtain ⟨hr1, hr2, hr3⟩ := HLw.out.2 hq
  have Hr := Lib.hid (And.intro hr1 (And.intro hr2 hr3)); clear hr1 hr2 hr3 hq
  go_wp2_with fail
  refine (ShiftSteps_any m _ _ T A.1 _ HT.out HR1.out).mono ?_
  rintro e' w7 ⟨r5, rfl, hR, hb⟩
  rw [Hr.out.2.1] at hR ⊢
  dsimp only at hR ⊢
  obtain ⟨ra5, rc5, rfl, _⟩ := hR.vs.form
  have hxb_w7 : ∀ o, w7.cell? ⟨w2.heap.size, o, none⟩ = (#[.int .i64 m.c, .int .i64 m.d, .int .i64 m.s, .int .i64 m.e, .int .i64 m.l, .slice ua T.length uc] : Array Value)[o]? := fun o => by rw [(bcell hb).1 _ _ (by omega), hxb_w6]
  have hz_w7 := hb.size
  have HVx := Lib.hid (HV.out.below hb); clear HV; have HV := HVx; clear HVx
  have HTx := Lib.hid (HT.out.below hb); clear HT; have HT := HTx; clear HTx
  have HCx := Lib.hid (HC.out.below hb); clear HC; have HC := HCx; clear HCx
  have HR1x := Lib.hid (HR1.out.below hb); clear HR1; have HR1 := HR1x; clear HR1x
  have HR2x := Lib.hid (HR2.out.below hb); clear HR2; have HR2 := HR2x; clear HR2x
  have HBx := Lib.hid (HB.out.trans (hb.mono (by omega))); clear HB; have HB := HBx; clear HBx
  clear hxb_w6
  clear hb
  have HR5 := Lib.hid hR.vs; clear hR
  go_wp2_with fail
  refine (IsRefutation_any m _ _ T A.1 _ HT.out HR1.out).mono ?_
  rintro e' w8 ⟨rfl, hb⟩
  rw [Hr.out.1]
  have hxb_w8 : ∀ o, w8.cell? ⟨w2.heap.size, o, none⟩ = (#[.int .i64 m.c, .int .i64 m.d, .int .i64 m.s, .int .i64 m.e, .int .i64 m.l, .slice ua T.length uc] : Array Value)[o]? := fun o => by rw [(bcell hb).1 _ _ (by omega), hxb_w7]
  have hz_w8 := hb.size
  have HVx := Lib.hid (HV.out.below hb); clear HV; have HV := HVx; clear HVx
  have HTx := Lib.hid (HT.out.below hb); clear HT; have HT := HTx; clear HTx
  have HCx := Lib.hid (HC.out.below hb); clear HC; have HC := HCx; clear HCx
  have HR1x := Lib.hid (HR1.out.below hb); clear HR1; have HR1 := HR1x; clear HR1x
  have HR2x := Lib.hid (HR2.out.below hb); clear HR2; have HR2 := HR2x; clear HR2x
  have HR5x := Lib.hid (HR5.out.below hb); clear HR5; have HR5 := HR5x; clear HR5x
  have HBx := Lib.hid (HB.out.trans (hb.mono (by omega))); clear HB; have HB := HBx; clear HBx
  clear hxb_w7
  clear hb
  go_wp2_with fail
  refine (likeSteps_w _ _ (A.1) (A.1) _ true (decide_eq_true rfl) HR5.out HR1.out).mono ?_
  rintro e' w9 ⟨rfl, hb⟩
  have hxb_w9 : ∀ o, w9.cell? ⟨w2.heap.size, o, none⟩ = (#[.int .i64 m.c, .int .i64 m.d, .int .i64 m.s, .int .i64 m.e, .int .i64 m.l, .slice ua T.length uc] : Array Value)[o]? := fun o => by rw [(bcell hb).1 _ _ (by omega), hxb_w8]
  have hz_w9 := hb.size
  have HVx := Lib.hid (HV.out.below hb); clear HV; have HV := HVx; clear HVx
  have HTx := Lib.hid (HT.out.below hb); clear HT; have HT := HTx; clear HTx
  have HCx := Lib.hid (HC.out.below hb); clear HC; have HC := HCx; clear HCx
  have HR1x := Lib.hid (HR1.out.below hb); clear HR1; have HR1 := HR1x; clear HR1x
  have HR2x := Lib.hid (HR2.out.below hb); clear HR2; have HR2 := HR2x; clear HR2x
  have HR5x := Lib.hid (HR5.out.below hb); clear HR5; have HR5 := HR5x; clear HR5x
  have HBx := Lib.hid (HB.out.trans (hb.mono (by omega))); clear HB; have HB := HBx; clear HBx
  clear hxb_w8
  clear hb
  go_wp2_with fail
  refine (countOpenI_any _ A.1 _ HR1.out).mono ?_
  rintro e' w10 ⟨rfl, hb⟩
  have hxb_w10 : ∀ o, w10.cell? ⟨w2.heap.size, o, none⟩ = (#[.int .i64 m.c, .int .i64 m.d, .int .i64 m.s, .int .i64 m.e, .int .i64 m.l, .slice ua T.length uc] : Array Value)[o]? := fun o => by rw [(bcell hb).1 _ _ (by omega), hxb_w9]
  have hz_w10 := hb.size
  have HVx := Lib.hid (HV.out.below hb); clear HV; have HV := HVx; clear HVx
  have HTx := Lib.hid (HT.out.below hb); clear HT; have HT := HTx; clear HTx
  have HCx := Lib.hid (HC.out.below hb); clear HC; have HC := HCx; clear HCx
  have HR1x := Lib.hid (HR1.out.below hb); clear HR1; have HR1 := HR1x; clear HR1x
  have HR2x := Lib.hid (HR2.out.below hb); clear HR2; have HR2 := HR2x; clear HR2x
  have HR5x := Lib.hid (HR5.out.below hb); clear HR5; have HR5 := HR5x; clear HR5x
  have HBx := Lib.hid (HB.out.trans (hb.mono (by omega))); clear HB; have HB := HBx; clear HBx
  clear hxb_w9
  clear hb
  go_wp2_with fail
  refine (countOpenI_any _ cuts _ HC.out).mono ?_
  rintro e' w11 ⟨rfl, hb⟩
  rw [Hr.out.2.2]
  have hxb_w11 : ∀ o, w11.cell? ⟨w2.heap.size, o, none⟩ = (#[.int .i64 m.c, .int .i64 m.d, .int .i64 m.s, .int .i64 m.e, .int .i64 m.l, .slice ua T.length uc] : Array Value)[o]? := fun o => by rw [(bcell hb).1 _ _ (by omega), hxb_w10]
  have hz_w11 := hb.size
  have HVx := Lib.hid (HV.out.below hb); clear HV; have HV := HVx; clear HVx
  have HTx := Lib.hid (HT.out.below hb); clear HT; have HT := HTx; clear HTx
  have HCx := Lib.hid (HC.out.below hb); clear HC; have HC := HCx; clear HCx
  have HR1x := Lib.hid (HR1.out.below hb); clear HR1; have HR1 := HR1x; clear HR1x
  have HR2x := Lib.hid (HR2.out.below hb); clear HR2; have HR2 := HR2x; clear HR2x
  have HR5x := Lib.hid (HR5.out.below hb); clear HR5; have HR5 := HR5x; clear HR5x
  have HBx := Lib.hid (HB.out.trans (hb.mono (by omega))); clear HB; have HB := HBx; clear HBx
  clear hxb_w10
  clear hb
  go_wp2_with fail
  go_ret
  exact ⟨rfl, HB.out⟩
end Go.Proofs.YtmfgdoflddhngaaGreat
