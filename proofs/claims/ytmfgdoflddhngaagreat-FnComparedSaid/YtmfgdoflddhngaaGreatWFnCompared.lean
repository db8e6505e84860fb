/- The walk of 'laws.FnCompared'. No conditions. -/
import Derived.Test.YtmfgdoflddhngaaGreatMSys2
import Derived.Test.YtmfgdoflddhngaaGreatMLike
import Derived.Test.YtmfgdoflddhngaaGreatMFindO
import Derived.Test.YtmfgdoflddhngaaGreatDraw18
import Derived.Test.YtmfgdoflddhngaaGreatDraw20
import Derived.Test.YtmfgdoflddhngaaGreatMCmp
import Derived.Test.YtmfgdoflddhngaaGreatMProfR
namespace Go.Proofs.YtmfgdoflddhngaaGreat
open Go.RowKit
set_option linter.unusedVariables false
set_option linter.unusedSimpArgs false

theorem cmpI_bd (x y : Int) : -1 ≤ cmpI x y ∧ cmpI x y ≤ 1 := by unfold cmpI; split <;> (try split) <;> omega
theorem cmpTop_bd (x y : List Int) : ∀ k, -1 ≤ cmpTop x y k ∧ cmpTop x y k ≤ 1
  | 0 => by unfold cmpTop; omega
  | k + 1 => by
    unfold cmpTop
    split
    · exact cmpTop_bd x y k
    · exact cmpI_bd _ _
theorem cmpAns_bd (m : Mk) (t a b : List (List Int)) : -1 ≤ (cmpAns m t a b).1 ∧ (cmpAns m t a b).1 ≤ 1 := by
  unfold cmpAns
  split
  · exact ⟨by show (-1 : Int) ≤ 0; omega, by show (0 : Int) ≤ 1; omega⟩
  · split
    · exact ⟨by show (-1 : Int) ≤ 0; omega, by show (0 : Int) ≤ 1; omega⟩
    · exact cmpTop_bd _ _ _
set_option maxHeartbeats 4000000 in
set_option maxRecDepth 100000 in
theorem fnCompared_walk (W : World) (v : Value) (l : List Int) (h : VB (Old W) W v l) :
    Calls Tryz.prog 4 #[v] W fun e' w' => e' = .returned (.bool true) ∧ Below W.heap.size W w' := by
  have hV := h
  obtain ⟨a, c, rfl, hm⟩ := h.form
  have HV := Lib.hid hV; clear hV h
  cases hbig : decide (4096 < l.length)
  rotate_left
  · have Hbig := Lib.hid hbig; clear hbig
    go_enter Tryz.func4, Tryz.ntmps4
    go_wp2_with fail
    refine (big_any _ l W true Hbig.out HV.out).mono ?_
    rintro e' w' ⟨rfl, hW⟩
    subst hW
    go_wp2_with fail
    go_ret
    exact ⟨rfl, Below.refl _ _⟩
  have Hbig := Lib.hid hbig; clear hbig
  go_enter Tryz.func4, Tryz.ntmps4
  go_wp2_with fail
  refine (big_any _ l W false Hbig.out HV.out).mono ?_
  rintro e' w' ⟨rfl, hW⟩
  subst hW
  have HB := Lib.hid (Below.refl W.heap.size W)
  go_wp2_with fail
  refine (DrawCompareDesigns_any _ l _ HV.out).mono ?_
  rintro e' w2 hD
  obtain ⟨m, u, cv, T, cuts, dv, dd, rfl, hdd, hu, hcv, hb⟩ := hD.open
  obtain ⟨ua, uc, rfl, _⟩ := hu.form
  obtain ⟨ca, cc, rfl, _⟩ := hcv.form
  obtain ⟨xa, xc, rfl, _⟩ := hdd.form
  obtain ⟨w3, hw3, hb3, hz3, _, hc3, _⟩ := box_facts w2 (#[.int .i64 m.c, .int .i64 m.d, .int .i64 m.s, .int .i64 m.e, .int .i64 m.l, .slice ua T.length uc] : Array Value) 28
  have hu := Lib.hid (hu.any.below hb3); have hcv := Lib.hid (hcv.any.below hb3)
  have HX := Lib.hid (hdd.any.below hb3); clear hdd
  have Hw := Lib.hid hw3; clear hw3
  have hz_w2 := hb.size
  have HVx := Lib.hid (HV.out.below hb); clear HV; have HV := HVx; clear HVx
  have HBx := Lib.hid (HB.out.trans (hb.mono (by omega))); clear HB; have HB := HBx; clear HBx
  clear hb
  have hz_w3 := hb3.size
  have HVx := Lib.hid (HV.out.below hb3); clear HV; have HV := HVx; clear HVx
  have HBx := Lib.hid (HB.out.trans (hb3.mono (by omega))); clear HB; have HB := HBx; clear HBx
  clear hb3
  have HT := hu; clear hu; have HC := hcv; clear hcv
  have hxb_w3 := hc3; clear hc3
  have hzb := hz3; clear hz3
  go_wp2_with fail
  rw [← Hw.out]
  (try go_wp2_with fail)
  clear Hw
  obtain ⟨A, hA⟩ : ∃ x, cmpAns m T cuts dd = x := ⟨_, rfl⟩
  have EA := Lib.hid hA; clear hA
  obtain ⟨F, hF⟩ : ∃ x, cmpAns m T dd cuts = x := ⟨_, rfl⟩
  have EF := Lib.hid hF; clear hF
  obtain ⟨Z, hZ⟩ : ∃ x, cmpAns m T cuts cuts = x := ⟨_, rfl⟩
  have EZ := Lib.hid hZ; clear hZ
  refine (CompareDesigns_any m _ _ _ T cuts dd _ HT.out HC.out HX.out).mono ?_
  rintro e' w4 ⟨rfl, hb⟩
  rw [EA.out]
  have hxb_w4 : ∀ o, w4.cell? ⟨w2.heap.size, o, none⟩ = (#[.int .i64 m.c, .int .i64 m.d, .int .i64 m.s, .int .i64 m.e, .int .i64 m.l, .slice ua T.length uc] : Array Value)[o]? := fun o => by rw [(bcell hb).1 _ _ (by omega), hxb_w3]
  have hz_w4 := hb.size
  have HVx := Lib.hid (HV.out.below hb); clear HV; have HV := HVx; clear HVx
  have HTx := Lib.hid (HT.out.below hb); clear HT; have HT := HTx; clear HTx
  have HCx := Lib.hid (HC.out.below hb); clear HC; have HC := HCx; clear HCx
  have HXx := Lib.hid (HX.out.below hb); clear HX; have HX := HXx; clear HXx
  have HBx := Lib.hid (HB.out.trans (hb.mono (by omega))); clear HB; have HB := HBx; clear HBx
  clear hxb_w3
  clear hb
  go_wp2_with fail
  refine (CompareDesignsR_any m _ _ _ T cuts dd _ HT.out HC.out HX.out).mono ?_
  rintro e' w5 ⟨rfl, hb⟩
  rw [EA.out]
  have hxb_w5 : ∀ o, w5.cell? ⟨w2.heap.size, o, none⟩ = (#[.int .i64 m.c, .int .i64 m.d, .int .i64 m.s, .int .i64 m.e, .int .i64 m.l, .slice ua T.length uc] : Array Value)[o]? := fun o => by rw [(bcell hb).1 _ _ (by omega), hxb_w4]
  have hz_w5 := hb.size
  have HVx := Lib.hid (HV.out.below hb); clear HV; have HV := HVx; clear HVx
  have HTx := Lib.hid (HT.out.below hb); clear HT; have HT := HTx; clear HTx
  have HCx := Lib.hid (HC.out.below hb); clear HC; have HC := HCx; clear HCx
  have HXx := Lib.hid (HX.out.below hb); clear HX; have HX := HXx; clear HXx
  have HBx := Lib.hid (HB.out.trans (hb.mono (by omega))); clear HB; have HB := HBx; clear HBx
  clear hxb_w4
  clear hb
  go_wp2_with fail
  refine (DrawIsCalm_any _ l _ HV.out).mono ?_
  rintro e' w6 hD
  obtain ⟨mb, ub, cvb, Tb, cutsb, nb, rfl, hu, hcv, hb⟩ := hD.open
  obtain ⟨uab, ucb, rfl, _⟩ := hu.form
  obtain ⟨cab, ccb, rfl, _⟩ := hcv.form
  obtain ⟨w7, hw3, hb3, hz3, _, hc3, _⟩ := box_facts w6 (#[.int .i64 mb.c, .int .i64 mb.d, .int .i64 mb.s, .int .i64 mb.e, .int .i64 mb.l, .slice uab Tb.length ucb] : Array Value) 28
  have hu := Lib.hid (hu.any.below hb3); have hcv := Lib.hid (hcv.any.below hb3)
  have Hw := Lib.hid hw3; clear hw3
  have hxb_w6 : ∀ o, w6.cell? ⟨w2.heap.size, o, none⟩ = (#[.int .i64 m.c, .int .i64 m.d, .int .i64 m.s, .int .i64 m.e, .int .i64 m.l, .slice ua T.length uc] : Array Value)[o]? := fun o => by rw [(bcell hb).1 _ _ (by omega), hxb_w5]
  have hz_w6 := hb.size
  have HVx := Lib.hid (HV.out.below hb); clear HV; have HV := HVx; clear HVx
  have HTx := Lib.hid (HT.out.below hb); clear HT; have HT := HTx; clear HTx
  have HCx := Lib.hid (HC.out.below hb); clear HC; have HC := HCx; clear HCx
  have HXx := Lib.hid (HX.out.below hb); clear HX; have HX := HXx; clear HXx
  have HBx := Lib.hid (HB.out.trans (hb.mono (by omega))); clear HB; have HB := HBx; clear HBx
  clear hxb_w5
  clear hb
  have hxb_w7 : ∀ o, w7.cell? ⟨w2.heap.size, o, none⟩ = (#[.int .i64 m.c, .int .i64 m.d, .int .i64 m.s, .int .i64 m.e, .int .i64 m.l, .slice ua T.length uc] : Array Value)[o]? := fun o => by rw [(bcell hb3).1 _ _ (by omega), hxb_w6]
  have hz_w7 := hb3.size
  have HVx := Lib.hid (HV.out.below hb3); clear HV; have HV := HVx; clear HVx
  have HTx := Lib.hid (HT.out.below hb3); clear HT; have HT := HTx; clear HTx
  have HCx := Lib.hid (HC.out.below hb3); clear HC; have HC := HCx; clear HCx
  have HXx := Lib.hid (HX.out.below hb3); clear HX; have HX := HXx; clear HXx
  have HBx := Lib.hid (HB.out.trans (hb3.mono (by omega))); clear HB; have HB := HBx; clear HBx
  clear hxb_w6
  clear hb3
  have HTb := hu; clear hu; have HCb := hcv; clear hcv
  have hxbb_w7 := hc3; clear hc3
  have hzbb := hz3; clear hz3
  go_wp2_with fail
  rw [← Hw.out]
  (try go_wp2_with fail)
  clear Hw
  obtain ⟨B, hB⟩ : ∃ x, calmAns mb Tb cutsb nb = x := ⟨_, rfl⟩
  have EB := Lib.hid hB; clear hB
  obtain ⟨D, hD⟩ : ∃ x, worstAns mb Tb cutsb = x := ⟨_, rfl⟩
  have ED := Lib.hid hD; clear hD
  refine (IsCalm_any mb _ _ Tb cutsb nb _ HTb.out HCb.out).mono ?_
  rintro e' w8 ⟨rfl, hb⟩
  rw [EB.out]
  have hxb_w8 : ∀ o, w8.cell? ⟨w2.heap.size, o, none⟩ = (#[.int .i64 m.c, .int .i64 m.d, .int .i64 m.s, .int .i64 m.e, .int .i64 m.l, .slice ua T.length uc] : Array Value)[o]? := fun o => by rw [(bcell hb).1 _ _ (by omega), hxb_w7]
  have hxbb_w8 : ∀ o, w8.cell? ⟨w6.heap.size, o, none⟩ = (#[.int .i64 mb.c, .int .i64 mb.d, .int .i64 mb.s, .int .i64 mb.e, .int .i64 mb.l, .slice uab Tb.length ucb] : Array Value)[o]? := fun o => by rw [(bcell hb).1 _ _ (by omega), hxbb_w7]
  have hz_w8 := hb.size
  have HVx := Lib.hid (HV.out.below hb); clear HV; have HV := HVx; clear HVx
  have HTx := Lib.hid (HT.out.below hb); clear HT; have HT := HTx; clear HTx
  have HCx := Lib.hid (HC.out.below hb); clear HC; have HC := HCx; clear HCx
  have HXx := Lib.hid (HX.out.below hb); clear HX; have HX := HXx; clear HXx
  have HTbx := Lib.hid (HTb.out.below hb); clear HTb; have HTb := HTbx; clear HTbx
  have HCbx := Lib.hid (HCb.out.below hb); clear HCb; have HCb := HCbx; clear HCbx
  have HBx := Lib.hid (HB.out.trans (hb.mono (by omega))); clear HB; have HB := HBx; clear HBx
  clear hxb_w7
  clear hxbb_w7
  clear hb
  go_wp2_with fail
  refine (IsCalmR_any mb _ _ Tb cutsb nb _ HTb.out HCb.out).mono ?_
  rintro e' w9 ⟨rfl, hb⟩
  rw [EB.out]
  have hxb_w9 : ∀ o, w9.cell? ⟨w2.heap.size, o, none⟩ = (#[.int .i64 m.c, .int .i64 m.d, .int .i64 m.s, .int .i64 m.e, .int .i64 m.l, .slice ua T.length uc] : Array Value)[o]? := fun o => by rw [(bcell hb).1 _ _ (by omega), hxb_w8]
  have hxbb_w9 : ∀ o, w9.cell? ⟨w6.heap.size, o, none⟩ = (#[.int .i64 mb.c, .int .i64 mb.d, .int .i64 mb.s, .int .i64 mb.e, .int .i64 mb.l, .slice uab Tb.length ucb] : Array Value)[o]? := fun o => by rw [(bcell hb).1 _ _ (by omega), hxbb_w8]
  have hz_w9 := hb.size
  have HVx := Lib.hid (HV.out.below hb); clear HV; have HV := HVx; clear HVx
  have HTx := Lib.hid (HT.out.below hb); clear HT; have HT := HTx; clear HTx
  have HCx := Lib.hid (HC.out.below hb); clear HC; have HC := HCx; clear HCx
  have HXx := Lib.hid (HX.out.below hb); clear HX; have HX := HXx; clear HXx
  have HTbx := Lib.hid (HTb.out.below hb); clear HTb; have HTb := HTbx; clear HTbx
  have HCbx := Lib.hid (HCb.out.below hb); clear HCb; have HCb := HCbx; clear HCbx
  have HBx := Lib.hid (HB.out.trans (hb.mono (by omega))); clear HB; have HB := HBx; clear HBx
  clear hxb_w8
  clear hxbb_w8
  clear hb
  by_cases hq : B.2 = 0
  rotate_left
  · have hqd : (B.2 == 0) = false := beq_eq_false_iff_ne.2 hq
    clear hq
    by_cases hp : A.2 = 0
    rotate_left
    · have hpd : (A.2 != 0) = true := by simp [hp]
      go_wp2_with fail
      go_ret
      exact ⟨rfl, HB.out⟩
    have hpd : (A.2 != 0) = false := by simp [hp]
    have hlaw := cmp_law (m := m) (t := T) (a := cuts) (b := dd) (by rw [EA.out]; exact hp)
    have hbd := cmpAns_bd m T cuts dd
    rw [EA.out] at hlaw hbd
    rw [EF.out, EZ.out] at hlaw
    have hF2 : (F.2 == 0) = true := by rw [hlaw.1]; rfl
    have hZ2 : (Z.2 == 0) = true := by rw [hlaw.2]; rfl
    have hZ1 : (Z.1 == 0) = true := by rw [hlaw.2]; rfl
    have hwr : IntKind.i64.wrap (-A.1) = F.1 := by rw [hlaw.1]; exact IntWalk.i64_in _ (by omega)
    have HLw := Lib.hid (And.intro hlaw hbd); clear hlaw hbd hp
    go_wp2_with fail
    refine (CompareDesigns_any m _ _ _ T dd cuts _ HT.out HX.out HC.out).mono ?_
    rintro e' w10 ⟨rfl, hb⟩
    rw [EF.out]
    have hxb_w10 : ∀ o, w10.cell? ⟨w2.heap.size, o, none⟩ = (#[.int .i64 m.c, .int .i64 m.d, .int .i64 m.s, .int .i64 m.e, .int .i64 m.l, .slice ua T.length uc] : Array Value)[o]? := fun o => by rw [(bcell hb).1 _ _ (by omega), hxb_w9]
    have hxbb_w10 : ∀ o, w10.cell? ⟨w6.heap.size, o, none⟩ = (#[.int .i64 mb.c, .int .i64 mb.d, .int .i64 mb.s, .int .i64 mb.e, .int .i64 mb.l, .slice uab Tb.length ucb] : Array Value)[o]? := fun o => by rw [(bcell hb).1 _ _ (by omega), hxbb_w9]
    have hz_w10 := hb.size
    have HVx := Lib.hid (HV.out.below hb); clear HV; have HV := HVx; clear HVx
    have HTx := Lib.hid (HT.out.below hb); clear HT; have HT := HTx; clear HTx
    have HCx := Lib.hid (HC.out.below hb); clear HC; have HC := HCx; clear HCx
    have HXx := Lib.hid (HX.out.below hb); clear HX; have HX := HXx; clear HXx
    have HTbx := Lib.hid (HTb.out.below hb); clear HTb; have HTb := HTbx; clear HTbx
    have HCbx := Lib.hid (HCb.out.below hb); clear HCb; have HCb := HCbx; clear HCbx
    have HBx := Lib.hid (HB.out.trans (hb.mono (by omega))); clear HB; have HB := HBx; clear HBx
    clear hxb_w9
    clear hxbb_w9
    clear hb
    go_wp2_with fail
    refine (CompareDesigns_any m _ _ _ T cuts cuts _ HT.out HC.out HC.out).mono ?_
    rintro e' w11 ⟨rfl, hb⟩
    rw [EZ.out]
    have hxb_w11 : ∀ o, w11.cell? ⟨w2.heap.size, o, none⟩ = (#[.int .i64 m.c, .int .i64 m.d, .int .i64 m.s, .int .i64 m.e, .int .i64 m.l, .slice ua T.length uc] : Array Value)[o]? := fun o => by rw [(bcell hb).1 _ _ (by omega), hxb_w10]
    have hxbb_w11 : ∀ o, w11.cell? ⟨w6.heap.size, o, none⟩ = (#[.int .i64 mb.c, .int .i64 mb.d, .int .i64 mb.s, .int .i64 mb.e, .int .i64 mb.l, .slice uab Tb.length ucb] : Array Value)[o]? := fun o => by rw [(bcell hb).1 _ _ (by omega), hxbb_w10]
    have hz_w11 := hb.size
    have HVx := Lib.hid (HV.out.below hb); clear HV; have HV := HVx; clear HVx
    have HTx := Lib.hid (HT.out.below hb); clear HT; have HT := HTx; clear HTx
    have HCx := Lib.hid (HC.out.below hb); clear HC; have HC := HCx; clear HCx
    have HXx := Lib.hid (HX.out.below hb); clear HX; have HX := HXx; clear HXx
    have HTbx := Lib.hid (HTb.out.below hb); clear HTb; have HTb := HTbx; clear HTbx
    have HCbx := Lib.hid (HCb.out.below hb); clear HCb; have HCb := HCbx; clear HCbx
    have HBx := Lib.hid (HB.out.trans (hb.mono (by omega))); clear HB; have HB := HBx; clear HBx
    clear hxb_w10
    clear hxbb_w10
    clear hb
    go_wp2_with fail
    go_ret
    exact ⟨rfl, HB.out⟩
  have hqd : (B.2 == 0) = true := beq_iff_eq.2 hq
  have hcl := calm_law (m := mb) (t := Tb) (cuts := cutsb) (s := nb) (by rw [EB.out]; exact hq)
  rw [EB.out, ED.out] at hcl
  have hD2 : (D.2 != 0) = false := by rw [hcl.1]; rfl
  obtain ⟨qb, hqb⟩ : ∃ q, decide (D.1 ≤ nb) = q := ⟨_, rfl⟩
  have hB1 : B.1 = qb := by rw [← hqb]; exact hcl.2
  have Hcl := Lib.hid hcl; clear hcl hq
  go_wp2_with fail
  refine (WorstSeverity_any mb _ _ Tb cutsb _ HTb.out HCb.out).mono ?_
  rintro e' w10 ⟨rfl, hb⟩
  rw [ED.out]
  have hxb_w10 : ∀ o, w10.cell? ⟨w2.heap.size, o, none⟩ = (#[.int .i64 m.c, .int .i64 m.d, .int .i64 m.s, .int .i64 m.e, .int .i64 m.l, .slice ua T.length uc] : Array Value)[o]? := fun o => by rw [(bcell hb).1 _ _ (by omega), hxb_w9]
  have hxbb_w10 : ∀ o, w10.cell? ⟨w6.heap.size, o, none⟩ = (#[.int .i64 mb.c, .int .i64 mb.d, .int .i64 mb.s, .int .i64 mb.e, .int .i64 mb.l, .slice uab Tb.length ucb] : Array Value)[o]? := fun o => by rw [(bcell hb).1 _ _ (by omega), hxbb_w9]
  have hz_w10 := hb.size
  have HVx := Lib.hid (HV.out.below hb); clear HV; have HV := HVx; clear HVx
  have HTx := Lib.hid (HT.out.below hb); clear HT; have HT := HTx; clear HTx
  have HCx := Lib.hid (HC.out.below hb); clear HC; have HC := HCx; clear HCx
  have HXx := Lib.hid (HX.out.below hb); clear HX; have HX := HXx; clear HXx
  have HTbx := Lib.hid (HTb.out.below hb); clear HTb; have HTb := HTbx; clear HTbx
  have HCbx := Lib.hid (HCb.out.below hb); clear HCb; have HCb := HCbx; clear HCbx
  have HBx := Lib.hid (HB.out.trans (hb.mono (by omega))); clear HB; have HB := HBx; clear HBx
  clear hxb_w9
  clear hxbb_w9
  clear hb
  by_cases hp : A.2 = 0
  rotate_left
  · have hpd : (A.2 != 0) = true := by simp [hp]
    go_wp2_with fail
    go_ret
    exact ⟨rfl, HB.out⟩
  have hpd : (A.2 != 0) = false := by simp [hp]
  have hlaw := cmp_law (m := m) (t := T) (a := cuts) (b := dd) (by rw [EA.out]; exact hp)
  have hbd := cmpAns_bd m T cuts dd
  rw [EA.out] at hlaw hbd
  rw [EF.out, EZ.out] at hlaw
  have hF2 : (F.2 == 0) = true := by rw [hlaw.1]; rfl
  have hZ2 : (Z.2 == 0) = true := by rw [hlaw.2]; rfl
  have hZ1 : (Z.1 == 0) = true := by rw [hlaw.2]; rfl
  have hwr : IntKind.i64.wrap (-A.1) = F.1 := by rw [hlaw.1]; exact IntWalk.i64_in _ (by omega)
  have HLw := Lib.hid (And.intro hlaw hbd); clear hlaw hbd hp
  go_wp2_with fail
  refine (CompareDesigns_any m _ _ _ T dd cuts _ HT.out HX.out HC.out).mono ?_
  rintro e' w11 ⟨rfl, hb⟩
  rw [EF.out]
  have hxb_w11 : ∀ o, w11.cell? ⟨w2.heap.size, o, none⟩ = (#[.int .i64 m.c, .int .i64 m.d, .int .i64 m.s, .int .i64 m.e, .int .i64 m.l, .slice ua T.length uc] : Array Value)[o]? := fun o => by rw [(bcell hb).1 _ _ (by omega), hxb_w10]
  have hxbb_w11 : ∀ o, w11.cell? ⟨w6.heap.size, o, none⟩ = (#[.int .i64 mb.c, .int .i64 mb.d, .int .i64 mb.s, .int .i64 mb.e, .int .i64 mb.l, .slice uab Tb.length ucb] : Array Value)[o]? := fun o => by rw [(bcell hb).1 _ _ (by omega), hxbb_w10]
  have hz_w11 := hb.size
  have HVx := Lib.hid (HV.out.below hb); clear HV; have HV := HVx; clear HVx
  have HTx := Lib.hid (HT.out.below hb); clear HT; have HT := HTx; clear HTx
  have HCx := Lib.hid (HC.out.below hb); clear HC; have HC := HCx; clear HCx
  have HXx := Lib.hid (HX.out.below hb); clear HX; have HX := HXx; clear HXx
  have HTbx := Lib.hid (HTb.out.below hb); clear HTb; have HTb := HTbx; clear HTbx
  have HCbx := Lib.hid (HCb.out.below hb); clear HCb; have HCb := HCbx; clear HCbx
  have HBx := Lib.hid (HB.out.trans (hb.mono (by omega))); clear HB; have HB := HBx; clear HBx
  clear hxb_w10
  clear hxbb_w10
  clear hb
  go_wp2_with fail
  refine (CompareDesigns_any m _ _ _ T cuts cuts _ HT.out HC.out HC.out).mono ?_
  rintro e' w12 ⟨rfl, hb⟩
  rw [EZ.out]
  have hxb_w12 : ∀ o, w12.cell? ⟨w2.heap.size, o, none⟩ = (#[.int .i64 m.c, .int .i64 m.d, .int .i64 m.s, .int .i64 m.e, .int .i64 m.l, .slice ua T.length uc] : Array Value)[o]? := fun o => by rw [(bcell hb).1 _ _ (by omega), hxb_w11]
  have hxbb_w12 : ∀ o, w12.cell? ⟨w6.heap.size, o, none⟩ = (#[.int .i64 mb.c, .int .i64 mb.d, .int .i64 mb.s, .int .i64 mb.e, .int .i64 mb.l, .slice uab Tb.length ucb] : Array Value)[o]? := fun o => by rw [(bcell hb).1 _ _ (by omega), hxbb_w11]
  have hz_w12 := hb.size
  have HVx := Lib.hid (HV.out.below hb); clear HV; have HV := HVx; clear HVx
  have HTx := Lib.hid (HT.out.below hb); clear HT; have HT := HTx; clear HTx
  have HCx := Lib.hid (HC.out.below hb); clear HC; have HC := HCx; clear HCx
  have HXx := Lib.hid (HX.out.below hb); clear HX; have HX := HXx; clear HXx
  have HTbx := Lib.hid (HTb.out.below hb); clear HTb; have HTb := HTbx; clear HTbx
  have HCbx := Lib.hid (HCb.out.below hb); clear HCb; have HCb := HCbx; clear HCbx
  have HBx := Lib.hid (HB.out.trans (hb.mono (by omega))); clear HB; have HB := HBx; clear HBx
  clear hxb_w11
  clear hxbb_w11
  clear hb
  go_wp2_with fail
  go_ret
  exact ⟨rfl, HB.out⟩
end Go.Proofs.YtmfgdoflddhngaaGreat
