/- The walk of 'laws.FnWornDoors'. No conditions. -/
import Derived.Test.YtmfgdoflddhngaaGreatMSys2
import Derived.Test.YtmfgdoflddhngaaGreatMLike
import Derived.Test.YtmfgdoflddhngaaGreatMFindD
import Derived.Test.YtmfgdoflddhngaaGreatDraw19
import Derived.Test.YtmfgdoflddhngaaGreatMWornR
import Derived.Test.YtmfgdoflddhngaaGreatMRise
import Derived.Test.YtmfgdoflddhngaaGreatMRowsOf
namespace Go.Proofs.YtmfgdoflddhngaaGreat
open Go.RowKit
set_option linter.unusedVariables false
set_option linter.unusedSimpArgs false

set_option maxHeartbeats 4000000 in
set_option maxRecDepth 100000 in
theorem fnWornDoors_walk (W : World) (v : Value) (l : List Int) (h : VB (Old W) W v l) :
    Calls Tryz.prog 5 #[v] W fun e' w' => e' = .returned (.bool true) ∧ Below W.heap.size W w' := by
  have hV := h
  obtain ⟨a, c, rfl, hm⟩ := h.form
  have HV := Lib.hid hV; clear hV h
  cases hbig : decide (4096 < l.length)
  rotate_left
  · have Hbig := Lib.hid hbig; clear hbig
    go_enter Tryz.func5, Tryz.ntmps5
    go_wp2_with fail
    refine (big_any _ l W true Hbig.out HV.out).mono ?_
    rintro e' w' ⟨rfl, hW⟩
    subst hW
    go_wp2_with fail
    go_ret
    exact ⟨rfl, Below.refl _ _⟩
  have Hbig := Lib.hid hbig; clear hbig
  go_enter Tryz.func5, Tryz.ntmps5
  go_wp2_with fail
  refine (big_any _ l W false Hbig.out HV.out).mono ?_
  rintro e' w' ⟨rfl, hW⟩
  subst hW
  have HB := Lib.hid (Below.refl W.heap.size W)
  go_wp2_with fail
  refine (DrawWornDoors_any _ l _ HV.out).mono ?_
  rintro e' w2 hD
  obtain ⟨m, u, cv, T, cuts, kv, key, wear, tol, rfl, hk, hu, hcv, hb⟩ := hD.open
  obtain ⟨ua, uc, rfl, _⟩ := hu.form
  obtain ⟨ca, cc, rfl, _⟩ := hcv.form
  obtain ⟨xa, xc, rfl, _⟩ := hk.form
  obtain ⟨w3, hw3, hb3, hz3, _, hc3, _⟩ := box_facts w2 (#[.int .i64 m.c, .int .i64 m.d, .int .i64 m.s, .int .i64 m.e, .int .i64 m.l, .slice ua T.length uc] : Array Value) 28
  have hu := Lib.hid (hu.any.below hb3); have hcv := Lib.hid (hcv.any.below hb3)
  have HX := Lib.hid (hk.any.below hb3); clear hk
  have Hw := Lib.hid hw3; clear hw3
  have hz_w2 := hb.size
  have HVx := Lib.hid (HV.out.below hb); clear HV; have HV := HVx; clear HVx
  have HBx := Lib.hid (HB.out.trans (hb.mono (by omega))); clear HB; have HB := HBx; clear HBx
  clear hb
  have hz_w3 := hb3.size
  have HVx := Lib.hid (HV.out.below hb3); clear HV; have HV := HVx; clear HVx
  have HBx := Lib.hid (HB.out.trans (hb3.mono (by omega))); clear HB; have HB := HBx; clear HBx
  clear hb3
  have HT := hu; clear hu; have HC := hcv; clear hcv
  have hxb_w3 := hc3; clear hc3
  have hzb := hz3; clear hz3
  go_wp2_with fail
  rw [← Hw.out]
  (try go_wp2_with fail)
  clear Hw
  obtain ⟨A, hA⟩ : ∃ x, wornAns m T cuts key wear tol = x := ⟨_, rfl⟩
  have EA := Lib.hid hA; clear hA
  obtain ⟨B, hB⟩ : ∃ x, doorsAns m T cuts key = x := ⟨_, rfl⟩
  have EB := Lib.hid hB; clear hB
  obtain ⟨Z, hZ⟩ : ∃ x, wornAns m T cuts key 0 0 = x := ⟨_, rfl⟩
  have EZ := Lib.hid hZ; clear hZ
  refine (WornDoors_any m _ _ _ T cuts key wear tol _ HT.out HC.out HX.out).mono ?_
  rintro e' w4 ⟨r1, rfl, hR, hb⟩
  rw [EA.out] at hR ⊢
  obtain ⟨ra1, rc1, rfl, _⟩ := hR.v1.form
  have hxb_w4 : ∀ o, w4.cell? ⟨w2.heap.size, o, none⟩ = (#[.int .i64 m.c, .int .i64 m.d, .int .i64 m.s, .int .i64 m.e, .int .i64 m.l, .slice ua T.length uc] : Array Value)[o]? := fun o => by rw [(bcell hb).1 _ _ (by omega), hxb_w3]
  have hz_w4 := hb.size
  have HVx := Lib.hid (HV.out.below hb); clear HV; have HV := HVx; clear HVx
  have HTx := Lib.hid (HT.out.below hb); clear HT; have HT := HTx; clear HTx
  have HCx := Lib.hid (HC.out.below hb); clear HC; have HC := HCx; clear HCx
  have HXx := Lib.hid (HX.out.below hb); clear HX; have HX := HXx; clear HXx
  have HBx := Lib.hid (HB.out.trans (hb.mono (by omega))); clear HB; have HB := HBx; clear HBx
  clear hxb_w3
  clear hb
  have HR1 := Lib.hid (hR.v1.any); clear hR
  go_wp2_with fail
  refine (WornDoorsR_any m _ _ _ T cuts key wear tol _ HT.out HC.out HX.out).mono ?_
  rintro e' w5 ⟨r2, rfl, hR, hb⟩
  rw [EA.out] at hR ⊢
  obtain ⟨ra2, rc2, rfl, _⟩ := hR.form
  have hxb_w5 : ∀ o, w5.cell? ⟨w2.heap.size, o, none⟩ = (#[.int .i64 m.c, .int .i64 m.d, .int .i64 m.s, .int .i64 m.e, .int .i64 m.l, .slice ua T.length uc] : Array Value)[o]? := fun o => by rw [(bcell hb).1 _ _ (by omega), hxb_w4]
  have hz_w5 := hb.size
  have HVx := Lib.hid (HV.out.below hb); clear HV; have HV := HVx; clear HVx
  have HTx := Lib.hid (HT.out.below hb); clear HT; have HT := HTx; clear HTx
  have HCx := Lib.hid (HC.out.below hb); clear HC; have HC := HCx; clear HCx
  have HXx := Lib.hid (HX.out.below hb); clear HX; have HX := HXx; clear HXx
  have HR1x := Lib.hid (HR1.out.below hb); clear HR1; have HR1 := HR1x; clear HR1x
  have HBx := Lib.hid (HB.out.trans (hb.mono (by omega))); clear HB; have HB := HBx; clear HBx
  clear hxb_w4
  clear hb
  have HR2 := Lib.hid (hR.any); clear hR
  go_wp2_with fail
  refine (likeInts_w _ _ (A.1) (A.1) _ true (decide_eq_true rfl) HR1.out HR2.out).mono ?_
  rintro e' w6 ⟨rfl, hb⟩
  have hxb_w6 : ∀ o, w6.cell? ⟨w2.heap.size, o, none⟩ = (#[.int .i64 m.c, .int .i64 m.d, .int .i64 m.s, .int .i64 m.e, .int .i64 m.l, .slice ua T.length uc] : Array Value)[o]? := fun o => by rw [(bcell hb).1 _ _ (by omega), hxb_w5]
  have hz_w6 := hb.size
  have HVx := Lib.hid (HV.out.below hb); clear HV; have HV := HVx; clear HVx
  have HTx := Lib.hid (HT.out.below hb); clear HT; have HT := HTx; clear HTx
  have HCx := Lib.hid (HC.out.below hb); clear HC; have HC := HCx; clear HCx
  have HXx := Lib.hid (HX.out.below hb); clear HX; have HX := HXx; clear HXx
  have HR1x := Lib.hid (HR1.out.below hb); clear HR1; have HR1 := HR1x; clear HR1x
  have HR2x := Lib.hid (HR2.out.below hb); clear HR2; have HR2 := HR2x; clear HR2x
  have HBx := Lib.hid (HB.out.trans (hb.mono (by omega))); clear HB; have HB := HBx; clear HBx
  clear hxb_w5
  clear hb
  by_cases hp : A.2 = 0
  rotate_left
  · have hpd : (A.2 != 0) = true := by simp [hp]
    go_wp2_with fail
    go_ret
    exact ⟨rfl, HB.out⟩
  have hpd : (A.2 != 0) = false := by simp [hp]
  have hlaw := worn_law (m := m) (t := T) (cuts := cuts) (key := key) (wear := wear) (tol := tol) (by rw [EA.out]; exact hp)
  rw [EA.out, EB.out, EZ.out] at hlaw
  have hb0 : (B.2 == 0) = true := beq_iff_eq.2 hlaw.1
  have hZ2 : Z.2 = 0 := by rw [hlaw.2.2]
  have hz0 : (Z.2 == 0) = true := beq_iff_eq.2 hZ2
  have HLw := Lib.hid (And.intro hlaw hZ2); clear hlaw hp hZ2
  have Hb0 := Lib.hid hb0; clear hb0; have Hz0 := Lib.hid hz0; clear hz0
  go_wp2_with fail
  refine (DoorsOpened_any m _ _ _ T cuts key _ HT.out HC.out HX.out).mono ?_
  rintro e' w7 ⟨r3, rfl, hR, hb⟩
  rw [EB.out] at hR ⊢
  obtain ⟨ra3, rc3, rfl, _⟩ := hR.v1.form
  have hxb_w7 : ∀ o, w7.cell? ⟨w2.heap.size, o, none⟩ = (#[.int .i64 m.c, .int .i64 m.d, .int .i64 m.s, .int .i64 m.e, .int .i64 m.l, .slice ua T.length uc] : Array Value)[o]? := fun o => by rw [(bcell hb).1 _ _ (by omega), hxb_w6]
  have hz_w7 := hb.size
  have HVx := Lib.hid (HV.out.below hb); clear HV; have HV := HVx; clear HVx
  have HTx := Lib.hid (HT.out.below hb); clear HT; have HT := HTx; clear HTx
  have HCx := Lib.hid (HC.out.below hb); clear HC; have HC := HCx; clear HCx
  have HXx := Lib.hid (HX.out.below hb); clear HX; have HX := HXx; clear HXx
  have HR1x := Lib.hid (HR1.out.below hb); clear HR1; have HR1 := HR1x; clear HR1x
  have HR2x := Lib.hid (HR2.out.below hb); clear HR2; have HR2 := HR2x; clear HR2x
  have HBx := Lib.hid (HB.out.trans (hb.mono (by omega))); clear HB; have HB := HBx; clear HBx
  clear hxb_w6
  clear hb
  have HR3 := Lib.hid (hR.v1.any); clear hR
  go_wp2_with fail
  refine (DoorsOpenedR_any m _ _ _ T cuts key _ HT.out HC.out HX.out).mono ?_
  rintro e' w8 ⟨r4, rfl, hR, hb⟩
  rw [EB.out] at hR ⊢
  obtain ⟨ra4, rc4, rfl, _⟩ := hR.form
  have hxb_w8 : ∀ o, w8.cell? ⟨w2.heap.size, o, none⟩ = (#[.int .i64 m.c, .int .i64 m.d, .int .i64 m.s, .int .i64 m.e, .int .i64 m.l, .slice ua T.length uc] : Array Value)[o]? := fun o => by rw [(bcell hb).1 _ _ (by omega), hxb_w7]
  have hz_w8 := hb.size
  have HVx := Lib.hid (HV.out.below hb); clear HV; have HV := HVx; clear HVx
  have HTx := Lib.hid (HT.out.below hb); clear HT; have HT := HTx; clear HTx
  have HCx := Lib.hid (HC.out.below hb); clear HC; have HC := HCx; clear HCx
  have HXx := Lib.hid (HX.out.below hb); clear HX; have HX := HXx; clear HXx
  have HR1x := Lib.hid (HR1.out.below hb); clear HR1; have HR1 := HR1x; clear HR1x
  have HR2x := Lib.hid (HR2.out.below hb); clear HR2; have HR2 := HR2x; clear HR2x
  have HR3x := Lib.hid (HR3.out.below hb); clear HR3; have HR3 := HR3x; clear HR3x
  have HBx := Lib.hid (HB.out.trans (hb.mono (by omega))); clear HB; have HB := HBx; clear HBx
  clear hxb_w7
  clear hb
  have HR4 := Lib.hid (hR.any); clear hR
  go_wp2_with fail
  refine (likeInts_w _ _ (B.1) (B.1) _ true (decide_eq_true rfl) HR3.out HR4.out).mono ?_
  rintro e' w9 ⟨rfl, hb⟩
  have hxb_w9 : ∀ o, w9.cell? ⟨w2.heap.size, o, none⟩ = (#[.int .i64 m.c, .int .i64 m.d, .int .i64 m.s, .int .i64 m.e, .int .i64 m.l, .slice ua T.length uc] : Array Value)[o]? := fun o => by rw [(bcell hb).1 _ _ (by omega), hxb_w8]
  have hz_w9 := hb.size
  have HVx := Lib.hid (HV.out.below hb); clear HV; have HV := HVx; clear HVx
  have HTx := Lib.hid (HT.out.below hb); clear HT; have HT := HTx; clear HTx
  have HCx := Lib.hid (HC.out.below hb); clear HC; have HC := HCx; clear HCx
  have HXx := Lib.hid (HX.out.below hb); clear HX; have HX := HXx; clear HXx
  have HR1x := Lib.hid (HR1.out.below hb); clear HR1; have HR1 := HR1x; clear HR1x
  have HR2x := Lib.hid (HR2.out.below hb); clear HR2; have HR2 := HR2x; clear HR2x
  have HR3x := Lib.hid (HR3.out.below hb); clear HR3; have HR3 := HR3x; clear HR3x
  have HR4x := Lib.hid (HR4.out.below hb); clear HR4; have HR4 := HR4x; clear HR4x
  have HBx := Lib.hid (HB.out.trans (hb.mono (by omega))); clear HB; have HB := HBx; clear HBx
  clear hxb_w8
  clear hb
  go_wp2_with fail
  refine (WornDoors_any m _ _ _ T cuts key 0 0 _ HT.out HC.out HX.out).mono ?_
  rintro e' w10 ⟨r5, rfl, hR, hb⟩
  rw [EZ.out] at hR ⊢
  obtain ⟨ra5, rc5, rfl, _⟩ := hR.v1.form
  have hxb_w10 : ∀ o, w10.cell? ⟨w2.heap.size, o, none⟩ = (#[.int .i64 m.c, .int .i64 m.d, .int .i64 m.s, .int .i64 m.e, .int .i64 m.l, .slice ua T.length uc] : Array Value)[o]? := fun o => by rw [(bcell hb).1 _ _ (by omega), hxb_w9]
  have hz_w10 := hb.size
  have HVx := Lib.hid (HV.out.below hb); clear HV; have HV := HVx; clear HVx
  have HTx := Lib.hid (HT.out.below hb); clear HT; have HT := HTx; clear HTx
  have HCx := Lib.hid (HC.out.below hb); clear HC; have HC := HCx; clear HCx
  have HXx := Lib.hid (HX.out.below hb); clear HX; have HX := HXx; clear HXx
  have HR1x := Lib.hid (HR1.out.below hb); clear HR1; have HR1 := HR1x; clear HR1x
  have HR2x := Lib.hid (HR2.out.below hb); clear HR2; have HR2 := HR2x; clear HR2x
  have HR3x := Lib.hid (HR3.out.below hb); clear HR3; have HR3 := HR3x; clear HR3x
  have HR4x := Lib.hid (HR4.out.below hb); clear HR4; have HR4 := HR4x; clear HR4x
  have HBx := Lib.hid (HB.out.trans (hb.mono (by omega))); clear HB; have HB := HBx; clear HBx
  clear hxb_w9
  clear hb
  have HR5 := Lib.hid (hR.v1.any); clear hR
  go_wp2_with fail
  go_loopw [18] (fun iv wr => ∃ k : Nat, k ≤ B.1.length ∧ iv = .int .i64 (k : Int) ∧ Below w10.heap.size w10 wr) (fun iv _ => B.1.length - (intOf iv).toNat)
  case atStart => exact ⟨0, Nat.zero_le _, rfl, Below.refl _ _⟩
  case round =>
    obtain ⟨k, hk, rfl, hbr⟩ := hrel
    have Hbr := Lib.hid hbr
    have hxb_wr : ∀ o, wr.cell? ⟨w2.heap.size, o, none⟩ = (#[.int .i64 m.c, .int .i64 m.d, .int .i64 m.s, .int .i64 m.e, .int .i64 m.l, .slice ua T.length uc] : Array Value)[o]? := fun o => by rw [(bcell hbr).1 _ _ (by omega), hxb_w10]
    have hz_wr := hbr.size
    have HVx := Lib.hid (HV.out.below hbr); clear HV; have HV := HVx; clear HVx
    have HTx := Lib.hid (HT.out.below hbr); clear HT; have HT := HTx; clear HTx
    have HCx := Lib.hid (HC.out.below hbr); clear HC; have HC := HCx; clear HCx
    have HXx := Lib.hid (HX.out.below hbr); clear HX; have HX := HXx; clear HXx
    have HR1x := Lib.hid (HR1.out.below hbr); clear HR1; have HR1 := HR1x; clear HR1x
    have HR2x := Lib.hid (HR2.out.below hbr); clear HR2; have HR2 := HR2x; clear HR2x
    have HR3x := Lib.hid (HR3.out.below hbr); clear HR3; have HR3 := HR3x; clear HR3x
    have HR4x := Lib.hid (HR4.out.below hbr); clear HR4; have HR4 := HR4x; clear HR4x
    have HR5x := Lib.hid (HR5.out.below hbr); clear HR5; have HR5 := HR5x; clear HR5x
    have HBx := Lib.hid (HB.out.trans (hbr.mono (by omega))); clear HB; have HB := HBx; clear HBx
    clear hxb_w10
    clear hbr
    by_cases hkk : k < B.1.length
    · skip
      have hkd : decide ((k : Int) < (B.1.length : Int)) = true := decide_eq_true (by omega)
      have hin := HLw.out.1.2.1 _ (geti_mem hkk)
      have Hin := Lib.hid (hasI_iff.2 hin); clear hin
      obtain ⟨bq, oq, rfl, _, hcq⟩ := HR3.out.cell hkk
      go_wp2_with fail
      refine (hasInt_b _ A.1 (geti B.1 k) _ true Hin.out HR1.out).mono ?_
      rintro e' w' ⟨rfl, hw⟩
      subst hw
      go_wp2_with fail
      go_roundw
      case rel => exact ⟨k + 1, by omega, by go_num, Hbr.out⟩
      case measure => simp [intOf]; omega
    · skip
      have hkd : decide ((k : Int) < (B.1.length : Int)) = false := decide_eq_false (by omega)
      have hb0 := Hb0.out; have hz0 := Hz0.out
      go_wp2_with fail
      refine (likeInts_w _ _ Z.1 B.1 _ true (decide_eq_true (by rw [HLw.out.1.2.2])) HR5.out HR3.out).mono ?_
      rintro e' w11 ⟨rfl, hb⟩
      have hxb_w11 : ∀ o, w11.cell? ⟨w2.heap.size, o, none⟩ = (#[.int .i64 m.c, .int .i64 m.d, .int .i64 m.s, .int .i64 m.e, .int .i64 m.l, .slice ua T.length uc] : Array Value)[o]? := fun o => by rw [(bcell hb).1 _ _ (by omega), hxb_wr]
      have hz_w11 := hb.size
      have HVx := Lib.hid (HV.out.below hb); clear HV; have HV := HVx; clear HVx
      have HTx := Lib.hid (HT.out.below hb); clear HT; have HT := HTx; clear HTx
      have HCx := Lib.hid (HC.out.below hb); clear HC; have HC := HCx; clear HCx
      have HXx := Lib.hid (HX.out.below hb); clear HX; have HX := HXx; clear HXx
      have HR1x := Lib.hid (HR1.out.below hb); clear HR1; have HR1 := HR1x; clear HR1x
      have HR2x := Lib.hid (HR2.out.below hb); clear HR2; have HR2 := HR2x; clear HR2x
      have HR3x := Lib.hid (HR3.out.below hb); clear HR3; have HR3 := HR3x; clear HR3x
      have HR4x := Lib.hid (HR4.out.below hb); clear HR4; have HR4 := HR4x; clear HR4x
      have HR5x := Lib.hid (HR5.out.below hb); clear HR5; have HR5 := HR5x; clear HR5x
      have HBx := Lib.hid (HB.out.trans (hb.mono (by omega))); clear HB; have HB := HBx; clear HBx
      clear hxb_wr
      clear hb
      go_wp2_with fail
      go_ret
      exact ⟨rfl, HB.out⟩
end Go.Proofs.YtmfgdoflddhngaaGreat
