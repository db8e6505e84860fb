/- The walk of 'laws.FnSeverity'. No conditions. -/
import Derived.Test.YtmjplkbmhdkggaaGreatMTable
import Derived.Test.YtmjplkbmhdkggaaGreatMGhosts
import Derived.Test.YtmjplkbmhdkggaaGreatMFindD
import Derived.Test.YtmjplkbmhdkggaaGreatMDraw36
import Derived.Test.YtmjplkbmhdkggaaGreatMWstO
import Derived.Test.YtmjplkbmhdkggaaGreatMWstR
import Derived.Test.YtmjplkbmhdkggaaGreatMWorst
namespace Go.Proofs.YtmjplkbmhdkggaaGreat
open Go.RowKit
set_option linter.unusedVariables false
set_option linter.unusedSimpArgs false
/-- What the law's loop has at hand ahead of round k: the worst severity, or that of the last ghost. -/
def lastSev (m : Mk) (t cuts l : List (List Int)) (w : Int) (k : Nat) : Int := if k = 0 then w else (sevAns m t cuts (getl l (k - 1))).1
set_option maxHeartbeats 4000000 in
set_option maxRecDepth 100000 in
theorem fnSeverity_walk (W : World) (v : Value) (l : List Int) (h : VB (Old W) W v l) :
  Calls Tryz.prog 6 #[v] W fun e' w' => e' = .returned (.bool true) ∧ Below W.heap.size W w' := by
 have hV := h
 obtain ⟨a, c, rfl, hm⟩ := h.form
 have HV := Lib.hid hV; clear hV h
 cases hbig : decide (4096 < l.length)
 rotate_left
 ·have Hbig := Lib.hid hbig; clear hbig
  go_enter Tryz.func6, Tryz.ntmps6
  go_wp2_with fail
  refine (big_any _ l W true Hbig.out HV.out).mono ?_
  rintro e' w' ⟨rfl, hW⟩
  subst hW
  go_wp2_with fail
  go_ret
  exact ⟨rfl, Below.refl _ _⟩
 have Hbig := Lib.hid hbig; clear hbig
 go_enter Tryz.func6, Tryz.ntmps6
 go_wp2_with fail
 refine (big_any _ l W false Hbig.out HV.out).mono ?_
 rintro e' w' ⟨rfl, hW⟩
 subst hW
 have HB := Lib.hid (Below.refl W.heap.size W)
 go_wp2_with fail
 refine (DrawWorstGhosts_any _ l _ HV.out).mono ?_
 rintro e' w2 hD
 obtain ⟨m, u, cv, T, cuts, n, rfl, hu, hcv, hb⟩ := hD.open
 obtain ⟨ua, uc, rfl, _⟩ := hu.form
 obtain ⟨ca, cc, rfl, _⟩ := hcv.form
 obtain ⟨w3, hw3, hb3, hz3, _, hc3, _⟩ := box_facts w2 (#[.int .i64 m.c, .int .i64 m.d, .int .i64 m.s, .int .i64 m.e, .int .i64 m.l, .slice ua T.length uc] : Array Value) 33
 have hu := Lib.hid (hu.any.below hb3); have hcv := Lib.hid (hcv.any.below hb3)
 have Hw := Lib.hid hw3; clear hw3
 have hz_w2 := hb.size
 have HVx := Lib.hid (HV.out.below hb); clear HV; have HV := HVx; clear HVx
 have HBx := Lib.hid (HB.out.trans (hb.mono (by omega))); clear HB; have HB := HBx; clear HBx
 clear hb
 have hz_w3 := hb3.size
 have HVx := Lib.hid (HV.out.below hb3); clear HV; have HV := HVx; clear HVx
 have HBx := Lib.hid (HB.out.trans (hb3.mono (by omega))); clear HB; have HB := HBx; clear HBx
 clear hb3
 have HT := hu; clear hu; have HC := hcv; clear hcv
 have hxb_w3 := hc3; clear hc3
 have hzb := hz3; clear hz3
 go_wp2_with fail
 rw [← Hw.out]
 (try go_wp2_with fail)
 clear Hw
 obtain ⟨A, hA⟩ : ∃ x, wghAns m T cuts n = x := ⟨_, rfl⟩
 have EA := Lib.hid hA; clear hA
 obtain ⟨D, hD⟩ : ∃ x, worstAns m T cuts = x := ⟨_, rfl⟩
 have ED := Lib.hid hD; clear hD
 obtain ⟨S, hS⟩ : ∃ x, sysGhostAns m T cuts = x := ⟨_, rfl⟩
 have ES := Lib.hid hS; clear hS
 refine (WorstGhosts_any m _ _ T cuts n _ HT.out HC.out).mono ?_
 rintro e' w4 ⟨r1, rfl, hR, hb⟩
 rw [EA.out] at hR ⊢
 obtain ⟨ra1, rc1, rfl, _⟩ := hR.v2.form
 have hxb_w4 : ∀ o, w4.cell? ⟨w2.heap.size, o, none⟩ = (#[.int .i64 m.c, .int .i64 m.d, .int .i64 m.s, .int .i64 m.e, .int .i64 m.l, .slice ua T.length uc] : Array Value)[o]? := fun o => by rw [(bcell hb).1 _ _ (by omega), hxb_w3]
 have hz_w4 := hb.size
 have HVx := Lib.hid (HV.out.below hb); clear HV; have HV := HVx; clear HVx
 have HTx := Lib.hid (HT.out.below hb); clear HT; have HT := HTx; clear HTx
 have HCx := Lib.hid (HC.out.below hb); clear HC; have HC := HCx; clear HCx
 have HBx := Lib.hid (HB.out.trans (hb.mono (by omega))); clear HB; have HB := HBx; clear HBx
 clear hxb_w3
 clear hb
 have HR1 := Lib.hid (hR.v2.any); clear hR
 go_wp2_with fail
 refine (WorstGhostsR_any m _ _ T cuts n _ HT.out HC.out).mono ?_
 rintro e' w5 ⟨r2, rfl, hR, hb⟩
 rw [EA.out] at hR ⊢
 obtain ⟨ra2, rc2, rfl, _⟩ := hR.form
 have hxb_w5 : ∀ o, w5.cell? ⟨w2.heap.size, o, none⟩ = (#[.int .i64 m.c, .int .i64 m.d, .int .i64 m.s, .int .i64 m.e, .int .i64 m.l, .slice ua T.length uc] : Array Value)[o]? := fun o => by rw [(bcell hb).1 _ _ (by omega), hxb_w4]
 have hz_w5 := hb.size
 have HVx := Lib.hid (HV.out.below hb); clear HV; have HV := HVx; clear HVx
 have HTx := Lib.hid (HT.out.below hb); clear HT; have HT := HTx; clear HTx
 have HCx := Lib.hid (HC.out.below hb); clear HC; have HC := HCx; clear HCx
 have HR1x := Lib.hid (HR1.out.below hb); clear HR1; have HR1 := HR1x; clear HR1x
 have HBx := Lib.hid (HB.out.trans (hb.mono (by omega))); clear HB; have HB := HBx; clear HBx
 clear hxb_w4
 clear hb
 have HR2 := Lib.hid (hR.any); clear hR
 go_wp2_with fail
 refine (DrawSeverityOf_any _ l _ HV.out).mono ?_
 rintro e' w6 hD
 obtain ⟨mb, ub, cvb, Tb, cutsb, kvb, keyb, rfl, hk, hu, hcv, hb⟩ := hD.open
 obtain ⟨uab, ucb, rfl, _⟩ := hu.form
 obtain ⟨cab, ccb, rfl, _⟩ := hcv.form
 obtain ⟨xab, xcb, rfl, _⟩ := hk.form
 obtain ⟨w7, hw3, hb3, hz3, _, hc3, _⟩ := box_facts w6 (#[.int .i64 mb.c, .int .i64 mb.d, .int .i64 mb.s, .int .i64 mb.e, .int .i64 mb.l, .slice uab Tb.length ucb] : Array Value) 33
 have hu := Lib.hid (hu.any.below hb3); have hcv := Lib.hid (hcv.any.below hb3)
 have HXb := Lib.hid (hk.any.below hb3); clear hk
 have Hw := Lib.hid hw3; clear hw3
 have hxb_w6 : ∀ o, w6.cell? ⟨w2.heap.size, o, none⟩ = (#[.int .i64 m.c, .int .i64 m.d, .int .i64 m.s, .int .i64 m.e, .int .i64 m.l, .slice ua T.length uc] : Array Value)[o]? := fun o => by rw [(bcell hb).1 _ _ (by omega), hxb_w5]
 have hz_w6 := hb.size
 have HVx := Lib.hid (HV.out.below hb); clear HV; have HV := HVx; clear HVx
 have HTx := Lib.hid (HT.out.below hb); clear HT; have HT := HTx; clear HTx
 have HCx := Lib.hid (HC.out.below hb); clear HC; have HC := HCx; clear HCx
 have HR1x := Lib.hid (HR1.out.below hb); clear HR1; have HR1 := HR1x; clear HR1x
 have HR2x := Lib.hid (HR2.out.below hb); clear HR2; have HR2 := HR2x; clear HR2x
 have HBx := Lib.hid (HB.out.trans (hb.mono (by omega))); clear HB; have HB := HBx; clear HBx
 clear hxb_w5
 clear hb
 have hxb_w7 : ∀ o, w7.cell? ⟨w2.heap.size, o, none⟩ = (#[.int .i64 m.c, .int .i64 m.d, .int .i64 m.s, .int .i64 m.e, .int .i64 m.l, .slice ua T.length uc] : Array Value)[o]? := fun o => by rw [(bcell hb3).1 _ _ (by omega), hxb_w6]
 have hz_w7 := hb3.size
 have HVx := Lib.hid (HV.out.below hb3); clear HV; have HV := HVx; clear HVx
 have HTx := Lib.hid (HT.out.below hb3); clear HT; have HT := HTx; clear HTx
 have HCx := Lib.hid (HC.out.below hb3); clear HC; have HC := HCx; clear HCx
 have HR1x := Lib.hid (HR1.out.below hb3); clear HR1; have HR1 := HR1x; clear HR1x
 have HR2x := Lib.hid (HR2.out.below hb3); clear HR2; have HR2 := HR2x; clear HR2x
 have HBx := Lib.hid (HB.out.trans (hb3.mono (by omega))); clear HB; have HB := HBx; clear HBx
 clear hxb_w6
 clear hb3
 have HTb := hu; clear hu; have HCb := hcv; clear hcv
 have hxbb_w7 := hc3; clear hc3
 have hzbb := hz3; clear hz3
 go_wp2_with fail
 rw [← Hw.out]
 (try go_wp2_with fail)
 clear Hw
 obtain ⟨B, hB⟩ : ∃ x, sevAns mb Tb cutsb keyb = x := ⟨_, rfl⟩
 have EB := Lib.hid hB; clear hB
 refine (SeverityOf_any mb _ _ _ Tb cutsb keyb _ HTb.out HCb.out HXb.out).mono ?_
 rintro e' w8 ⟨rfl, hb⟩
 rw [EB.out]
 have hxb_w8 : ∀ o, w8.cell? ⟨w2.heap.size, o, none⟩ = (#[.int .i64 m.c, .int .i64 m.d, .int .i64 m.s, .int .i64 m.e, .int .i64 m.l, .slice ua T.length uc] : Array Value)[o]? := fun o => by rw [(bcell hb).1 _ _ (by omega), hxb_w7]
 have hxbb_w8 : ∀ o, w8.cell? ⟨w6.heap.size, o, none⟩ = (#[.int .i64 mb.c, .int .i64 mb.d, .int .i64 mb.s, .int .i64 mb.e, .int .i64 mb.l, .slice uab Tb.length ucb] : Array Value)[o]? := fun o => by rw [(bcell hb).1 _ _ (by omega), hxbb_w7]
 have hz_w8 := hb.size
 have HVx := Lib.hid (HV.out.below hb); clear HV; have HV := HVx; clear HVx
 have HTx := Lib.hid (HT.out.below hb); clear HT; have HT := HTx; clear HTx
 have HCx := Lib.hid (HC.out.below hb); clear HC; have HC := HCx; clear HCx
 have HR1x := Lib.hid (HR1.out.below hb); clear HR1; have HR1 := HR1x; clear HR1x
 have HR2x := Lib.hid (HR2.out.below hb); clear HR2; have HR2 := HR2x; clear HR2x
 have HTbx := Lib.hid (HTb.out.below hb); clear HTb; have HTb := HTbx; clear HTbx
 have HCbx := Lib.hid (HCb.out.below hb); clear HCb; have HCb := HCbx; clear HCbx
 have HXbx := Lib.hid (HXb.out.below hb); clear HXb; have HXb := HXbx; clear HXbx
 have HBx := Lib.hid (HB.out.trans (hb.mono (by omega))); clear HB; have HB := HBx; clear HBx
 clear hxb_w7
 clear hxbb_w7
 clear hb
 go_wp2_with fail
 refine (SeverityOfR_any mb _ _ _ Tb cutsb keyb _ HTb.out HCb.out HXb.out).mono ?_
 rintro e' w9 ⟨rfl, hb⟩
 rw [EB.out]
 have hxb_w9 : ∀ o, w9.cell? ⟨w2.heap.size, o, none⟩ = (#[.int .i64 m.c, .int .i64 m.d, .int .i64 m.s, .int .i64 m.e, .int .i64 m.l, .slice ua T.length uc] : Array Value)[o]? := fun o => by rw [(bcell hb).1 _ _ (by omega), hxb_w8]
 have hxbb_w9 : ∀ o, w9.cell? ⟨w6.heap.size, o, none⟩ = (#[.int .i64 mb.c, .int .i64 mb.d, .int .i64 mb.s, .int .i64 mb.e, .int .i64 mb.l, .slice uab Tb.length ucb] : Array Value)[o]? := fun o => by rw [(bcell hb).1 _ _ (by omega), hxbb_w8]
 have hz_w9 := hb.size
 have HVx := Lib.hid (HV.out.below hb); clear HV; have HV := HVx; clear HVx
 have HTx := Lib.hid (HT.out.below hb); clear HT; have HT := HTx; clear HTx
 have HCx := Lib.hid (HC.out.below hb); clear HC; have HC := HCx; clear HCx
 have HR1x := Lib.hid (HR1.out.below hb); clear HR1; have HR1 := HR1x; clear HR1x
 have HR2x := Lib.hid (HR2.out.below hb); clear HR2; have HR2 := HR2x; clear HR2x
 have HTbx := Lib.hid (HTb.out.below hb); clear HTb; have HTb := HTbx; clear HTbx
 have HCbx := Lib.hid (HCb.out.below hb); clear HCb; have HCb := HCbx; clear HCbx
 have HXbx := Lib.hid (HXb.out.below hb); clear HXb; have HXb := HXbx; clear HXbx
 have HBx := Lib.hid (HB.out.trans (hb.mono (by omega))); clear HB; have HB := HBx; clear HBx
 clear hxb_w8
 clear hxbb_w8
 clear hb
 go_wp2_with fail
 refine (WorstSeverity_any m _ _ T cuts _ HT.out HC.out).mono ?_
 rintro e' w10 ⟨rfl, hb⟩
 rw [ED.out]
 have hxb_w10 : ∀ o, w10.cell? ⟨w2.heap.size, o, none⟩ = (#[.int .i64 m.c, .int .i64 m.d, .int .i64 m.s, .int .i64 m.e, .int .i64 m.l, .slice ua T.length uc] : Array Value)[o]? := fun o => by rw [(bcell hb).1 _ _ (by omega), hxb_w9]
 have hxbb_w10 : ∀ o, w10.cell? ⟨w6.heap.size, o, none⟩ = (#[.int .i64 mb.c, .int .i64 mb.d, .int .i64 mb.s, .int .i64 mb.e, .int .i64 mb.l, .slice uab Tb.length ucb] : Array Value)[o]? := fun o => by rw [(bcell hb).1 _ _ (by omega), hxbb_w9]
 have hz_w10 := hb.size
 have HVx := Lib.hid (HV.out.below hb); clear HV; have HV := HVx; clear HVx
 have HTx := Lib.hid (HT.out.below hb); clear HT; have HT := HTx; clear HTx
 have HCx := Lib.hid (HC.out.below hb); clear HC; have HC := HCx; clear HCx
 have HR1x := Lib.hid (HR1.out.below hb); clear HR1; have HR1 := HR1x; clear HR1x
 have HR2x := Lib.hid (HR2.out.below hb); clear HR2; have HR2 := HR2x; clear HR2x
 have HTbx := Lib.hid (HTb.out.below hb); clear HTb; have HTb := HTbx; clear HTbx
 have HCbx := Lib.hid (HCb.out.below hb); clear HCb; have HCb := HCbx; clear HCbx
 have HXbx := Lib.hid (HXb.out.below hb); clear HXb; have HXb := HXbx; clear HXbx
 have HBx := Lib.hid (HB.out.trans (hb.mono (by omega))); clear HB; have HB := HBx; clear HBx
 clear hxb_w9
 clear hxbb_w9
 clear hb
 go_wp2_with fail
 refine (WorstSeverityR_any m _ _ T cuts _ HT.out HC.out).mono ?_
 rintro e' w11 ⟨rfl, hb⟩
 rw [ED.out]
 have hxb_w11 : ∀ o, w11.cell? ⟨w2.heap.size, o, none⟩ = (#[.int .i64 m.c, .int .i64 m.d, .int .i64 m.s, .int .i64 m.e, .int .i64 m.l, .slice ua T.length uc] : Array Value)[o]? := fun o => by rw [(bcell hb).1 _ _ (by omega), hxb_w10]
 have hxbb_w11 : ∀ o, w11.cell? ⟨w6.heap.size, o, none⟩ = (#[.int .i64 mb.c, .int .i64 mb.d, .int .i64 mb.s, .int .i64 mb.e, .int .i64 mb.l, .slice uab Tb.length ucb] : Array Value)[o]? := fun o => by rw [(bcell hb).1 _ _ (by omega), hxbb_w10]
 have hz_w11 := hb.size
 have HVx := Lib.hid (HV.out.below hb); clear HV; have HV := HVx; clear HVx
 have HTx := Lib.hid (HT.out.below hb); clear HT; have HT := HTx; clear HTx
 have HCx := Lib.hid (HC.out.below hb); clear HC; have HC := HCx; clear HCx
 have HR1x := Lib.hid (HR1.out.below hb); clear HR1; have HR1 := HR1x; clear HR1x
 have HR2x := Lib.hid (HR2.out.below hb); clear HR2; have HR2 := HR2x; clear HR2x
 have HTbx := Lib.hid (HTb.out.below hb); clear HTb; have HTb := HTbx; clear HTbx
 have HCbx := Lib.hid (HCb.out.below hb); clear HCb; have HCb := HCbx; clear HCbx
 have HXbx := Lib.hid (HXb.out.below hb); clear HXb; have HXb := HXbx; clear HXbx
 have HBx := Lib.hid (HB.out.trans (hb.mono (by omega))); clear HB; have HB := HBx; clear HBx
 clear hxb_w10
 clear hxbb_w10
 clear hb
 go_wp2_with fail
 refine (likeLists_w _ _ (A.1) (A.1) _ true (decide_eq_true rfl) HR1.out HR2.out).mono ?_
 rintro e' w12 ⟨rfl, hb⟩
 have hxb_w12 : ∀ o, w12.cell? ⟨w2.heap.size, o, none⟩ = (#[.int .i64 m.c, .int .i64 m.d, .int .i64 m.s, .int .i64 m.e, .int .i64 m.l, .slice ua T.length uc] : Array Value)[o]? := fun o => by rw [(bcell hb).1 _ _ (by omega), hxb_w11]
 have hxbb_w12 : ∀ o, w12.cell? ⟨w6.heap.size, o, none⟩ = (#[.int .i64 mb.c, .int .i64 mb.d, .int .i64 mb.s, .int .i64 mb.e, .int .i64 mb.l, .slice uab Tb.length ucb] : Array Value)[o]? := fun o => by rw [(bcell hb).1 _ _ (by omega), hxbb_w11]
 have hz_w12 := hb.size
 have HVx := Lib.hid (HV.out.below hb); clear HV; have HV := HVx; clear HVx
 have HTx := Lib.hid (HT.out.below hb); clear HT; have HT := HTx; clear HTx
 have HCx := Lib.hid (HC.out.below hb); clear HC; have HC := HCx; clear HCx
 have HR1x := Lib.hid (HR1.out.below hb); clear HR1; have HR1 := HR1x; clear HR1x
 have HR2x := Lib.hid (HR2.out.below hb); clear HR2; have HR2 := HR2x; clear HR2x
 have HTbx := Lib.hid (HTb.out.below hb); clear HTb; have HTb := HTbx; clear HTbx
 have HCbx := Lib.hid (HCb.out.below hb); clear HCb; have HCb := HCbx; clear HCbx
 have HXbx := Lib.hid (HXb.out.below hb); clear HXb; have HXb := HXbx; clear HXbx
 have HBx := Lib.hid (HB.out.trans (hb.mono (by omega))); clear HB; have HB := HBx; clear HBx
 clear hxb_w11
 clear hxbb_w11
 clear hb
 by_cases hp : A.2 = 0
 rotate_left
 ·have hpd : (A.2 != 0) = true := by simp [hp]
  go_wp2_with fail
  go_ret
  exact ⟨rfl, HB.out⟩
 have hpd : (A.2 != 0) = false := by simp [hp]
 have hlaw := sev_law (m := m) (t := T) (cuts := cuts) (l := A.1) (most := n) (by rw [EA.out]; exact Prod.ext rfl hp)
 rw [ED.out, ES.out] at hlaw
 have hal := HR1.out.len
 have hall : A.1.length ≤ 9223372036854775807 := by unfold maxLen at hal; omega
 have HLw := Lib.hid (And.intro hlaw hall); clear hlaw hall hal hp
 go_wp2_with fail
 go_loopw [21, 22, 23, 24] (fun lv iv _ _ wr => ∃ k : Nat, k ≤ A.1.length ∧ iv = .int .i64 (k : Int) ∧ lv = .int .i64 (lastSev m T cuts A.1 D.1 k) ∧ Below w12.heap.size w12 wr) (fun _ iv _ _ _ => A.1.length - (intOf iv).toNat)
 case atStart => exact ⟨0, Nat.zero_le _, rfl, rfl, Below.refl _ _⟩
 case round =>
  obtain ⟨k, hk, rfl, rfl, hbr⟩ := hrel
  have Hbr := Lib.hid hbr
  obtain ⟨wA, rfl⟩ : ∃ x, x = wr := ⟨_, rfl⟩
  have hxb_wA : ∀ o, wA.cell? ⟨w2.heap.size, o, none⟩ = (#[.int .i64 m.c, .int .i64 m.d, .int .i64 m.s, .int .i64 m.e, .int .i64 m.l, .slice ua T.length uc] : Array Value)[o]? := fun o => by rw [(bcell hbr).1 _ _ (by omega), hxb_w12]
  have hxbb_wA : ∀ o, wA.cell? ⟨w6.heap.size, o, none⟩ = (#[.int .i64 mb.c, .int .i64 mb.d, .int .i64 mb.s, .int .i64 mb.e, .int .i64 mb.l, .slice uab Tb.length ucb] : Array Value)[o]? := fun o => by rw [(bcell hbr).1 _ _ (by omega), hxbb_w12]
  have hz_wA := hbr.size
  have HVx := Lib.hid (HV.out.below hbr); clear HV; have HV := HVx; clear HVx
  have HTx := Lib.hid (HT.out.below hbr); clear HT; have HT := HTx; clear HTx
  have HCx := Lib.hid (HC.out.below hbr); clear HC; have HC := HCx; clear HCx
  have HR1x := Lib.hid (HR1.out.below hbr); clear HR1; have HR1 := HR1x; clear HR1x
  have HR2x := Lib.hid (HR2.out.below hbr); clear HR2; have HR2 := HR2x; clear HR2x
  have HTbx := Lib.hid (HTb.out.below hbr); clear HTb; have HTb := HTbx; clear HTbx
  have HCbx := Lib.hid (HCb.out.below hbr); clear HCb; have HCb := HCbx; clear HCbx
  have HXbx := Lib.hid (HXb.out.below hbr); clear HXb; have HXb := HXbx; clear HXbx
  have HBx := Lib.hid (HB.out.trans (hbr.mono (by omega))); clear HB; have HB := HBx; clear HBx
  clear hxb_w12
  clear hxbb_w12
  clear hbr
  by_cases hkk : k < A.1.length
  ·skip
   have hkd : decide (k < A.1.length) = true := decide_eq_true hkk
   have hkd2 : decide ((k : Int) < (A.1.length : Int)) = true := decide_eq_true (by omega)
   have hda := HLw.out.1.2.2.2.2 k hkk
   obtain ⟨d, hd1, hd2, hd3, hd4⟩ := hda
   have hlast : (d : Int) ≤ lastSev m T cuts A.1 D.1 k ∧ (k = 0 → (d : Int) = D.1) := by
    unfold lastSev
    refine ⟨?_, hd3⟩
    by_cases hk0 : k = 0
    ·rw [if_pos hk0, hd3 hk0]; exact Int.le_refl _
    ·rw [if_neg hk0]
     obtain ⟨d', h1, _, _, h4⟩ := HLw.out.1.2.2.2.2 (k - 1) (by omega)
     have h5 := h4 k hkk (by omega)
     rw [hd1] at h5
     rw [h1]
     exact h5
   have hnext : lastSev m T cuts A.1 D.1 (k + 1) = (d : Int) := by
    unfold lastSev
    rw [if_neg (by omega), Nat.add_sub_cancel, hd1]
   obtain ⟨lst, hlst⟩ : ∃ x, lastSev m T cuts A.1 D.1 k = x := ⟨_, rfl⟩
   rw [hlst] at hlast ⊢
   obtain ⟨bq, oq, qa, qc, rfl, _, hcq, hrow⟩ := HR1.out.cell hkk
   obtain ⟨L1, hL1⟩ : ∃ x, getl A.1 k = x := ⟨_, rfl⟩
   rw [hL1] at hd1 hcq hrow
   have Hda := Lib.hid (And.intro hd1 (And.intro hnext (And.intro hL1 (And.intro hlast hd2)))); clear hd1 hd2 hd3 hd4 hL1 hnext hlast hlst
   have HRow := Lib.hid hrow.any; clear hrow
   have hbD : Below wA.heap.size wA wA.drew := (Below.refl _ _).drew
   have hkn : ¬ A.1.length ≤ k := by omega
   have hS2 : ∀ w' : World, w'.heap[w2.heap.size]? = wA.heap[w2.heap.size]? → w'.heap[bq]? = wA.heap[bq]? → (w'.cell? ⟨w2.heap.size, 0, none⟩ = some (.int .i64 m.c) ∧ w'.cell? ⟨w2.heap.size, 1, none⟩ = some (.int .i64 m.d) ∧ w'.cell? ⟨w2.heap.size, 2, none⟩ = some (.int .i64 m.s) ∧ w'.cell? ⟨w2.heap.size, 3, none⟩ = some (.int .i64 m.e) ∧ w'.cell? ⟨w2.heap.size, 4, none⟩ = some (.int .i64 m.l) ∧ w'.cell? ⟨w2.heap.size, 5, none⟩ = some (.slice ua T.length uc)) ∧ w'.cell? ⟨bq, oq + k, none⟩ = some (.slice qa L1.length qc) := fun w' h1 h2 => ⟨by refine ⟨?_, ?_, ?_, ?_, ?_, ?_⟩ <;> exact cell_keep (hxb_wA _) h1, cell_keep hcq h2⟩
   go_wp2_with fail
   refine wp_region_noPanic ?_
   refine wp_region_held_drew (S := fun w' => (w'.cell? ⟨w2.heap.size, 0, none⟩ = some (.int .i64 m.c) ∧ w'.cell? ⟨w2.heap.size, 1, none⟩ = some (.int .i64 m.d) ∧ w'.cell? ⟨w2.heap.size, 2, none⟩ = some (.int .i64 m.s) ∧ w'.cell? ⟨w2.heap.size, 3, none⟩ = some (.int .i64 m.e) ∧ w'.cell? ⟨w2.heap.size, 4, none⟩ = some (.int .i64 m.l) ∧ w'.cell? ⟨w2.heap.size, 5, none⟩ = some (.slice ua T.length uc)) ∧ w'.cell? ⟨bq, oq + k, none⟩ = some (.slice qa L1.length qc)) (by kernel_rfl) (hS2 wA.drew rfl rfl) (fun hHeld => ?_)
   (refine wpAnyH_take (i := 0) (v := .agg #[.int .i64 m.c, .int .i64 m.d, .int .i64 m.s, .int .i64 m.e, .int .i64 m.l, .slice ua T.length uc]) rfl (by kernel_rfl) (by kernel_rfl) (by kernel_rfl) (fun _ _ _ h => h) (Or.inl ⟨by kernel_rfl, fun w hSw => by (try dsimp only at hSw); go_split_ands; go_simp⟩) (by assumption) ?_; simp only [Act.put, List.setIfInBounds_toArray, List.set_cons_zero, List.set_cons_succ])
   (refine wpAnyH_take (i := 1) (v := .slice ca cuts.length cc) rfl (by kernel_rfl) (by kernel_rfl) (by kernel_rfl) (fun _ _ _ h => h) (Or.inl ⟨by kernel_rfl, fun w hSw => by (try dsimp only at hSw); go_split_ands; go_simp⟩) (by assumption) ?_; simp only [Act.put, List.setIfInBounds_toArray, List.set_cons_zero, List.set_cons_succ])
   (refine wpAnyH_take (i := 2) (v := .slice (some ⟨bq, oq, none⟩) A.1.length rc1) rfl (by kernel_rfl) (by kernel_rfl) (by kernel_rfl) (fun _ _ _ h => h) (Or.inl ⟨by kernel_rfl, fun w hSw => by (try dsimp only at hSw); go_split_ands; go_simp⟩) (by assumption) ?_; simp only [Act.put, List.setIfInBounds_toArray, List.set_cons_zero, List.set_cons_succ])
   (refine wpAnyH_take (i := 3) (v := .int .i64 (k : Int)) rfl (by kernel_rfl) (by kernel_rfl) (by kernel_rfl) (fun _ _ _ h => h) (Or.inl ⟨by kernel_rfl, fun w hSw => by (try dsimp only at hSw); go_split_ands; go_simp⟩) (by assumption) ?_; simp only [Act.put, List.setIfInBounds_toArray, List.set_cons_zero, List.set_cons_succ])
   (refine wpAnyH_take (i := 4) (v := .pointer (some ⟨bq, oq + k, none⟩)) rfl (by kernel_rfl) (by kernel_rfl) (by kernel_rfl) (fun _ _ _ h => h) (Or.inl ⟨by kernel_rfl, fun w hSw => by (try dsimp only at hSw); go_split_ands; go_simp⟩) (by assumption) ?_; simp only [Act.put, List.setIfInBounds_toArray, List.set_cons_zero, List.set_cons_succ])
   (refine wpAnyH_take (i := 5) (v := .slice qa L1.length qc) rfl (by kernel_rfl) (by kernel_rfl) (by kernel_rfl) (fun _ _ _ h => h) (Or.inl ⟨by kernel_rfl, fun w hSw => by (try dsimp only at hSw); go_split_ands; go_simp⟩) (by assumption) ?_; simp only [Act.put, List.setIfInBounds_toArray, List.set_cons_zero, List.set_cons_succ])
   refine wpAnyH_ready (rs := [6]) (by kernel_rfl) (by simp) (AllReadyH.cons rfl (fun K hK => ?_) AllReadyH.nil)
   go_simp
   go_at_call 46
   refine (SeverityOf_any m _ _ _ T cuts L1 _ (HT.out.below hbD) (HC.out.below hbD) (HRow.out.below hbD)).mono ?_
   rintro e' w3 ⟨rfl, hb3⟩
   rw [Hda.out.1]
   have hb := hbD.trans (hb3.mono (Nat.le_refl _))
   have hbql := lt_of_cell hcq
   have hSz := hS2 w3 (hb.block _ (by omega)) (hb.block _ hbql)
   have Hb2 := Lib.hid hb
   clear hb3 hcq
   have hxb_w3 : ∀ o, w3.cell? ⟨w2.heap.size, o, none⟩ = (#[.int .i64 m.c, .int .i64 m.d, .int .i64 m.s, .int .i64 m.e, .int .i64 m.l, .slice ua T.length uc] : Array Value)[o]? := fun o => by rw [(bcell hb).1 _ _ (by omega), hxb_wA]
   have hxbb_w3 : ∀ o, w3.cell? ⟨w6.heap.size, o, none⟩ = (#[.int .i64 mb.c, .int .i64 mb.d, .int .i64 mb.s, .int .i64 mb.e, .int .i64 mb.l, .slice uab Tb.length ucb] : Array Value)[o]? := fun o => by rw [(bcell hb).1 _ _ (by omega), hxbb_wA]
   have hz_w3 := hb.size
   have HVx := Lib.hid (HV.out.below hb); clear HV; have HV := HVx; clear HVx
   have HTx := Lib.hid (HT.out.below hb); clear HT; have HT := HTx; clear HTx
   have HCx := Lib.hid (HC.out.below hb); clear HC; have HC := HCx; clear HCx
   have HR1x := Lib.hid (HR1.out.below hb); clear HR1; have HR1 := HR1x; clear HR1x
   have HR2x := Lib.hid (HR2.out.below hb); clear HR2; have HR2 := HR2x; clear HR2x
   have HTbx := Lib.hid (HTb.out.below hb); clear HTb; have HTb := HTbx; clear HTbx
   have HCbx := Lib.hid (HCb.out.below hb); clear HCb; have HCb := HCbx; clear HCbx
   have HXbx := Lib.hid (HXb.out.below hb); clear HXb; have HXb := HXbx; clear HXbx
   have HBx := Lib.hid (HB.out.trans (hb.mono (by omega))); clear HB; have HB := HBx; clear HBx
   clear hxb_wA
   clear hxbb_wA
   clear hb
   dsimp only
   (refine hK.out _ _ hSz (fun hHeld => ?_); clear hK K; (try simp only [Act.put, List.setIfInBounds_toArray, List.set_cons_zero, List.set_cons_succ]))
   (refine wpAnyH_take (i := 7) (v := .tuple #[.int .i64 (d : Int), .int .i64 0]) rfl (by kernel_rfl) (by kernel_rfl) (by kernel_rfl) (fun _ _ _ h => h) (Or.inl ⟨by kernel_rfl, fun w hSw => by (try dsimp only at hSw); go_split_ands; go_simp⟩) (by assumption) ?_; simp only [Act.put, List.setIfInBounds_toArray, List.set_cons_zero, List.set_cons_succ])
   (refine wpAnyH_take (i := 8) (v := .int .i64 (d : Int)) rfl (by kernel_rfl) (by kernel_rfl) (by kernel_rfl) (fun _ _ _ h => h) (Or.inl ⟨by kernel_rfl, fun w hSw => by (try dsimp only at hSw); go_split_ands; go_simp⟩) (by assumption) ?_; simp only [Act.put, List.setIfInBounds_toArray, List.set_cons_zero, List.set_cons_succ])
   (refine wpAnyH_take (i := 9) (v := .int .i64 0) rfl (by kernel_rfl) (by kernel_rfl) (by kernel_rfl) (fun _ _ _ h => h) (Or.inl ⟨by kernel_rfl, fun w hSw => by (try dsimp only at hSw); go_split_ands; go_simp⟩) (by assumption) ?_; simp only [Act.put, List.setIfInBounds_toArray, List.set_cons_zero, List.set_cons_succ])
   (refine wpAnyH_ready (rs := [10]) (by kernel_rfl) (by simp) (AllReadyH.cons rfl (fun K hK => ?_) AllReadyH.nil); go_simp)
   (refine hK.out _ _ hSz (fun hHeld => ?_); clear hK K; (try simp only [Act.put, List.setIfInBounds_toArray, List.set_cons_zero, List.set_cons_succ]))
   (refine wpAnyH_ready (rs := [11]) (by kernel_rfl) (by simp) (AllReadyH.cons rfl (fun K hK => ?_) AllReadyH.nil); go_simp)
   (refine hK.out _ _ hSz (fun hHeld => ?_); clear hK K; (try simp only [Act.put, List.setIfInBounds_toArray, List.set_cons_zero, List.set_cons_succ]))
   refine wpAnyH_done (by kernel_rfl) (NoPanic.normal ?_) _
   clear hHeld hSz hS2 hbD
   have hq1 : decide ((d : Int) > lst) = false := decide_eq_false (by have := Hda.out.2.2.2.1.1; omega)
   have hq1' : decide (lst < (d : Int)) = false := hq1
   have hq2 : decide ((d : Int) < 1) = false := decide_eq_false (by have := Hda.out.2.2.2.2; omega)
   have hq2' : decide (d < 1) = false := decide_eq_false (by have := Hda.out.2.2.2.2; omega)
   have hq2'' : (d == 0) = false := beq_eq_false_iff_ne.2 (by have := Hda.out.2.2.2.2; omega)
   by_cases hk0 : k = 0
   ·have hdD := Hda.out.2.2.2.1.2 hk0
    have hdd : ((d : Int) != D.1) = false := by rw [hdD]; simp
    have Hk0 := Lib.hid (And.intro hk0 hdD); clear hdD
    subst hk0
    go_wp2_with fail
    go_roundw
    case rel => exact ⟨0 + 1, by omega, by go_num, by rw [Hda.out.2.1], Hbr.out.trans (Hb2.out.mono (by omega))⟩
    case measure => simp [intOf]; omega
   ·have hk0b : (k == 0) = false := beq_eq_false_iff_ne.2 hk0
    have hk0c : ((k : Int) == 0) = false := beq_eq_false_iff_ne.2 (by omega)
    go_wp2_with fail
    go_roundw
    case rel => exact ⟨k + 1, by omega, by go_num, by rw [Hda.out.2.1], Hbr.out.trans (Hb2.out.mono (by omega))⟩
    case measure => simp [intOf]; omega
  ·skip
   have hkd : decide (k < A.1.length) = false := decide_eq_false hkk
   have hkd2 : decide ((k : Int) < (A.1.length : Int)) = false := decide_eq_false (by omega)
   have hkl : A.1.length ≤ k := by omega
   go_wp2_with fail
   refine (CountSystemGhosts_any m _ _ T cuts _ HT.out HC.out).mono ?_
   rintro e' w13 ⟨rfl, hb⟩
   rw [ES.out]
   have hxb_w13 : ∀ o, w13.cell? ⟨w2.heap.size, o, none⟩ = (#[.int .i64 m.c, .int .i64 m.d, .int .i64 m.s, .int .i64 m.e, .int .i64 m.l, .slice ua T.length uc] : Array Value)[o]? := fun o => by rw [(bcell hb).1 _ _ (by omega), hxb_wA]
   have hxbb_w13 : ∀ o, w13.cell? ⟨w6.heap.size, o, none⟩ = (#[.int .i64 mb.c, .int .i64 mb.d, .int .i64 mb.s, .int .i64 mb.e, .int .i64 mb.l, .slice uab Tb.length ucb] : Array Value)[o]? := fun o => by rw [(bcell hb).1 _ _ (by omega), hxbb_wA]
   have hz_w13 := hb.size
   have HVx := Lib.hid (HV.out.below hb); clear HV; have HV := HVx; clear HVx
   have HTx := Lib.hid (HT.out.below hb); clear HT; have HT := HTx; clear HTx
   have HCx := Lib.hid (HC.out.below hb); clear HC; have HC := HCx; clear HCx
   have HR1x := Lib.hid (HR1.out.below hb); clear HR1; have HR1 := HR1x; clear HR1x
   have HR2x := Lib.hid (HR2.out.below hb); clear HR2; have HR2 := HR2x; clear HR2x
   have HTbx := Lib.hid (HTb.out.below hb); clear HTb; have HTb := HTbx; clear HTbx
   have HCbx := Lib.hid (HCb.out.below hb); clear HCb; have HCb := HCbx; clear HCbx
   have HXbx := Lib.hid (HXb.out.below hb); clear HXb; have HXb := HXbx; clear HXbx
   have HBx := Lib.hid (HB.out.trans (hb.mono (by omega))); clear HB; have HB := HBx; clear HBx
   clear hxb_wA
   clear hxbb_wA
   clear hb
   have hS2 : (S.2 == 0) = true := beq_iff_eq.2 HLw.out.1.2.2.1
   have hmin : ((A.1.length : Int) == min n S.1) = true := beq_iff_eq.2 HLw.out.1.2.2.2.1
   have hmin2 : ((A.1.length : Int) == if n ≤ S.1 then n else S.1) = true := by rw [← hmin]; rfl
   go_wp2_with fail
   go_ret
   exact ⟨rfl, HB.out⟩
end Go.Proofs.YtmjplkbmhdkggaaGreat
