/- The walk of 'laws.FnExactParseSteps'. Conditions: what the library's variables hold. -/
import Derived.Test.YtmjplkbmhdkggaaDoorMLib
import Derived.Test.YtmjplkbmhdkggaaDoorMPsJ
namespace Go.Proofs.YtmjplkbmhdkggaaDoor
open Go.RowKit
set_option linter.unusedVariables false
set_option linter.unusedSimpArgs false
theorem psAns_len (t : List UInt8) : (psAns t).1.length ≤ t.length + 1 := by
 unfold psAns
 split
 ·simp
 ·split
  ·simp
  ·split
   ·simp
   ·rw [out_len]; exact split_len 32 t
set_option maxRecDepth 100000 in
set_option maxHeartbeats 2000000 in
theorem fnExactParseSteps_walk (W : World) (t : List UInt8) (hE : Env W) :
  Calls Tryd.prog 4 #[.string (bs t)] W fun e' w' => e' = .returned (.bool true) ∧ Below W.heap.size W w' := by
 have hsz : (bs t).size = t.length := bs_size t
 by_cases hl : t.length ≤ 1048576
 ·have hd : decide (1048576 < (t.length : Int)) = false := decide_eq_false (by omega)
  have hal := psAns_len t
  have hR := fun w => ParseStepsR_any t w hl
  have hI := fun w hE => ParseSteps_any t w hl hE
  obtain ⟨ans, hans⟩ : ∃ r, psAns t = r := ⟨_, rfl⟩
  simp only [hans] at hal hR hI
  have Hc := Lib.hid (And.intro hR (And.intro hI hE)); clear hR hI hE hans
  go_enter Tryd.func4, Tryd.ntmps4
  go_wp2_with fail
  refine (Hc.out.1 _).mono ?_
  rintro e' w1 ⟨v1, rfl, hF1, hB_w1⟩
  have HW := Lib.hid hF1.vs.old; clear hF1
  go_wp2_with fail
  refine (Hc.out.2.1 _ (Hc.out.2.2.below hB_w1)).mono ?_
  rintro e' w2 ⟨v2, rfl, hF2, hb_w2⟩
  have hB_w2 := hB_w1.trans (hb_w2.mono hB_w1.size)
  have HWx := Lib.hid (HW.out.below hb_w2); clear HW
  have HGq := Lib.hid (XRS.of_FS hF2); clear hF2
  obtain ⟨fa_Gq, fc_Gq, rfl⟩ := HGq.out.form
  have hz12 := hb_w2.size
  have hzW1 := hB_w1.size
  go_wp2_with fail
  refine (eqStepS_b _ _ ans.1 ans.1 _ true (by simp) (HGq.out.vs) HWx.out).mono ?_
  rintro e' w3 ⟨rfl, hb_w3⟩
  have hB_w3 := hB_w2.trans (hb_w3.mono hB_w2.size)
  have HWxx := Lib.hid (HWx.out.below hb_w3); clear HWx
  have HGqx := Lib.hid (HGq.out.below hb_w3); clear HGq
  have hz3 := hb_w3.size
  go_wp2_with fail
  refine (markStepS_r w1.heap.size w2.heap.size _ ans.1 1 _ HGqx.out (by omega) (by omega)).mono ?_
  rintro e' w4 ⟨rfl, hM_w4, hc_w4⟩
  clear HGqx
  have HWxxx := Lib.hid (HWxx.out.chgR hc_w4 (by omega)); clear HWxx
  have hB_w4 := Chg.belowR hc_w4 hB_w3 (by omega) (Nat.le_refl _)
  have HM := Lib.hid hM_w4; clear hM_w4
  go_wp2_with fail
  refine (heldStepS_any _ ans.1.length 1 _ (HM.out.vs) (by omega) (by omega)).mono ?_
  rintro e' w5 ⟨rfl, rfl⟩
  obtain ⟨qm, hqm⟩ : ∃ q, (1 + 2 * (ans.1.length : Int)) = q := ⟨_, rfl⟩
  have hqmp : 0 ≤ qm := by omega
  rw [hqm]
  have Hqm := Lib.hid hqm; clear hqm
  go_wp2_with fail
  refine (Hc.out.2.1 _ (Hc.out.2.2.below hB_w4)).mono ?_
  rintro e' w6 ⟨v6, rfl, hF6, hb_w6⟩
  have hB_w6 := hB_w4.trans (hb_w6.mono hB_w4.size)
  have HWy := Lib.hid (HWxxx.out.below hb_w6); clear HWxxx
  have HMx := Lib.hid (HM.out.below hb_w6); clear HM
  have HGh := Lib.hid hF6.vs; clear hF6
  go_wp2_with fail
  refine (eqStepS_b _ _ ans.1 ans.1 _ true (by simp) HGh.out HWy.out).mono ?_
  rintro e' w7 ⟨rfl, hb_w7⟩
  have hB_w7 := hB_w6.trans (hb_w7.mono hB_w6.size)
  have HMxx := Lib.hid (HMx.out.below hb_w7); clear HMx
  go_wp2_with fail
  refine (heldStepS_any _ ans.1.length 1 _ (HMxx.out.vs) (by omega) (by omega)).mono ?_
  rintro e' w8 ⟨rfl, rfl⟩
  rw [Hqm.out]
  go_wp2_with fail
  go_ret
  exact ⟨rfl, hB_w7⟩
 ·have hd : decide (1048576 < (t.length : Int)) = true := decide_eq_true (by omega)
  clear hE
  go_enter Tryd.func4, Tryd.ntmps4
  go_wp2_with fail
  go_ret
  exact ⟨rfl, Below.refl _ _⟩
end Go.Proofs.YtmjplkbmhdkggaaDoor
