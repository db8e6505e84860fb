/- The walk of 'laws.FnExactDesignsOf'. No conditions. -/
import Derived.Test.YtikdbjaimcciiaaGreatOpen
import Derived.Test.YtikdbjaimcciiaaGreatHeld
import Derived.Test.YtikdbjaimcciiaaGreatRange
import Derived.Test.YtikdbjaimcciiaaGreatDesR
namespace Go.Proofs.YtikdbjaimcciiaaGreat
open Go.RowKit
set_option linter.unusedVariables false
set_option linter.unusedSimpArgs false

set_option maxHeartbeats 2000000 in
set_option maxRecDepth 100000 in
theorem fnExactDesignsOf_walk (W : World) (a b c d e : Int) (u : Value) (t : List (List Int)) (hk5 : i64ok a ∧ i64ok b ∧ i64ok c ∧ i64ok d ∧ i64ok e) (h : V2 (Old W) W u t) (hk : ∀ r ∈ t, ∀ n ∈ r, i64ok n) (n1 : Int) (hkn1 : i64ok n1) (n2 : Int) (hkn2 : i64ok n2) :
    Calls Tryz.prog 5 #[.agg #[.int .i64 a, .int .i64 b, .int .i64 c, .int .i64 d, .int .i64 e, u], .int .i64 n1, .int .i64 n2] W fun e' w' => e' = .returned (.bool true) ∧ Below W.heap.size W w' := by
  clear hk hk5 hkn1 hkn2
  have hV := h
  obtain ⟨ua, uc, rfl, hm⟩ := h.form
  obtain ⟨W1, hW1, hB01, hz01, HZ01, hc01, hh01⟩ := box_facts W #[.int .i64 a, .int .i64 b, .int .i64 c, .int .i64 d, .int .i64 e, .slice ua t.length uc] 46
  have hV1 := hV.below hB01
  have hle := szL_le (ls := t) (left := 1048576) (by omega)
  by_cases hs0 : szL t 1048576 < 0
  · skip
    go_enter Tryz.func5, Tryz.ntmps5
    go_wp2_with fail
    rw [← hW1]
    refine (szSystem_any ⟨a, b, c, d, e⟩ _ t _ _ hV1 (by omega) (by omega)).mono ?_
    rintro e' w2 ⟨rfl, hB2⟩
    clear hc01 hh01
    go_wp2_with fail
    go_ret
    exact ⟨rfl, hB01.trans (hB2.mono (by omega))⟩
  have hok := szL_ok (ls := t) (left := 1048576) (by omega) (by omega)
  have hlen : t.length ≤ 1048576 := by omega
  have hrow : ∀ r ∈ t, r.length ≤ 1048576 := fun r hr => by have := hok.2 r hr; omega
  have Hrow := Lib.hid hrow; clear hrow hok
  obtain ⟨left0, hleft0⟩ : ∃ x, szL t 1048576 = x := ⟨_, rfl⟩
  rw [hleft0] at hs0 hle
  have hal := desAns_len ⟨a, b, c, d, e⟩ t n1 n2
  obtain ⟨ans, hLA⟩ : ∃ r, desAns ⟨a, b, c, d, e⟩ t n1 n2 = r := ⟨_, rfl⟩
  rw [hLA] at hal
  have HLA := Lib.hid hLA; clear hLA
  have Hal := Lib.hid hal; clear hal
  go_enter Tryz.func5, Tryz.ntmps5
  go_wp2_with fail
  rw [← hW1]
  refine (szSystem_any ⟨a, b, c, d, e⟩ _ t _ _ hV1 (by omega) (by omega)).mono ?_
  rintro e' w2 ⟨rfl, hB2⟩
  rw [hleft0]
  have hx2 : ∀ o, (w2).cell? ⟨W.heap.size, o, none⟩ = (#[.int .i64 a, .int .i64 b, .int .i64 c, .int .i64 d, .int .i64 e, .slice ua t.length uc] : Array Value)[o]? := fun o => by rw [(bcell hB2).1 _ _ hz01, hc01]
  have Hc01 := Lib.hid hc01; clear hc01
  have HW1 := Lib.hid hW1; clear hW1
  clear hh01
  clear hleft0 hle
  go_wp2_with fail
  refine (toSystem_any ⟨a, b, c, d, e⟩ _ t _ (hV1.below hB2) hlen Hrow.out).mono ?_
  rintro e' w3 ⟨u_ps, rfl, hF_ps, hb_w3⟩
  clear hx2
  have hB_w3 := hB2.trans (hb_w3.mono hB2.size)
  have Hps := Lib.hid (XR2.of_F2 hF_ps); clear hF_ps
  clear hs0
  go_wp2_with fail
  refine (DesignsOfR_any ⟨a, b, c, d, e⟩ _ t n1 n2 _ (Hps.out.v2)).mono ?_
  rintro e' w4 ⟨r_p, rfl, hR_p, hb_w4⟩
  rw [HLA.out] at hR_p ⊢
  have hB_w4 := hB_w3.trans (hb_w4.mono hB_w3.size)
  have Hpsx := Lib.hid (Hps.out.below hb_w4)
  clear Hps
  have HW := Lib.hid hR_p; clear hR_p
  clear Hpsx
  have hxS : ∀ o, w4.cell? ⟨W.heap.size, o, none⟩ = (#[.int .i64 a, .int .i64 b, .int .i64 c, .int .i64 d, .int .i64 e, .slice ua t.length uc] : Array Value)[o]? := fun o => by rw [(bcell hB_w4).1 _ _ hz01, Hc01.out]
  go_wp2_with fail
  refine (toSystem_any ⟨a, b, c, d, e⟩ _ t _ (hV1.below hB_w4) hlen Hrow.out).mono ?_
  rintro e' w5 ⟨u_qs, rfl, hF_qs, hb_w5⟩
  clear hxS
  have hB_w5 := hB_w4.trans (hb_w5.mono hB_w4.size)
  have HWx := Lib.hid (HW.out.below hb_w5)
  clear HW
  have Hqs := Lib.hid (XR2.of_F2 hF_qs); clear hF_qs
  obtain ⟨fa_qs, fc_qs, rfl⟩ := Hqs.out.form
  go_wp2_with fail
  obtain ⟨w6, hW_w6, hb_w6, hz_w6, HZ_w6, hc_w6, _⟩ := box_facts w5 #[.int .i64 a, .int .i64 b, .int .i64 c, .int .i64 d, .int .i64 e, .slice fa_qs t.length fc_qs] 28
  rw [← hW_w6]
  have HW_w6 := Lib.hid hW_w6; clear hW_w6
  have hB_w6 := hB_w5.trans (hb_w6.mono hB_w5.size)
  have HWxx := Lib.hid (HWx.out.below hb_w6)
  clear HWx
  have Hqsx := Lib.hid (Hqs.out.below hb_w6)
  clear Hqs
  have Hc_b := Lib.hid hc_w6; clear hc_w6
  have hbb_w6 : Below w6.heap.size w6 w6 := Below.refl _ _
  have hzS6 : w4.heap.size ≤ w5.heap.size := hb_w5.size
  have hz6b : w5.heap.size ≤ w6.heap.size := hb_w6.size
  have hy1 : ∀ o, w6.cell? ⟨w5.heap.size, o, none⟩ = (#[.int .i64 a, .int .i64 b, .int .i64 c, .int .i64 d, .int .i64 e, .slice fa_qs t.length fc_qs] : Array Value)[o]? := fun o => by rw [(bcell hbb_w6).1 _ _ hz_w6, Hc_b.out]
  refine (DesignsOf_any ⟨a, b, c, d, e⟩ _ t n1 n2 _ (Hqsx.out.v2)).mono ?_
  rintro e' w7 ⟨r_q, rfl, hR_q, hb_w7⟩
  rw [HLA.out] at hR_q ⊢
  have hB_w7 := hB_w6.trans (hb_w7.mono hB_w6.size)
  have HWxxx := Lib.hid (HWxx.out.below hb_w7)
  clear HWxx
  have Hqsxx := Lib.hid (Hqsx.out.below hb_w7)
  clear Hqsx
  have HGq := Lib.hid (XR3.of_F3 hR_q); clear hR_q
  have hbb_w7 := hbb_w6.trans (hb_w7.mono hbb_w6.size)
  clear hy1
  obtain ⟨fa_Gq, fc_Gq, rfl⟩ := HGq.out.form
  have hzI : w6.heap.size ≤ w7.heap.size := hb_w7.size
  go_wp2_with fail
  refine (eqInt64SSS_b _ _ ans.1 ans.1 _ true (by simp) (HGq.out.v3) HWxxx.out).mono ?_
  rintro e' w8 ⟨rfl, nq_w8, hw_w8⟩
  have hb_w8 : Below w7.heap.size w7 w8 := by rw [hw_w8]; exact below_drewN (Below.refl _ _) _
  clear hw_w8
  have hB_w8 := hB_w7.trans (hb_w8.mono hB_w7.size)
  have HWxxxx := Lib.hid (HWxxx.out.below hb_w8)
  clear HWxxx
  have Hqsxxx := Lib.hid (Hqsxx.out.below hb_w8)
  clear Hqsxx
  have HGqx := Lib.hid (HGq.out.below hb_w8)
  clear HGq
  have hbb_w8 := hbb_w7.trans (hb_w8.mono hbb_w7.size)
  have hxx : ∀ o, w8.cell? ⟨W.heap.size, o, none⟩ = (#[.int .i64 a, .int .i64 b, .int .i64 c, .int .i64 d, .int .i64 e, .slice ua t.length uc] : Array Value)[o]? := fun o => by rw [(bcell hB_w8).1 _ _ hz01, Hc01.out]
  have hyx : ∀ o, w8.cell? ⟨w5.heap.size, o, none⟩ = (#[.int .i64 a, .int .i64 b, .int .i64 c, .int .i64 d, .int .i64 e, .slice fa_qs t.length fc_qs] : Array Value)[o]? := fun o => by rw [(bcell hbb_w8).1 _ _ hz_w6, Hc_b.out]
  have hV1x := (hV1.below hB_w8).any
  have hzz : W.heap.size < w8.heap.size ∧ w5.heap.size < w8.heap.size := by have := hB_w8.size; have := hbb_w8.size; omega
  have hV6x := Hqsxxx.out.v2
  go_wp2_with fail
  go_region_held3 (fun w' => (∀ o, w'.cell? ⟨W.heap.size, o, none⟩ = (#[.int .i64 a, .int .i64 b, .int .i64 c, .int .i64 d, .int .i64 e, .slice ua t.length uc] : Array Value)[o]?) ∧ (∀ o, w'.cell? ⟨w5.heap.size, o, none⟩ = (#[.int .i64 a, .int .i64 b, .int .i64 c, .int .i64 d, .int .i64 e, .slice fa_qs t.length fc_qs] : Array Value)[o]?) ∧ Below w8.heap.size w8 w')
    (first | exact two_keep (by assumption) (by assumption) (by assumption) | exact ⟨hxx, hyx, (Below.refl _ _).drew⟩)
    (first | (go_at_call 29; refine (toSystem_any ⟨a, b, c, d, e⟩ _ t _ (hV1x.below (two_below (by assumption))) hlen Hrow.out).mono ?_; rintro e' wp ⟨vp, rfl, hFp, hb⟩) | (go_at_call 33; refine (eqSystem_b ⟨a, b, c, d, e⟩ ⟨a, b, c, d, e⟩ _ _ t t _ true (by simp [eqMk_self]) (hV6x.below (two_below (by assumption))) (F2.v2 (by assumption))).mono ?_; rintro e' wq ⟨rfl, hb⟩))
  obtain ⟨w9, rfl⟩ : ∃ x, x = wq := ⟨_, rfl⟩
  have hb_w9 := two_below (w0 := w8) (by assumption)
  have hB_w9 := hB_w8.trans (hb_w9.mono hB_w8.size)
  have HWxxxxx := Lib.hid (HWxxxx.out.below hb_w9)
  clear HWxxxx
  have Hqsxxxx := Lib.hid (Hqsxxx.out.below hb_w9)
  clear Hqsxxx
  have HGqxx := Lib.hid (HGqx.out.below hb_w9)
  clear HGqx
  have hbb_w9 := hbb_w8.trans (hb_w9.mono hbb_w8.size)
  clear hV6x hV1x
  have hyB : ∀ o, w9.cell? ⟨w5.heap.size, o, none⟩ = (#[.int .i64 a, .int .i64 b, .int .i64 c, .int .i64 d, .int .i64 e, .slice fa_qs t.length fc_qs] : Array Value)[o]? := fun o => by rw [(bcell hbb_w9).1 _ _ hz_w6, Hc_b.out]
  have ht0 := totSmall hlen Hrow.out
  have ht0l := ht0 t.length (Nat.le_refl _)
  have Ht0 := Lib.hid ht0; clear ht0
  have hzW1 := hB_w4.size
  have hzc := hB_w9.size
  have hzcb := hbb_w9.size
  go_wp2_with fail
  refine (markSystem_r w4.heap.size w5.heap.size ⟨a, b, c, d, e⟩ _ t _ _ Hqsxxxx.out (by omega) (fun j hj => by have := Ht0.out j hj; omega) (by omega)).mono ?_
  rintro e' w10 ⟨rfl, hM_w10, hc_w10⟩
  clear Hqsxxxx
  have HWxxxxxx := Lib.hid (HWxxxxx.out.chgR hc_w10 (by omega))
  clear HWxxxxx
  have HGqxxx := Lib.hid (HGqxx.out.chg hc_w10 (by omega))
  clear HGqxx
  have hB_w10 := Chg.belowR hc_w10 hB_w9 (by omega) (Nat.le_refl _)
  have hzc_w10 := hc_w10.size
  clear hyB hM_w10
  obtain ⟨q0, hq0⟩ : ∃ q, (1 + (totTo t t.length : Int)) = q := ⟨_, rfl⟩
  rw [hq0]
  have hq0b : 1 ≤ q0 ∧ q0 ≤ 1099511627777 := by omega
  clear hq0
  go_wp2_with fail
  refine (eqInt64SSS_b _ _ ans.1 ans.1 _ true (by simp) (HGqxxx.out.v3) HWxxxxxx.out).mono ?_
  rintro e' w11 ⟨rfl, nq_w11, hw_w11⟩
  have hb_w11 : Below w10.heap.size w10 w11 := by rw [hw_w11]; exact below_drewN (Below.refl _ _) _
  clear hw_w11
  have hB_w11 := hB_w10.trans (hb_w11.mono hB_w10.size)
  have HWxxxxxxx := Lib.hid (HWxxxxxx.out.below hb_w11)
  clear HWxxxxxx
  have HGqxxxx := Lib.hid (HGqxxx.out.below hb_w11)
  clear HGqxxx
  have hal := Hal.out
  have htA := tot3_small hal.1 hal.2
  have htAl := htA ans.1.length (Nat.le_refl _)
  have HtA := Lib.hid htA; clear htA hal
  go_wp2_with fail
  refine (markInt64SSS_r w6.heap.size w7.heap.size _ ans.1 1 _ HGqxxxx.out (by omega) (fun j hj => by have := HtA.out j hj; omega)).mono ?_
  rintro e' w12 ⟨rfl, hM_w12, hc_w12⟩
  clear HGqxxxx
  have HWxxxxxxxx := Lib.hid (HWxxxxxxx.out.chgR hc_w12 (by omega))
  clear HWxxxxxxx
  have hB_w12 := Chg.belowR hc_w12 hB_w11 (by omega) (Nat.le_refl _)
  have hzc_w12 := hc_w12.size
  have HM := Lib.hid hM_w12; clear hM_w12
  go_wp2_with fail
  refine (heldInt64SSS_any _ ans.1 1 _ (HM.out.v3) (by omega) (fun j hj => by have := HtA.out j hj; omega)).mono ?_
  rintro e' w13 ⟨rfl, rfl⟩
  obtain ⟨qm, hqm⟩ : ∃ q, (1 + (tot3 ans.1 ans.1.length : Int)) = q := ⟨_, rfl⟩
  have hqmp : 0 ≤ qm := by omega
  rw [hqm]
  have Hqm := Lib.hid hqm; clear hqm
  have hxF : ∀ o, w12.cell? ⟨W.heap.size, o, none⟩ = (#[.int .i64 a, .int .i64 b, .int .i64 c, .int .i64 d, .int .i64 e, .slice ua t.length uc] : Array Value)[o]? := fun o => by rw [(bcell hB_w12).1 _ _ hz01, Hc01.out]
  go_wp2_with fail
  refine (toSystem_any ⟨a, b, c, d, e⟩ _ t _ (hV1.below hB_w12) hlen Hrow.out).mono ?_
  rintro e' w14 ⟨u_hs, rfl, hF_hs, hb_w14⟩
  clear hxF
  have hB_w14 := hB_w12.trans (hb_w14.mono hB_w12.size)
  have HWxxxxxxxxx := Lib.hid (HWxxxxxxxx.out.below hb_w14)
  clear HWxxxxxxxx
  have HMx := Lib.hid (HM.out.below hb_w14)
  clear HM
  have Hhs := Lib.hid (XR2.of_F2 hF_hs); clear hF_hs
  go_wp2_with fail
  refine (DesignsOf_any ⟨a, b, c, d, e⟩ _ t n1 n2 _ (Hhs.out.v2)).mono ?_
  rintro e' w15 ⟨r_h, rfl, hR_h, hb_w15⟩
  rw [HLA.out] at hR_h ⊢
  have hB_w15 := hB_w14.trans (hb_w15.mono hB_w14.size)
  have HWxxxxxxxxxx := Lib.hid (HWxxxxxxxxx.out.below hb_w15)
  clear HWxxxxxxxxx
  have HMxx := Lib.hid (HMx.out.below hb_w15)
  clear HMx
  have Hhsx := Lib.hid (Hhs.out.below hb_w15)
  clear Hhs
  have HGh := Lib.hid (XR3.of_F3 hR_h); clear hR_h
  clear Hhsx
  go_wp2_with fail
  refine (eqInt64SSS_b _ _ ans.1 ans.1 _ true (by simp) (HGh.out.v3) HWxxxxxxxxxx.out).mono ?_
  rintro e' w16 ⟨rfl, nq_w16, hw_w16⟩
  have hb_w16 : Below w15.heap.size w15 w16 := by rw [hw_w16]; exact below_drewN (Below.refl _ _) _
  clear hw_w16
  have hB_w16 := hB_w15.trans (hb_w16.mono hB_w15.size)
  have HWxxxxxxxxxxx := Lib.hid (HWxxxxxxxxxx.out.below hb_w16)
  clear HWxxxxxxxxxx
  have HMxxx := Lib.hid (HMxx.out.below hb_w16)
  clear HMxx
  have HGhx := Lib.hid (HGh.out.below hb_w16)
  clear HGh
  go_wp2_with fail
  refine (heldInt64SSS_any _ ans.1 1 _ (HMxxx.out.v3) (by omega) (fun j hj => by have := HtA.out j hj; omega)).mono ?_
  rintro e' w17 ⟨rfl, rfl⟩
  rw [Hqm.out]
  go_wp2_with fail
  go_ret
  exact ⟨rfl, hB01.trans (hB_w16.mono (by omega))⟩
end Go.Proofs.YtikdbjaimcciiaaGreat
