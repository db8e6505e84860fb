/- The walk of 'laws.FnExactWorstGhosts'. No conditions. -/
import Derived.Test.YtmjplkbmhdkggaaGreatMLib
import Derived.Test.YtmjplkbmhdkggaaGreatMSys2
import Derived.Test.YtmjplkbmhdkggaaGreatMWstO
import Derived.Test.YtmjplkbmhdkggaaGreatMDraw6
namespace Go.Proofs.YtmjplkbmhdkggaaGreat
open Go.RowKit
set_option linter.unusedVariables false
set_option linter.unusedSimpArgs false
set_option maxHeartbeats 2000000 in
set_option maxRecDepth 100000 in
theorem fnExactWorstGhosts_walk (W : World) (a b c d e : Int) (u : Value) (t : List (List Int)) (hk5 : i64ok a ∧ i64ok b ∧ i64ok c ∧ i64ok d ∧ i64ok e) (h : V2 (Old W) W u t) (hk : ∀ r ∈ t, ∀ n ∈ r, i64ok n)
  (v1 : Value) (l1 : List (List Int)) (hl1 : V2 (Old W) W v1 l1) (hkl1 : ∀ r ∈ l1, ∀ n ∈ r, i64ok n) (n2 : Int) (hkn2 : i64ok n2) :
  Calls Tryz.prog 3 #[.agg #[.int .i64 a, .int .i64 b, .int .i64 c, .int .i64 d, .int .i64 e, u], v1, .int .i64 n2] W fun e' w' => e' = .returned (.bool true) ∧ Below W.heap.size W w' := by
 clear hk hk5 hkl1 hkn2
 have hV := h
 obtain ⟨ua, uc, rfl, hm⟩ := h.form
 have hL1 := hl1
 obtain ⟨la1, lc1, rfl, hml1⟩ := hl1.form
 obtain ⟨W1, hW1, hB01, hz01, HZ01, hc01, hh01⟩ := box_facts W #[.int .i64 a, .int .i64 b, .int .i64 c, .int .i64 d, .int .i64 e, .slice ua t.length uc] 26
 have hV1 := hV.below hB01
 have hM1 := hL1.below hB01
 have hle := szL_le (ls := t) (left := 1048576) (by omega)
 by_cases hs0 : szL t 1048576 < 0
 ·skip
  go_enter Tryz.func3, Tryz.ntmps3
  go_wp2_with fail
  rw [← hW1]
  refine (szSystem_any ⟨a, b, c, d, e⟩ _ t _ _ hV1 (by omega) (by omega)).mono ?_
  rintro e' w2 ⟨rfl, hB2⟩
  clear hc01 hh01
  go_wp2_with fail
  go_ret
  exact ⟨rfl, hB01.trans (hB2.mono (by omega))⟩
 have hok := szL_ok (ls := t) (left := 1048576) (by omega) (by omega)
 have hlen : t.length ≤ 1048576 := by omega
 have hrow : ∀ r ∈ t, r.length ≤ 1048576 := fun r hr => by have := hok.2 r hr; omega
 have Hrow := Lib.hid hrow; clear hrow hok
 obtain ⟨left0, hleft0⟩ : ∃ x, szL t 1048576 = x := ⟨_, rfl⟩
 rw [hleft0] at hs0 hle
 have hle1 := szL_le (ls := l1) (left := left0) (by omega)
 by_cases hs1 : szL l1 left0 < 0
 ·skip
  go_enter Tryz.func3, Tryz.ntmps3
  go_wp2_with fail
  rw [← hW1]
  refine (szSystem_any ⟨a, b, c, d, e⟩ _ t _ _ hV1 (by omega) (by omega)).mono ?_
  rintro e' w2 ⟨rfl, hB2⟩
  clear hc01 hh01
  rw [hleft0]
  go_wp2_with fail
  refine (szInt64SS_any _ l1 _ _ (hM1.below hB2) (by omega) (by omega)).mono ?_
  rintro e' w2x1 ⟨rfl, rfl⟩
  go_wp2_with fail
  go_ret
  exact ⟨rfl, hB01.trans (hB2.mono (by omega))⟩
 have hok := szL_ok (ls := l1) (left := left0) (by omega) (by omega)
 have hlen1 : l1.length ≤ 1048576 := by omega
 have hrow : ∀ r ∈ l1, r.length ≤ 1048576 := fun r hr => by have := hok.2 r hr; omega
 have Hrow1 := Lib.hid hrow; clear hrow hok
 obtain ⟨left1, hleft1⟩ : ∃ x, szL l1 left0 = x := ⟨_, rfl⟩
 rw [hleft1] at hs1 hle1
 have hal := wghAns_len ⟨a, b, c, d, e⟩ t l1 n2
 obtain ⟨ans, hLA⟩ : ∃ r, wghAns ⟨a, b, c, d, e⟩ t l1 n2 = r := ⟨_, rfl⟩
 rw [hLA] at hal
 have HLA := Lib.hid hLA; clear hLA
 have Hal := Lib.hid hal; clear hal
 go_enter Tryz.func3, Tryz.ntmps3
 go_wp2_with fail
 rw [← hW1]
 refine (szSystem_any ⟨a, b, c, d, e⟩ _ t _ _ hV1 (by omega) (by omega)).mono ?_
 rintro e' w2 ⟨rfl, hB2⟩
 rw [hleft0]
 have hx2 : ∀ o, (w2).cell? ⟨W.heap.size, o, none⟩ = (#[.int .i64 a, .int .i64 b, .int .i64 c, .int .i64 d, .int .i64 e, .slice ua t.length uc] : Array Value)[o]? := fun o => by rw [(bcell hB2).1 _ _ hz01, hc01]
 have Hc01 := Lib.hid hc01; clear hc01
 have HW1 := Lib.hid hW1; clear hW1
 clear hh01
 go_wp2_with fail
 refine (szInt64SS_any _ l1 _ _ (hM1.below hB2) (by omega) (by omega)).mono ?_
 rintro e' w2x1 ⟨rfl, rfl⟩
 rw [hleft1]
 clear hleft0 hleft1 hle hle1
 go_wp2_with fail
 refine (toSystem_any ⟨a, b, c, d, e⟩ _ t _ (hV1.below hB2) hlen Hrow.out).mono ?_
 rintro e' w3 ⟨u_ps, rfl, hF_ps, hb_w3⟩
 clear hx2
 have hB_w3 := hB2.trans (hb_w3.mono hB2.size)
 have Hps := Lib.hid (XR2.of_F2 hF_ps); clear hF_ps
 clear hs0 hs1
 go_wp2_with fail
 refine (toInt64SS_any _ l1 _ (hM1.below hB_w3) hlen1 Hrow1.out).mono ?_
 rintro e' w4 ⟨u_p1, bk_p1, rfl, hX_p1, hg_p1, _, hb_w4⟩
 have hB_w4 := hB_w3.trans (hb_w4.mono hB_w3.size)
 have Hpsx := Lib.hid (Hps.out.below hb_w4)
 clear Hps
 have Hp1 := Lib.hid (XR2.of_copy hX_p1 hg_p1); clear hX_p1 hg_p1
 go_wp2_with fail
 refine (WorstGhostsR_any ⟨a, b, c, d, e⟩ _ _ t l1 n2 _ (Hpsx.out.v2) (Hp1.out.v2)).mono ?_
 rintro e' w5 ⟨r_p, rfl, hR_p, hb_w5⟩
 rw [HLA.out] at hR_p ⊢
 have hB_w5 := hB_w4.trans (hb_w5.mono hB_w4.size)
 have Hpsxx := Lib.hid (Hpsx.out.below hb_w5)
 clear Hpsx
 have Hp1x := Lib.hid (Hp1.out.below hb_w5)
 clear Hp1
 have HW := Lib.hid hR_p; clear hR_p
 clear Hpsxx
 clear Hp1x
 have hxS : ∀ o, w5.cell? ⟨W.heap.size, o, none⟩ = (#[.int .i64 a, .int .i64 b, .int .i64 c, .int .i64 d, .int .i64 e, .slice ua t.length uc] : Array Value)[o]? := fun o => by rw [(bcell hB_w5).1 _ _ hz01, Hc01.out]
 go_wp2_with fail
 refine (toSystem_any ⟨a, b, c, d, e⟩ _ t _ (hV1.below hB_w5) hlen Hrow.out).mono ?_
 rintro e' w6 ⟨u_qs, rfl, hF_qs, hb_w6⟩
 clear hxS
 have hB_w6 := hB_w5.trans (hb_w6.mono hB_w5.size)
 have HWx := Lib.hid (HW.out.below hb_w6)
 clear HW
 have Hqs := Lib.hid (XR2.of_F2 hF_qs); clear hF_qs
 obtain ⟨fa_qs, fc_qs, rfl⟩ := Hqs.out.form
 go_wp2_with fail
 obtain ⟨w7, hW_w7, hb_w7, hz_w7, HZ_w7, hc_w7, _⟩ := box_facts w6 #[.int .i64 a, .int .i64 b, .int .i64 c, .int .i64 d, .int .i64 e, .slice fa_qs t.length fc_qs] 33
 rw [← hW_w7]
 have HW_w7 := Lib.hid hW_w7; clear hW_w7
 have hB_w7 := hB_w6.trans (hb_w7.mono hB_w6.size)
 have HWxx := Lib.hid (HWx.out.below hb_w7)
 clear HWx
 have Hqsx := Lib.hid (Hqs.out.below hb_w7)
 clear Hqs
 have Hc_b := Lib.hid hc_w7; clear hc_w7
 have hbb_w7 : Below w7.heap.size w7 w7 := Below.refl _ _
 refine (toInt64SS_any _ l1 _ (hM1.below hB_w7) hlen1 Hrow1.out).mono ?_
 rintro e' w8 ⟨u_q1, bk_q1, rfl, hX_q1, hg_q1, _, hb_w8⟩
 have hB_w8 := hB_w7.trans (hb_w8.mono hB_w7.size)
 have HWxxx := Lib.hid (HWxx.out.below hb_w8)
 clear HWxx
 have Hqsxx := Lib.hid (Hqsx.out.below hb_w8)
 clear Hqsx
 have hbb_w8 := hbb_w7.trans (hb_w8.mono hbb_w7.size)
 have Hq1 := Lib.hid (XR2.of_copy hX_q1 hg_q1); clear hX_q1 hg_q1
 obtain ⟨fa_q1, fc_q1, rfl⟩ := Hq1.out.form
 have hzS6 : w5.heap.size ≤ w6.heap.size := hb_w6.size
 have hz6b : w6.heap.size ≤ w7.heap.size := hb_w7.size
 have hzz_w8 : w7.heap.size ≤ w8.heap.size := hb_w8.size
 have hy1 : ∀ o, w8.cell? ⟨w6.heap.size, o, none⟩ = (#[.int .i64 a, .int .i64 b, .int .i64 c, .int .i64 d, .int .i64 e, .slice fa_qs t.length fc_qs] : Array Value)[o]? := fun o => by rw [(bcell hbb_w8).1 _ _ hz_w7, Hc_b.out]
 go_wp2_with fail
 refine (WorstGhosts_any ⟨a, b, c, d, e⟩ _ _ t l1 n2 _ (Hqsxx.out.v2) (Hq1.out.v2)).mono ?_
 rintro e' w9 ⟨r_q, rfl, hR_q, hb_w9⟩
 rw [HLA.out] at hR_q ⊢
 have hB_w9 := hB_w8.trans (hb_w9.mono hB_w8.size)
 have HWxxxx := Lib.hid (HWxxx.out.below hb_w9)
 clear HWxxx
 have Hqsxxx := Lib.hid (Hqsxx.out.below hb_w9)
 clear Hqsxx
 have Hq1x := Lib.hid (Hq1.out.below hb_w9)
 clear Hq1
 have HGq := Lib.hid (XR2.of_F2 hR_q); clear hR_q
 have hbb_w9 := hbb_w8.trans (hb_w9.mono hbb_w8.size)
 clear hy1
 obtain ⟨fa_Gq, fc_Gq, rfl⟩ := HGq.out.form
 have hzI : w8.heap.size ≤ w9.heap.size := hb_w9.size
 go_wp2_with fail
 refine (eqInt64SS_b _ _ ans.1 ans.1 _ true (by simp) (HGq.out.v2) HWxxxx.out).mono ?_
 rintro e' w10 ⟨rfl, nq_w10, hw_w10⟩
 have hb_w10 : Below w9.heap.size w9 w10 := by rw [hw_w10]; exact below_drewN (Below.refl _ _) _
 clear hw_w10
 have hB_w10 := hB_w9.trans (hb_w10.mono hB_w9.size)
 have HWxxxxx := Lib.hid (HWxxxx.out.below hb_w10)
 clear HWxxxx
 have Hqsxxxx := Lib.hid (Hqsxxx.out.below hb_w10)
 clear Hqsxxx
 have Hq1xx := Lib.hid (Hq1x.out.below hb_w10)
 clear Hq1x
 have HGqx := Lib.hid (HGq.out.below hb_w10)
 clear HGq
 have hbb_w10 := hbb_w9.trans (hb_w10.mono hbb_w9.size)
 have hxx : ∀ o, w10.cell? ⟨W.heap.size, o, none⟩ = (#[.int .i64 a, .int .i64 b, .int .i64 c, .int .i64 d, .int .i64 e, .slice ua t.length uc] : Array Value)[o]? := fun o => by rw [(bcell hB_w10).1 _ _ hz01, Hc01.out]
 have hyx : ∀ o, w10.cell? ⟨w6.heap.size, o, none⟩ = (#[.int .i64 a, .int .i64 b, .int .i64 c, .int .i64 d, .int .i64 e, .slice fa_qs t.length fc_qs] : Array Value)[o]? := fun o => by rw [(bcell hbb_w10).1 _ _ hz_w7, Hc_b.out]
 have hV1x := (hV1.below hB_w10).any
 have hzz : W.heap.size < w10.heap.size ∧ w6.heap.size < w10.heap.size := by have := hB_w10.size; have := hbb_w10.size; omega
 have hV6x := Hqsxxxx.out.v2
 go_wp2_with fail
 go_region_held3 (fun w' => (∀ o, w'.cell? ⟨W.heap.size, o, none⟩ = (#[.int .i64 a, .int .i64 b, .int .i64 c, .int .i64 d, .int .i64 e, .slice ua t.length uc] : Array Value)[o]?) ∧ (∀ o, w'.cell? ⟨w6.heap.size, o, none⟩ = (#[.int .i64 a, .int .i64 b, .int .i64 c, .int .i64 d, .int .i64 e, .slice fa_qs t.length fc_qs] : Array Value)[o]?) ∧ Below w10.heap.size w10 w')
  (first | exact two_keep (by assumption) (by assumption) (by assumption) | exact ⟨hxx, hyx, (Below.refl _ _).drew⟩)
  (first | (go_at_call 10; refine (toSystem_any ⟨a, b, c, d, e⟩ _ t _ (hV1x.below (two_below (by assumption))) hlen Hrow.out).mono ?_; rintro e' wp ⟨vp, rfl, hFp, hb⟩) | (go_at_call 14; refine (eqSystem_b ⟨a, b, c, d, e⟩ ⟨a, b, c, d, e⟩ _ _ t t _ true (by simp [eqMk_self]) (hV6x.below (two_below (by assumption))) (F2.v2 (by assumption))).mono ?_; rintro e' wq ⟨rfl, hb⟩))
 obtain ⟨w11, rfl⟩ : ∃ x, x = wq := ⟨_, rfl⟩
 have hb_w11 := two_below (w0 := w10) (by assumption)
 have hB_w11 := hB_w10.trans (hb_w11.mono hB_w10.size)
 have HWxxxxxx := Lib.hid (HWxxxxx.out.below hb_w11)
 clear HWxxxxx
 have Hqsxxxxx := Lib.hid (Hqsxxxx.out.below hb_w11)
 clear Hqsxxxx
 have Hq1xxx := Lib.hid (Hq1xx.out.below hb_w11)
 clear Hq1xx
 have HGqxx := Lib.hid (HGqx.out.below hb_w11)
 clear HGqx
 have hbb_w11 := hbb_w10.trans (hb_w11.mono hbb_w10.size)
 clear hV6x hV1x
 go_wp2_with fail
 refine (toInt64SS_any _ l1 _ (hM1.below hB_w11) hlen1 Hrow1.out).mono ?_
 rintro e' w12 ⟨u_z1, bk_z1, rfl, hX_z1, hg_z1, _, hb_w12⟩
 have hB_w12 := hB_w11.trans (hb_w12.mono hB_w11.size)
 have HWxxxxxxx := Lib.hid (HWxxxxxx.out.below hb_w12)
 clear HWxxxxxx
 have Hqsxxxxxx := Lib.hid (Hqsxxxxx.out.below hb_w12)
 clear Hqsxxxxx
 have Hq1xxxx := Lib.hid (Hq1xxx.out.below hb_w12)
 clear Hq1xxx
 have HGqxxx := Lib.hid (HGqxx.out.below hb_w12)
 clear HGqxx
 have Hz1 := Lib.hid (XR2.of_copy hX_z1 hg_z1); clear hX_z1 hg_z1
 have hbb_w12 := hbb_w11.trans (hb_w12.mono hbb_w11.size)
 go_wp2_with fail
 refine (eqInt64SS_b _ _ l1 l1 _ true (by simp) (Hq1xxxx.out.v2) (Hz1.out.v2)).mono ?_
 rintro e' w13 ⟨rfl, nq_w13, hw_w13⟩
 have hb_w13 : Below w12.heap.size w12 w13 := by rw [hw_w13]; exact below_drewN (Below.refl _ _) _
 clear hw_w13
 have hB_w13 := hB_w12.trans (hb_w13.mono hB_w12.size)
 have HWxxxxxxxx := Lib.hid (HWxxxxxxx.out.below hb_w13)
 clear HWxxxxxxx
 have Hqsxxxxxxx := Lib.hid (Hqsxxxxxx.out.below hb_w13)
 clear Hqsxxxxxx
 have Hq1xxxxx := Lib.hid (Hq1xxxx.out.below hb_w13)
 clear Hq1xxxx
 have HGqxxxx := Lib.hid (HGqxxx.out.below hb_w13)
 clear HGqxxx
 have Hz1x := Lib.hid (Hz1.out.below hb_w13)
 clear Hz1
 have hbb_w13 := hbb_w12.trans (hb_w13.mono hbb_w12.size)
 clear Hz1x
 have hyB : ∀ o, w13.cell? ⟨w6.heap.size, o, none⟩ = (#[.int .i64 a, .int .i64 b, .int .i64 c, .int .i64 d, .int .i64 e, .slice fa_qs t.length fc_qs] : Array Value)[o]? := fun o => by rw [(bcell hbb_w13).1 _ _ hz_w7, Hc_b.out]
 have ht0 := totSmall hlen Hrow.out
 have ht0l := ht0 t.length (Nat.le_refl _)
 have Ht0 := Lib.hid ht0; clear ht0
 have ht1 := totSmall hlen1 Hrow1.out
 have ht1l := ht1 l1.length (Nat.le_refl _)
 have Ht1 := Lib.hid ht1; clear ht1
 have hzW1 := hB_w5.size
 have hzc := hB_w13.size
 have hzcb := hbb_w13.size
 go_wp2_with fail
 refine (markSystem_r w5.heap.size w6.heap.size ⟨a, b, c, d, e⟩ _ t _ _ Hqsxxxxxxx.out (by omega) (fun j hj => by have := Ht0.out j hj; omega) (by omega)).mono ?_
 rintro e' w14 ⟨rfl, hM_w14, hc_w14⟩
 clear Hqsxxxxxxx
 have HWxxxxxxxxx := Lib.hid (HWxxxxxxxx.out.chgR hc_w14 (by omega))
 clear HWxxxxxxxx
 have Hq1xxxxxx := Lib.hid (Hq1xxxxx.out.chg hc_w14 (by omega))
 clear Hq1xxxxx
 have HGqxxxxx := Lib.hid (HGqxxxx.out.chg hc_w14 (by omega))
 clear HGqxxxx
 have hB_w14 := Chg.belowR hc_w14 hB_w13 (by omega) (Nat.le_refl _)
 have hzc_w14 := hc_w14.size
 clear hyB hM_w14
 obtain ⟨q0, hq0⟩ : ∃ q, (1 + (totTo t t.length : Int)) = q := ⟨_, rfl⟩
 rw [hq0]
 have hq0b : 1 ≤ q0 ∧ q0 ≤ 1099511627777 := by omega
 clear hq0
 go_wp2_with fail
 refine (markInt64SS_r w7.heap.size w8.heap.size _ l1 _ _ Hq1xxxxxx.out (by omega) (fun j hj => by have := Ht1.out j hj; omega)).mono ?_
 rintro e' w15 ⟨rfl, hM_w15, hc_w15⟩
 clear Hq1xxxxxx
 have HWxxxxxxxxxx := Lib.hid (HWxxxxxxxxx.out.chgR hc_w15 (by omega))
 clear HWxxxxxxxxx
 have HGqxxxxxx := Lib.hid (HGqxxxxx.out.chg hc_w15 (by omega))
 clear HGqxxxxx
 have hB_w15 := Chg.belowR hc_w15 hB_w14 (by omega) (Nat.le_refl _)
 have hzc_w15 := hc_w15.size
 obtain ⟨q1, hq1⟩ : ∃ q, (q0 + (totTo l1 l1.length : Int)) = q := ⟨_, rfl⟩
 rw [hq1]
 have hq1b : 1 ≤ q1 ∧ q1 ≤ 2199023255553 := by omega
 clear hq1 hM_w15
 go_wp2_with fail
 refine (eqInt64SS_b _ _ ans.1 ans.1 _ true (by simp) (HGqxxxxxx.out.v2) HWxxxxxxxxxx.out).mono ?_
 rintro e' w16 ⟨rfl, nq_w16, hw_w16⟩
 have hb_w16 : Below w15.heap.size w15 w16 := by rw [hw_w16]; exact below_drewN (Below.refl _ _) _
 clear hw_w16
 have hB_w16 := hB_w15.trans (hb_w16.mono hB_w15.size)
 have HWxxxxxxxxxxx := Lib.hid (HWxxxxxxxxxx.out.below hb_w16)
 clear HWxxxxxxxxxx
 have HGqxxxxxxx := Lib.hid (HGqxxxxxx.out.below hb_w16)
 clear HGqxxxxxx
 have hal := Hal.out
 have htA := totSmall hal.1 hal.2
 have htAl := htA ans.1.length (Nat.le_refl _)
 have HtA := Lib.hid htA; clear htA hal
 go_wp2_with fail
 refine (markInt64SS_r w8.heap.size w9.heap.size _ ans.1 1 _ HGqxxxxxxx.out (by omega) (fun j hj => by have := HtA.out j hj; omega)).mono ?_
 rintro e' w17 ⟨rfl, hM_w17, hc_w17⟩
 clear HGqxxxxxxx
 have HWxxxxxxxxxxxx := Lib.hid (HWxxxxxxxxxxx.out.chgR hc_w17 (by omega))
 clear HWxxxxxxxxxxx
 have hB_w17 := Chg.belowR hc_w17 hB_w16 (by omega) (Nat.le_refl _)
 have hzc_w17 := hc_w17.size
 have HM := Lib.hid hM_w17; clear hM_w17
 go_wp2_with fail
 refine (heldInt64SS_any _ ans.1 1 _ (HM.out.v2) (by omega) (fun j hj => by have := HtA.out j hj; omega)).mono ?_
 rintro e' w18 ⟨rfl, rfl⟩
 obtain ⟨qm, hqm⟩ : ∃ q, (1 + (totTo ans.1 ans.1.length : Int)) = q := ⟨_, rfl⟩
 have hqmp : 0 ≤ qm := by omega
 rw [hqm]
 have Hqm := Lib.hid hqm; clear hqm
 have hxF : ∀ o, w17.cell? ⟨W.heap.size, o, none⟩ = (#[.int .i64 a, .int .i64 b, .int .i64 c, .int .i64 d, .int .i64 e, .slice ua t.length uc] : Array Value)[o]? := fun o => by rw [(bcell hB_w17).1 _ _ hz01, Hc01.out]
 go_wp2_with fail
 refine (toSystem_any ⟨a, b, c, d, e⟩ _ t _ (hV1.below hB_w17) hlen Hrow.out).mono ?_
 rintro e' w19 ⟨u_hs, rfl, hF_hs, hb_w19⟩
 clear hxF
 have hB_w19 := hB_w17.trans (hb_w19.mono hB_w17.size)
 have HWxxxxxxxxxxxxx := Lib.hid (HWxxxxxxxxxxxx.out.below hb_w19)
 clear HWxxxxxxxxxxxx
 have HMx := Lib.hid (HM.out.below hb_w19)
 clear HM
 have Hhs := Lib.hid (XR2.of_F2 hF_hs); clear hF_hs
 go_wp2_with fail
 refine (toInt64SS_any _ l1 _ (hM1.below hB_w19) hlen1 Hrow1.out).mono ?_
 rintro e' w20 ⟨u_h1, bk_h1, rfl, hX_h1, hg_h1, _, hb_w20⟩
 have hB_w20 := hB_w19.trans (hb_w20.mono hB_w19.size)
 have HWxxxxxxxxxxxxxx := Lib.hid (HWxxxxxxxxxxxxx.out.below hb_w20)
 clear HWxxxxxxxxxxxxx
 have HMxx := Lib.hid (HMx.out.below hb_w20)
 clear HMx
 have Hhsx := Lib.hid (Hhs.out.below hb_w20)
 clear Hhs
 have Hh1 := Lib.hid (XR2.of_copy hX_h1 hg_h1); clear hX_h1 hg_h1
 go_wp2_with fail
 refine (WorstGhosts_any ⟨a, b, c, d, e⟩ _ _ t l1 n2 _ (Hhsx.out.v2) (Hh1.out.v2)).mono ?_
 rintro e' w21 ⟨r_h, rfl, hR_h, hb_w21⟩
 rw [HLA.out] at hR_h ⊢
 have hB_w21 := hB_w20.trans (hb_w21.mono hB_w20.size)
 have HWxxxxxxxxxxxxxxx := Lib.hid (HWxxxxxxxxxxxxxx.out.below hb_w21)
 clear HWxxxxxxxxxxxxxx
 have HMxxx := Lib.hid (HMxx.out.below hb_w21)
 clear HMxx
 have Hhsxx := Lib.hid (Hhsx.out.below hb_w21)
 clear Hhsx
 have Hh1x := Lib.hid (Hh1.out.below hb_w21)
 clear Hh1
 have HGh := Lib.hid (XR2.of_F2 hR_h); clear hR_h
 clear Hhsxx
 clear Hh1x
 go_wp2_with fail
 refine (eqInt64SS_b _ _ ans.1 ans.1 _ true (by simp) (HGh.out.v2) HWxxxxxxxxxxxxxxx.out).mono ?_
 rintro e' w22 ⟨rfl, nq_w22, hw_w22⟩
 have hb_w22 : Below w21.heap.size w21 w22 := by rw [hw_w22]; exact below_drewN (Below.refl _ _) _
 clear hw_w22
 have hB_w22 := hB_w21.trans (hb_w22.mono hB_w21.size)
 have HWxxxxxxxxxxxxxxxx := Lib.hid (HWxxxxxxxxxxxxxxx.out.below hb_w22)
 clear HWxxxxxxxxxxxxxxx
 have HMxxxx := Lib.hid (HMxxx.out.below hb_w22)
 clear HMxxx
 have HGhx := Lib.hid (HGh.out.below hb_w22)
 clear HGh
 go_wp2_with fail
 refine (heldInt64SS_any _ ans.1 1 _ (HMxxxx.out.v2) (by omega) (fun j hj => by have := HtA.out j hj; omega)).mono ?_
 rintro e' w23 ⟨rfl, rfl⟩
 rw [Hqm.out]
 go_wp2_with fail
 go_ret
 exact ⟨rfl, hB01.trans (hB_w22.mono (by omega))⟩
end Go.Proofs.YtmjplkbmhdkggaaGreat
