/- The walk of 'laws.FnExactWornDoors'. No conditions. -/
import Derived.Test.YtbckginfipeibaaOpen
import Derived.Test.YtbckginfipeibaaHeld
import Derived.Test.YtbckginfipeibaaRange
import Derived.Test.YtbckginfipeibaaWornR
namespace Go.Proofs.Ytbckginfipeibaa
open Go.RowKit
set_option linter.unusedVariables false
set_option linter.unusedSimpArgs false

set_option maxHeartbeats 2000000 in
set_option maxRecDepth 100000 in
theorem fnExactWornDoors_walk (W : World) (a b c d e : Int) (u : Value) (t : List (List Int)) (hk5 : i64ok a ∧ i64ok b ∧ i64ok c ∧ i64ok d ∧ i64ok e) (h : V2 (Old W) W u t) (hk : ∀ r ∈ t, ∀ n ∈ r, i64ok n)
    (v1 : Value) (l1 : List (List Int)) (hl1 : V2 (Old W) W v1 l1) (hkl1 : ∀ r ∈ l1, ∀ n ∈ r, i64ok n)
    (v2 : Value) (l2 : List Int) (hl2 : V1 (Old W) W v2 l2) (hkl2 : ∀ n ∈ l2, i64ok n) (n3 : Int) (hkn3 : i64ok n3) (n4 : Int) (hkn4 : i64ok n4) :
    Calls Try.prog 7 #[.agg #[.int .i64 a, .int .i64 b, .int .i64 c, .int .i64 d, .int .i64 e, u], v1, v2, .int .i64 n3, .int .i64 n4] W fun e' w' => e' = .returned (.bool true) ∧ Below W.heap.size W w' := by
  clear hk hk5 hkl1 hkl2 hkn3 hkn4
  have hV := h
  obtain ⟨ua, uc, rfl, hm⟩ := h.form
  have hL1 := hl1
  obtain ⟨la1, lc1, rfl, hml1⟩ := hl1.form
  have hL2 := hl2
  obtain ⟨la2, lc2, rfl, hml2⟩ := hl2.form
  obtain ⟨W1, hW1, hB01, hz01, HZ01, hc01, hh01⟩ := box_facts W #[.int .i64 a, .int .i64 b, .int .i64 c, .int .i64 d, .int .i64 e, .slice ua t.length uc] 26
  have hV1 := hV.below hB01
  have hM1 := hL1.below hB01
  have hM2 := hL2.below hB01
  by_cases hbig2 : l2.length > 1048576
  · go_enter Try.func7, Try.ntmps7
    go_wp2_with fail
    rw [← hW1]
    go_ret
    exact ⟨rfl, hB01⟩
  have hlen2 : l2.length ≤ 1048576 := by omega
  have hle := szL_le (ls := t) (left := 1048576) (by omega)
  by_cases hs0 : szL t 1048576 < 0
  · skip
    go_enter Try.func7, Try.ntmps7
    go_wp2_with fail
    rw [← hW1]
    refine (szSystem_any ⟨a, b, c, d, e⟩ _ t _ _ hV1 (by omega) (by omega)).mono ?_
    rintro e' w2 ⟨rfl, hB2⟩
    clear hc01 hh01
    go_wp2_with fail
    go_ret
    exact ⟨rfl, hB01.trans (hB2.mono (by omega))⟩
  have hok := szL_ok (ls := t) (left := 1048576) (by omega) (by omega)
  have hlen : t.length ≤ 1048576 := by omega
  have hrow : ∀ r ∈ t, r.length ≤ 1048576 := fun r hr => by have := hok.2 r hr; omega
  have Hrow := Lib.hid hrow; clear hrow hok
  obtain ⟨left0, hleft0⟩ : ∃ x, szL t 1048576 = x := ⟨_, rfl⟩
  rw [hleft0] at hs0 hle
  have hle1 := szL_le (ls := l1) (left := left0) (by omega)
  by_cases hs1 : szL l1 left0 < 0
  · skip
    go_enter Try.func7, Try.ntmps7
    go_wp2_with fail
    rw [← hW1]
    refine (szSystem_any ⟨a, b, c, d, e⟩ _ t _ _ hV1 (by omega) (by omega)).mono ?_
    rintro e' w2 ⟨rfl, hB2⟩
    clear hc01 hh01
    rw [hleft0]
    go_wp2_with fail
    refine (szInt64SS_any _ l1 _ _ (hM1.below hB2) (by omega) (by omega)).mono ?_
    rintro e' w2x1 ⟨rfl, rfl⟩
    go_wp2_with fail
    go_ret
    exact ⟨rfl, hB01.trans (hB2.mono (by omega))⟩
  have hok := szL_ok (ls := l1) (left := left0) (by omega) (by omega)
  have hlen1 : l1.length ≤ 1048576 := by omega
  have hrow : ∀ r ∈ l1, r.length ≤ 1048576 := fun r hr => by have := hok.2 r hr; omega
  have Hrow1 := Lib.hid hrow; clear hrow hok
  obtain ⟨left1, hleft1⟩ : ∃ x, szL l1 left0 = x := ⟨_, rfl⟩
  rw [hleft1] at hs1 hle1
  have hal := wornAns_len ⟨a, b, c, d, e⟩ t l1 l2 n3 n4
  obtain ⟨ans, hLA⟩ : ∃ r, wornAns ⟨a, b, c, d, e⟩ t l1 l2 n3 n4 = r := ⟨_, rfl⟩
  rw [hLA] at hal
  have HLA := Lib.hid hLA; clear hLA
  have Hal := Lib.hid hal; clear hal
  go_enter Try.func7, Try.ntmps7
  go_wp2_with fail
  rw [← hW1]
  refine (szSystem_any ⟨a, b, c, d, e⟩ _ t _ _ hV1 (by omega) (by omega)).mono ?_
  rintro e' w2 ⟨rfl, hB2⟩
  rw [hleft0]
  have hx2 : ∀ o, (w2).cell? ⟨W.heap.size, o, none⟩ = (#[.int .i64 a, .int .i64 b, .int .i64 c, .int .i64 d, .int .i64 e, .slice ua t.length uc] : Array Value)[o]? := fun o => by rw [(bcell hB2).1 _ _ hz01, hc01]
  have Hc01 := Lib.hid hc01; clear hc01
  have HW1 := Lib.hid hW1; clear hW1
  clear hh01
  go_wp2_with fail
  refine (szInt64SS_any _ l1 _ _ (hM1.below hB2) (by omega) (by omega)).mono ?_
  rintro e' w2x1 ⟨rfl, rfl⟩
  rw [hleft1]
  clear hleft0 hleft1 hle hle1
  go_wp2_with fail
  refine (toSystem_any ⟨a, b, c, d, e⟩ _ t _ (hV1.below hB2) hlen Hrow.out).mono ?_
  rintro e' w3 ⟨u_ps, rfl, hF_ps, hb_w3⟩
  clear hx2
  have hB_w3 := hB2.trans (hb_w3.mono hB2.size)
  have Hps := Lib.hid (XR2.of_F2 hF_ps); clear hF_ps
  clear hs0 hs1
  go_wp2_with fail
  refine (toInt64SS_any _ l1 _ (hM1.below hB_w3) hlen1 Hrow1.out).mono ?_
  rintro e' w4 ⟨u_p1, bk_p1, rfl, hX_p1, hg_p1, _, hb_w4⟩
  have hB_w4 := hB_w3.trans (hb_w4.mono hB_w3.size)
  have Hpsx := Lib.hid (Hps.out.below hb_w4)
  clear Hps
  have Hp1 := Lib.hid (XR2.of_copy hX_p1 hg_p1); clear hX_p1 hg_p1
  go_wp2_with fail
  refine (toInt64S_any _ l2 _ (hM2.below hB_w4) hlen2).mono ?_
  rintro e' w5 ⟨u_p2, rfl, hX_p2, _, hb_w5⟩
  have hB_w5 := hB_w4.trans (hb_w5.mono hB_w4.size)
  have Hpsxx := Lib.hid (Hpsx.out.below hb_w5)
  clear Hpsx
  have Hp1x := Lib.hid (Hp1.out.below hb_w5)
  clear Hp1
  have Hp2 := Lib.hid (XR1.of_copy hX_p2); clear hX_p2
  go_wp2_with fail
  refine (WornDoorsR_any ⟨a, b, c, d, e⟩ _ _ _ t l1 l2 n3 n4 _ (Hpsxx.out.v2) (Hp1x.out.v2) (Hp2.out.v1)).mono ?_
  rintro e' w6 ⟨r_p, rfl, hR_p, hb_w6⟩
  rw [HLA.out] at hR_p ⊢
  have hB_w6 := hB_w5.trans (hb_w6.mono hB_w5.size)
  have Hpsxxx := Lib.hid (Hpsxx.out.below hb_w6)
  clear Hpsxx
  have Hp1xx := Lib.hid (Hp1x.out.below hb_w6)
  clear Hp1x
  have Hp2x := Lib.hid (Hp2.out.below hb_w6)
  clear Hp2
  have HW := Lib.hid hR_p; clear hR_p
  clear Hpsxxx
  clear Hp1xx
  clear Hp2x
  have hxS : ∀ o, w6.cell? ⟨W.heap.size, o, none⟩ = (#[.int .i64 a, .int .i64 b, .int .i64 c, .int .i64 d, .int .i64 e, .slice ua t.length uc] : Array Value)[o]? := fun o => by rw [(bcell hB_w6).1 _ _ hz01, Hc01.out]
  go_wp2_with fail
  refine (toSystem_any ⟨a, b, c, d, e⟩ _ t _ (hV1.below hB_w6) hlen Hrow.out).mono ?_
  rintro e' w7 ⟨u_qs, rfl, hF_qs, hb_w7⟩
  clear hxS
  have hB_w7 := hB_w6.trans (hb_w7.mono hB_w6.size)
  have HWx := Lib.hid (HW.out.below hb_w7)
  clear HW
  have Hqs := Lib.hid (XR2.of_F2 hF_qs); clear hF_qs
  obtain ⟨fa_qs, fc_qs, rfl⟩ := Hqs.out.form
  go_wp2_with fail
  obtain ⟨w8, hW_w8, hb_w8, hz_w8, HZ_w8, hc_w8, _⟩ := box_facts w7 #[.int .i64 a, .int .i64 b, .int .i64 c, .int .i64 d, .int .i64 e, .slice fa_qs t.length fc_qs] 34
  rw [← hW_w8]
  have HW_w8 := Lib.hid hW_w8; clear hW_w8
  have hB_w8 := hB_w7.trans (hb_w8.mono hB_w7.size)
  have HWxx := Lib.hid (HWx.out.below hb_w8)
  clear HWx
  have Hqsx := Lib.hid (Hqs.out.below hb_w8)
  clear Hqs
  have Hc_b := Lib.hid hc_w8; clear hc_w8
  have hbb_w8 : Below w8.heap.size w8 w8 := Below.refl _ _
  refine (toInt64SS_any _ l1 _ (hM1.below hB_w8) hlen1 Hrow1.out).mono ?_
  rintro e' w9 ⟨u_q1, bk_q1, rfl, hX_q1, hg_q1, _, hb_w9⟩
  have hB_w9 := hB_w8.trans (hb_w9.mono hB_w8.size)
  have HWxxx := Lib.hid (HWxx.out.below hb_w9)
  clear HWxx
  have Hqsxx := Lib.hid (Hqsx.out.below hb_w9)
  clear Hqsx
  have hbb_w9 := hbb_w8.trans (hb_w9.mono hbb_w8.size)
  have Hq1 := Lib.hid (XR2.of_copy hX_q1 hg_q1); clear hX_q1 hg_q1
  obtain ⟨fa_q1, fc_q1, rfl⟩ := Hq1.out.form
  go_wp2_with fail
  refine (toInt64S_any _ l2 _ (hM2.below hB_w9) hlen2).mono ?_
  rintro e' w10 ⟨u_q2, rfl, hX_q2, _, hb_w10⟩
  have hB_w10 := hB_w9.trans (hb_w10.mono hB_w9.size)
  have HWxxxx := Lib.hid (HWxxx.out.below hb_w10)
  clear HWxxx
  have Hqsxxx := Lib.hid (Hqsxx.out.below hb_w10)
  clear Hqsxx
  have Hq1x := Lib.hid (Hq1.out.below hb_w10)
  clear Hq1
  have Hq2 := Lib.hid (XR1.of_copy hX_q2); clear hX_q2
  have hbb_w10 := hbb_w9.trans (hb_w10.mono hbb_w9.size)
  obtain ⟨fa_q2, fc_q2, rfl⟩ := Hq2.out.form
  have hzS6 : w6.heap.size ≤ w7.heap.size := hb_w7.size
  have hz6b : w7.heap.size ≤ w8.heap.size := hb_w8.size
  have hzz_w9 : w8.heap.size ≤ w9.heap.size := hb_w9.size
  have hzz_w10 : w9.heap.size ≤ w10.heap.size := hb_w10.size
  have hy1 : ∀ o, w10.cell? ⟨w7.heap.size, o, none⟩ = (#[.int .i64 a, .int .i64 b, .int .i64 c, .int .i64 d, .int .i64 e, .slice fa_qs t.length fc_qs] : Array Value)[o]? := fun o => by rw [(bcell hbb_w10).1 _ _ hz_w8, Hc_b.out]
  go_wp2_with fail
  refine (WornDoors_any ⟨a, b, c, d, e⟩ _ _ _ t l1 l2 n3 n4 _ (Hqsxxx.out.v2) (Hq1x.out.v2) (Hq2.out.v1)).mono ?_
  rintro e' w11 ⟨r_q, rfl, hR_q, hb_w11⟩
  rw [HLA.out] at hR_q ⊢
  have hB_w11 := hB_w10.trans (hb_w11.mono hB_w10.size)
  have HWxxxxx := Lib.hid (HWxxxx.out.below hb_w11)
  clear HWxxxx
  have Hqsxxxx := Lib.hid (Hqsxxx.out.below hb_w11)
  clear Hqsxxx
  have Hq1xx := Lib.hid (Hq1x.out.below hb_w11)
  clear Hq1x
  have Hq2x := Lib.hid (Hq2.out.below hb_w11)
  clear Hq2
  have HGq := Lib.hid (XR1.of_F1 hR_q); clear hR_q
  have hbb_w11 := hbb_w10.trans (hb_w11.mono hbb_w10.size)
  clear hy1
  obtain ⟨fa_Gq, fc_Gq, rfl⟩ := HGq.out.form
  have hzI : w10.heap.size ≤ w11.heap.size := hb_w11.size
  go_wp2_with fail
  refine (eqInt64S_b _ _ ans.1 ans.1 _ true (by simp) (HGq.out.v1) HWxxxxx.out).mono ?_
  rintro e' w12 ⟨rfl, nq_w12, hw_w12⟩
  have hb_w12 : Below w11.heap.size w11 w12 := by rw [hw_w12]; exact below_drewN (Below.refl _ _) _
  clear hw_w12
  have hB_w12 := hB_w11.trans (hb_w12.mono hB_w11.size)
  have HWxxxxxx := Lib.hid (HWxxxxx.out.below hb_w12)
  clear HWxxxxx
  have Hqsxxxxx := Lib.hid (Hqsxxxx.out.below hb_w12)
  clear Hqsxxxx
  have Hq1xxx := Lib.hid (Hq1xx.out.below hb_w12)
  clear Hq1xx
  have Hq2xx := Lib.hid (Hq2x.out.below hb_w12)
  clear Hq2x
  have HGqx := Lib.hid (HGq.out.below hb_w12)
  clear HGq
  have hbb_w12 := hbb_w11.trans (hb_w12.mono hbb_w11.size)
  have hxx : ∀ o, w12.cell? ⟨W.heap.size, o, none⟩ = (#[.int .i64 a, .int .i64 b, .int .i64 c, .int .i64 d, .int .i64 e, .slice ua t.length uc] : Array Value)[o]? := fun o => by rw [(bcell hB_w12).1 _ _ hz01, Hc01.out]
  have hyx : ∀ o, w12.cell? ⟨w7.heap.size, o, none⟩ = (#[.int .i64 a, .int .i64 b, .int .i64 c, .int .i64 d, .int .i64 e, .slice fa_qs t.length fc_qs] : Array Value)[o]? := fun o => by rw [(bcell hbb_w12).1 _ _ hz_w8, Hc_b.out]
  have hV1x := (hV1.below hB_w12).any
  have hzz : W.heap.size < w12.heap.size ∧ w7.heap.size < w12.heap.size := by have := hB_w12.size; have := hbb_w12.size; omega
  have hV6x := Hqsxxxxx.out.v2
  go_wp2_with fail
  go_region_held3 (fun w' => (∀ o, w'.cell? ⟨W.heap.size, o, none⟩ = (#[.int .i64 a, .int .i64 b, .int .i64 c, .int .i64 d, .int .i64 e, .slice ua t.length uc] : Array Value)[o]?) ∧ (∀ o, w'.cell? ⟨w7.heap.size, o, none⟩ = (#[.int .i64 a, .int .i64 b, .int .i64 c, .int .i64 d, .int .i64 e, .slice fa_qs t.length fc_qs] : Array Value)[o]?) ∧ Below w12.heap.size w12 w')
    (first | exact two_keep (by assumption) (by assumption) (by assumption) | exact ⟨hxx, hyx, (Below.refl _ _).drew⟩)
    (first | (go_at_call 16; refine (toSystem_any ⟨a, b, c, d, e⟩ _ t _ (hV1x.below (two_below (by assumption))) hlen Hrow.out).mono ?_; rintro e' wp ⟨vp, rfl, hFp, hb⟩) | (go_at_call 20; refine (eqSystem_b ⟨a, b, c, d, e⟩ ⟨a, b, c, d, e⟩ _ _ t t _ true (by simp [eqMk_self]) (hV6x.below (two_below (by assumption))) (F2.v2 (by assumption))).mono ?_; rintro e' wq ⟨rfl, hb⟩))
  obtain ⟨w13, rfl⟩ : ∃ x, x = wq := ⟨_, rfl⟩
  have hb_w13 := two_below (w0 := w12) (by assumption)
  have hB_w13 := hB_w12.trans (hb_w13.mono hB_w12.size)
  have HWxxxxxxx := Lib.hid (HWxxxxxx.out.below hb_w13)
  clear HWxxxxxx
  have Hqsxxxxxx := Lib.hid (Hqsxxxxx.out.below hb_w13)
  clear Hqsxxxxx
  have Hq1xxxx := Lib.hid (Hq1xxx.out.below hb_w13)
  clear Hq1xxx
  have Hq2xxx := Lib.hid (Hq2xx.out.below hb_w13)
  clear Hq2xx
  have HGqxx := Lib.hid (HGqx.out.below hb_w13)
  clear HGqx
  have hbb_w13 := hbb_w12.trans (hb_w13.mono hbb_w12.size)
  clear hV6x hV1x
  go_wp2_with fail
  refine (toInt64SS_any _ l1 _ (hM1.below hB_w13) hlen1 Hrow1.out).mono ?_
  rintro e' w14 ⟨u_z1, bk_z1, rfl, hX_z1, hg_z1, _, hb_w14⟩
  have hB_w14 := hB_w13.trans (hb_w14.mono hB_w13.size)
  have HWxxxxxxxx := Lib.hid (HWxxxxxxx.out.below hb_w14)
  clear HWxxxxxxx
  have Hqsxxxxxxx := Lib.hid (Hqsxxxxxx.out.below hb_w14)
  clear Hqsxxxxxx
  have Hq1xxxxx := Lib.hid (Hq1xxxx.out.below hb_w14)
  clear Hq1xxxx
  have Hq2xxxx := Lib.hid (Hq2xxx.out.below hb_w14)
  clear Hq2xxx
  have HGqxxx := Lib.hid (HGqxx.out.below hb_w14)
  clear HGqxx
  have Hz1 := Lib.hid (XR2.of_copy hX_z1 hg_z1); clear hX_z1 hg_z1
  have hbb_w14 := hbb_w13.trans (hb_w14.mono hbb_w13.size)
  go_wp2_with fail
  refine (eqInt64SS_b _ _ l1 l1 _ true (by simp) (Hq1xxxxx.out.v2) (Hz1.out.v2)).mono ?_
  rintro e' w15 ⟨rfl, nq_w15, hw_w15⟩
  have hb_w15 : Below w14.heap.size w14 w15 := by rw [hw_w15]; exact below_drewN (Below.refl _ _) _
  clear hw_w15
  have hB_w15 := hB_w14.trans (hb_w15.mono hB_w14.size)
  have HWxxxxxxxxx := Lib.hid (HWxxxxxxxx.out.below hb_w15)
  clear HWxxxxxxxx
  have Hqsxxxxxxxx := Lib.hid (Hqsxxxxxxx.out.below hb_w15)
  clear Hqsxxxxxxx
  have Hq1xxxxxx := Lib.hid (Hq1xxxxx.out.below hb_w15)
  clear Hq1xxxxx
  have Hq2xxxxx := Lib.hid (Hq2xxxx.out.below hb_w15)
  clear Hq2xxxx
  have HGqxxxx := Lib.hid (HGqxxx.out.below hb_w15)
  clear HGqxxx
  have Hz1x := Lib.hid (Hz1.out.below hb_w15)
  clear Hz1
  have hbb_w15 := hbb_w14.trans (hb_w15.mono hbb_w14.size)
  clear Hz1x
  go_wp2_with fail
  refine (toInt64S_any _ l2 _ (hM2.below hB_w15) hlen2).mono ?_
  rintro e' w16 ⟨u_z2, rfl, hX_z2, _, hb_w16⟩
  have hB_w16 := hB_w15.trans (hb_w16.mono hB_w15.size)
  have HWxxxxxxxxxx := Lib.hid (HWxxxxxxxxx.out.below hb_w16)
  clear HWxxxxxxxxx
  have Hqsxxxxxxxxx := Lib.hid (Hqsxxxxxxxx.out.below hb_w16)
  clear Hqsxxxxxxxx
  have Hq1xxxxxxx := Lib.hid (Hq1xxxxxx.out.below hb_w16)
  clear Hq1xxxxxx
  have Hq2xxxxxx := Lib.hid (Hq2xxxxx.out.below hb_w16)
  clear Hq2xxxxx
  have HGqxxxxx := Lib.hid (HGqxxxx.out.below hb_w16)
  clear HGqxxxx
  have Hz2 := Lib.hid (XR1.of_copy hX_z2); clear hX_z2
  have hbb_w16 := hbb_w15.trans (hb_w16.mono hbb_w15.size)
  go_wp2_with fail
  refine (eqInt64S_b _ _ l2 l2 _ true (by simp) (Hq2xxxxxx.out.v1) (Hz2.out.v1)).mono ?_
  rintro e' w17 ⟨rfl, nq_w17, hw_w17⟩
  have hb_w17 : Below w16.heap.size w16 w17 := by rw [hw_w17]; exact below_drewN (Below.refl _ _) _
  clear hw_w17
  have hB_w17 := hB_w16.trans (hb_w17.mono hB_w16.size)
  have HWxxxxxxxxxxx := Lib.hid (HWxxxxxxxxxx.out.below hb_w17)
  clear HWxxxxxxxxxx
  have Hqsxxxxxxxxxx := Lib.hid (Hqsxxxxxxxxx.out.below hb_w17)
  clear Hqsxxxxxxxxx
  have Hq1xxxxxxxx := Lib.hid (Hq1xxxxxxx.out.below hb_w17)
  clear Hq1xxxxxxx
  have Hq2xxxxxxx := Lib.hid (Hq2xxxxxx.out.below hb_w17)
  clear Hq2xxxxxx
  have HGqxxxxxx := Lib.hid (HGqxxxxx.out.below hb_w17)
  clear HGqxxxxx
  have Hz2x := Lib.hid (Hz2.out.below hb_w17)
  clear Hz2
  have hbb_w17 := hbb_w16.trans (hb_w17.mono hbb_w16.size)
  clear Hz2x
  have hyB : ∀ o, w17.cell? ⟨w7.heap.size, o, none⟩ = (#[.int .i64 a, .int .i64 b, .int .i64 c, .int .i64 d, .int .i64 e, .slice fa_qs t.length fc_qs] : Array Value)[o]? := fun o => by rw [(bcell hbb_w17).1 _ _ hz_w8, Hc_b.out]
  have ht0 := totSmall hlen Hrow.out
  have ht0l := ht0 t.length (Nat.le_refl _)
  have Ht0 := Lib.hid ht0; clear ht0
  have ht1 := totSmall hlen1 Hrow1.out
  have ht1l := ht1 l1.length (Nat.le_refl _)
  have Ht1 := Lib.hid ht1; clear ht1
  have hzW1 := hB_w6.size
  have hzc := hB_w17.size
  have hzcb := hbb_w17.size
  go_wp2_with fail
  refine (markSystem_r w6.heap.size w7.heap.size ⟨a, b, c, d, e⟩ _ t _ _ Hqsxxxxxxxxxx.out (by omega) (fun j hj => by have := Ht0.out j hj; omega) (by omega)).mono ?_
  rintro e' w18 ⟨rfl, hM_w18, hc_w18⟩
  clear Hqsxxxxxxxxxx
  have HWxxxxxxxxxxxx := Lib.hid (HWxxxxxxxxxxx.out.chgR hc_w18 (by omega))
  clear HWxxxxxxxxxxx
  have Hq1xxxxxxxxx := Lib.hid (Hq1xxxxxxxx.out.chg hc_w18 (by omega))
  clear Hq1xxxxxxxx
  have Hq2xxxxxxxx := Lib.hid (Hq2xxxxxxx.out.chg hc_w18 (by omega))
  clear Hq2xxxxxxx
  have HGqxxxxxxx := Lib.hid (HGqxxxxxx.out.chg hc_w18 (by omega))
  clear HGqxxxxxx
  have hB_w18 := Chg.belowR hc_w18 hB_w17 (by omega) (Nat.le_refl _)
  have hzc_w18 := hc_w18.size
  clear hyB hM_w18
  obtain ⟨q0, hq0⟩ : ∃ q, (1 + (totTo t t.length : Int)) = q := ⟨_, rfl⟩
  rw [hq0]
  have hq0b : 1 ≤ q0 ∧ q0 ≤ 1099511627777 := by omega
  clear hq0
  go_wp2_with fail
  refine (markInt64SS_r w8.heap.size w9.heap.size _ l1 _ _ Hq1xxxxxxxxx.out (by omega) (fun j hj => by have := Ht1.out j hj; omega)).mono ?_
  rintro e' w19 ⟨rfl, hM_w19, hc_w19⟩
  clear Hq1xxxxxxxxx
  have HWxxxxxxxxxxxxx := Lib.hid (HWxxxxxxxxxxxx.out.chgR hc_w19 (by omega))
  clear HWxxxxxxxxxxxx
  have Hq2xxxxxxxxx := Lib.hid (Hq2xxxxxxxx.out.chg hc_w19 (by omega))
  clear Hq2xxxxxxxx
  have HGqxxxxxxxx := Lib.hid (HGqxxxxxxx.out.chg hc_w19 (by omega))
  clear HGqxxxxxxx
  have hB_w19 := Chg.belowR hc_w19 hB_w18 (by omega) (Nat.le_refl _)
  have hzc_w19 := hc_w19.size
  obtain ⟨q1, hq1⟩ : ∃ q, (q0 + (totTo l1 l1.length : Int)) = q := ⟨_, rfl⟩
  rw [hq1]
  have hq1b : 1 ≤ q1 ∧ q1 ≤ 2199023255553 := by omega
  clear hq1 hM_w19
  go_wp2_with fail
  refine (markInt64S_r w9.heap.size w10.heap.size _ l2 _ _ Hq2xxxxxxxxx.out (by omega) (by omega)).mono ?_
  rintro e' w20 ⟨rfl, hM_w20, hc_w20⟩
  clear Hq2xxxxxxxxx
  have HWxxxxxxxxxxxxxx := Lib.hid (HWxxxxxxxxxxxxx.out.chgR hc_w20 (by omega))
  clear HWxxxxxxxxxxxxx
  have HGqxxxxxxxxx := Lib.hid (HGqxxxxxxxx.out.chg hc_w20 (by omega))
  clear HGqxxxxxxxx
  have hB_w20 := Chg.belowR hc_w20 hB_w19 (by omega) (Nat.le_refl _)
  have hzc_w20 := hc_w20.size
  obtain ⟨q2, hq2⟩ : ∃ q, (q1 + (l2.length : Int)) = q := ⟨_, rfl⟩
  rw [hq2]
  have hq2b : 1 ≤ q2 ∧ q2 ≤ 2199024304129 := by omega
  clear hq2 hM_w20
  go_wp2_with fail
  refine (eqInt64S_b _ _ ans.1 ans.1 _ true (by simp) (HGqxxxxxxxxx.out.v1) HWxxxxxxxxxxxxxx.out).mono ?_
  rintro e' w21 ⟨rfl, nq_w21, hw_w21⟩
  have hb_w21 : Below w20.heap.size w20 w21 := by rw [hw_w21]; exact below_drewN (Below.refl _ _) _
  clear hw_w21
  have hB_w21 := hB_w20.trans (hb_w21.mono hB_w20.size)
  have HWxxxxxxxxxxxxxxx := Lib.hid (HWxxxxxxxxxxxxxx.out.below hb_w21)
  clear HWxxxxxxxxxxxxxx
  have HGqxxxxxxxxxx := Lib.hid (HGqxxxxxxxxx.out.below hb_w21)
  clear HGqxxxxxxxxx
  have hal := Hal.out
  go_wp2_with fail
  refine (markInt64S_r w10.heap.size w11.heap.size _ ans.1 1 _ HGqxxxxxxxxxx.out (by omega) (by omega)).mono ?_
  rintro e' w22 ⟨rfl, hM_w22, hc_w22⟩
  clear HGqxxxxxxxxxx
  have HWxxxxxxxxxxxxxxxx := Lib.hid (HWxxxxxxxxxxxxxxx.out.chgR hc_w22 (by omega))
  clear HWxxxxxxxxxxxxxxx
  have hB_w22 := Chg.belowR hc_w22 hB_w21 (by omega) (Nat.le_refl _)
  have hzc_w22 := hc_w22.size
  have HM := Lib.hid hM_w22; clear hM_w22
  go_wp2_with fail
  refine (heldInt64S_any _ ans.1.length 1 _ (HM.out.v1) (by omega) (by omega)).mono ?_
  rintro e' w23 ⟨rfl, rfl⟩
  obtain ⟨qm, hqm⟩ : ∃ q, (1 + (ans.1.length : Int)) = q := ⟨_, rfl⟩
  have hqmp : 0 ≤ qm := by omega
  rw [hqm]
  have Hqm := Lib.hid hqm; clear hqm
  have hxF : ∀ o, w22.cell? ⟨W.heap.size, o, none⟩ = (#[.int .i64 a, .int .i64 b, .int .i64 c, .int .i64 d, .int .i64 e, .slice ua t.length uc] : Array Value)[o]? := fun o => by rw [(bcell hB_w22).1 _ _ hz01, Hc01.out]
  go_wp2_with fail
  refine (toSystem_any ⟨a, b, c, d, e⟩ _ t _ (hV1.below hB_w22) hlen Hrow.out).mono ?_
  rintro e' w24 ⟨u_hs, rfl, hF_hs, hb_w24⟩
  clear hxF
  have hB_w24 := hB_w22.trans (hb_w24.mono hB_w22.size)
  have HWxxxxxxxxxxxxxxxxx := Lib.hid (HWxxxxxxxxxxxxxxxx.out.below hb_w24)
  clear HWxxxxxxxxxxxxxxxx
  have HMx := Lib.hid (HM.out.below hb_w24)
  clear HM
  have Hhs := Lib.hid (XR2.of_F2 hF_hs); clear hF_hs
  go_wp2_with fail
  refine (toInt64SS_any _ l1 _ (hM1.below hB_w24) hlen1 Hrow1.out).mono ?_
  rintro e' w25 ⟨u_h1, bk_h1, rfl, hX_h1, hg_h1, _, hb_w25⟩
  have hB_w25 := hB_w24.trans (hb_w25.mono hB_w24.size)
  have HWxxxxxxxxxxxxxxxxxx := Lib.hid (HWxxxxxxxxxxxxxxxxx.out.below hb_w25)
  clear HWxxxxxxxxxxxxxxxxx
  have HMxx := Lib.hid (HMx.out.below hb_w25)
  clear HMx
  have Hhsx := Lib.hid (Hhs.out.below hb_w25)
  clear Hhs
  have Hh1 := Lib.hid (XR2.of_copy hX_h1 hg_h1); clear hX_h1 hg_h1
  go_wp2_with fail
  refine (toInt64S_any _ l2 _ (hM2.below hB_w25) hlen2).mono ?_
  rintro e' w26 ⟨u_h2, rfl, hX_h2, _, hb_w26⟩
  have hB_w26 := hB_w25.trans (hb_w26.mono hB_w25.size)
  have HWxxxxxxxxxxxxxxxxxxx := Lib.hid (HWxxxxxxxxxxxxxxxxxx.out.below hb_w26)
  clear HWxxxxxxxxxxxxxxxxxx
  have HMxxx := Lib.hid (HMxx.out.below hb_w26)
  clear HMxx
  have Hhsxx := Lib.hid (Hhsx.out.below hb_w26)
  clear Hhsx
  have Hh1x := Lib.hid (Hh1.out.below hb_w26)
  clear Hh1
  have Hh2 := Lib.hid (XR1.of_copy hX_h2); clear hX_h2
  go_wp2_with fail
  refine (WornDoors_any ⟨a, b, c, d, e⟩ _ _ _ t l1 l2 n3 n4 _ (Hhsxx.out.v2) (Hh1x.out.v2) (Hh2.out.v1)).mono ?_
  rintro e' w27 ⟨r_h, rfl, hR_h, hb_w27⟩
  rw [HLA.out] at hR_h ⊢
  have hB_w27 := hB_w26.trans (hb_w27.mono hB_w26.size)
  have HWxxxxxxxxxxxxxxxxxxxx := Lib.hid (HWxxxxxxxxxxxxxxxxxxx.out.below hb_w27)
  clear HWxxxxxxxxxxxxxxxxxxx
  have HMxxxx := Lib.hid (HMxxx.out.below hb_w27)
  clear HMxxx
  have Hhsxxx := Lib.hid (Hhsxx.out.below hb_w27)
  clear Hhsxx
  have Hh1xx := Lib.hid (Hh1x.out.below hb_w27)
  clear Hh1x
  have Hh2x := Lib.hid (Hh2.out.below hb_w27)
  clear Hh2
  have HGh := Lib.hid (XR1.of_F1 hR_h); clear hR_h
  clear Hhsxxx
  clear Hh1xx
  clear Hh2x
  go_wp2_with fail
  refine (eqInt64S_b _ _ ans.1 ans.1 _ true (by simp) (HGh.out.v1) HWxxxxxxxxxxxxxxxxxxxx.out).mono ?_
  rintro e' w28 ⟨rfl, nq_w28, hw_w28⟩
  have hb_w28 : Below w27.heap.size w27 w28 := by rw [hw_w28]; exact below_drewN (Below.refl _ _) _
  clear hw_w28
  have hB_w28 := hB_w27.trans (hb_w28.mono hB_w27.size)
  have HWxxxxxxxxxxxxxxxxxxxxx := Lib.hid (HWxxxxxxxxxxxxxxxxxxxx.out.below hb_w28)
  clear HWxxxxxxxxxxxxxxxxxxxx
  have HMxxxxx := Lib.hid (HMxxxx.out.below hb_w28)
  clear HMxxxx
  have HGhx := Lib.hid (HGh.out.below hb_w28)
  clear HGh
  go_wp2_with fail
  refine (heldInt64S_any _ ans.1.length 1 _ (HMxxxxx.out.v1) (by omega) (by omega)).mono ?_
  rintro e' w29 ⟨rfl, rfl⟩
  rw [Hqm.out]
  go_wp2_with fail
  go_ret
  exact ⟨rfl, hB01.trans (hB_w28.mono (by omega))⟩
end Go.Proofs.Ytbckginfipeibaa
