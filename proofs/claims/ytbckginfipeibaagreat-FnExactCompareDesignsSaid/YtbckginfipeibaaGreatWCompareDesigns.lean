/- The walk of 'laws.FnExactCompareDesigns'. No conditions. -/
import Derived.Test.YtbckginfipeibaaGreatOpen
import Derived.Test.YtbckginfipeibaaGreatHeld
import Derived.Test.YtbckginfipeibaaGreatRange
import Derived.Test.YtbckginfipeibaaGreatCmpD
namespace Go.Proofs.YtbckginfipeibaaGreat
open Go.RowKit
set_option linter.unusedVariables false
set_option linter.unusedSimpArgs false

set_option maxHeartbeats 2000000 in
set_option maxRecDepth 100000 in
theorem fnExactCompareDesigns_walk (W : World) (a b c d e : Int) (u : Value) (t : List (List Int)) (hk5 : i64ok a ∧ i64ok b ∧ i64ok c ∧ i64ok d ∧ i64ok e) (h : V2 (Old W) W u t) (hk : ∀ r ∈ t, ∀ n ∈ r, i64ok n)
    (v1 : Value) (l1 : List (List Int)) (hl1 : V2 (Old W) W v1 l1) (hkl1 : ∀ r ∈ l1, ∀ n ∈ r, i64ok n)
    (v2 : Value) (l2 : List (List Int)) (hl2 : V2 (Old W) W v2 l2) (hkl2 : ∀ r ∈ l2, ∀ n ∈ r, i64ok n) :
    Calls Tryz.prog 4 #[.agg #[.int .i64 a, .int .i64 b, .int .i64 c, .int .i64 d, .int .i64 e, u], v1, v2] W fun e' w' => e' = .returned (.bool true) ∧ Below W.heap.size W w' := by
  clear hk hk5 hkl1 hkl2
  have hV := h
  obtain ⟨ua, uc, rfl, hm⟩ := h.form
  have hL1 := hl1
  obtain ⟨la1, lc1, rfl, hml1⟩ := hl1.form
  have hL2 := hl2
  obtain ⟨la2, lc2, rfl, hml2⟩ := hl2.form
  obtain ⟨W1, hW1, hB01, hz01, HZ01, hc01, hh01⟩ := box_facts W #[.int .i64 a, .int .i64 b, .int .i64 c, .int .i64 d, .int .i64 e, .slice ua t.length uc] 26
  have hV1 := hV.below hB01
  have hM1 := hL1.below hB01
  have hM2 := hL2.below hB01
  have hle := szL_le (ls := t) (left := 1048576) (by omega)
  by_cases hs0 : szL t 1048576 < 0
  · skip
    go_enter Tryz.func4, Tryz.ntmps4
    go_wp2_with fail
    rw [← hW1]
    refine (szSystem_any ⟨a, b, c, d, e⟩ _ t _ _ hV1 (by omega) (by omega)).mono ?_
    rintro e' w2 ⟨rfl, hB2⟩
    clear hc01 hh01
    go_wp2_with fail
    go_ret
    exact ⟨rfl, hB01.trans (hB2.mono (by omega))⟩
  have hok := szL_ok (ls := t) (left := 1048576) (by omega) (by omega)
  have hlen : t.length ≤ 1048576 := by omega
  have hrow : ∀ r ∈ t, r.length ≤ 1048576 := fun r hr => by have := hok.2 r hr; omega
  have Hrow := Lib.hid hrow; clear hrow hok
  obtain ⟨left0, hleft0⟩ : ∃ x, szL t 1048576 = x := ⟨_, rfl⟩
  rw [hleft0] at hs0 hle
  have hle1 := szL_le (ls := l1) (left := left0) (by omega)
  by_cases hs1 : szL l1 left0 < 0
  · skip
    go_enter Tryz.func4, Tryz.ntmps4
    go_wp2_with fail
    rw [← hW1]
    refine (szSystem_any ⟨a, b, c, d, e⟩ _ t _ _ hV1 (by omega) (by omega)).mono ?_
    rintro e' w2 ⟨rfl, hB2⟩
    clear hc01 hh01
    rw [hleft0]
    go_wp2_with fail
    refine (szInt64SS_any _ l1 _ _ (hM1.below hB2) (by omega) (by omega)).mono ?_
    rintro e' w2x1 ⟨rfl, rfl⟩
    go_wp2_with fail
    go_ret
    exact ⟨rfl, hB01.trans (hB2.mono (by omega))⟩
  have hok := szL_ok (ls := l1) (left := left0) (by omega) (by omega)
  have hlen1 : l1.length ≤ 1048576 := by omega
  have hrow : ∀ r ∈ l1, r.length ≤ 1048576 := fun r hr => by have := hok.2 r hr; omega
  have Hrow1 := Lib.hid hrow; clear hrow hok
  obtain ⟨left1, hleft1⟩ : ∃ x, szL l1 left0 = x := ⟨_, rfl⟩
  rw [hleft1] at hs1 hle1
  have hle2 := szL_le (ls := l2) (left := left1) (by omega)
  by_cases hs2 : szL l2 left1 < 0
  · skip
    go_enter Tryz.func4, Tryz.ntmps4
    go_wp2_with fail
    rw [← hW1]
    refine (szSystem_any ⟨a, b, c, d, e⟩ _ t _ _ hV1 (by omega) (by omega)).mono ?_
    rintro e' w2 ⟨rfl, hB2⟩
    clear hc01 hh01
    rw [hleft0]
    go_wp2_with fail
    refine (szInt64SS_any _ l1 _ _ (hM1.below hB2) (by omega) (by omega)).mono ?_
    rintro e' w2x1 ⟨rfl, rfl⟩
    rw [hleft1]
    go_wp2_with fail
    refine (szInt64SS_any _ l2 _ _ (hM2.below hB2) (by omega) (by omega)).mono ?_
    rintro e' w2x2 ⟨rfl, rfl⟩
    go_wp2_with fail
    go_ret
    exact ⟨rfl, hB01.trans (hB2.mono (by omega))⟩
  have hok := szL_ok (ls := l2) (left := left1) (by omega) (by omega)
  have hlen2 : l2.length ≤ 1048576 := by omega
  have hrow : ∀ r ∈ l2, r.length ≤ 1048576 := fun r hr => by have := hok.2 r hr; omega
  have Hrow2 := Lib.hid hrow; clear hrow hok
  obtain ⟨left2, hleft2⟩ : ∃ x, szL l2 left1 = x := ⟨_, rfl⟩
  rw [hleft2] at hs2 hle2
  obtain ⟨ans, hLA⟩ : ∃ r, cmpAns ⟨a, b, c, d, e⟩ t l1 l2 = r := ⟨_, rfl⟩
  have HLA := Lib.hid hLA; clear hLA
  go_enter Tryz.func4, Tryz.ntmps4
  go_wp2_with fail
  rw [← hW1]
  refine (szSystem_any ⟨a, b, c, d, e⟩ _ t _ _ hV1 (by omega) (by omega)).mono ?_
  rintro e' w2 ⟨rfl, hB2⟩
  rw [hleft0]
  have hx2 : ∀ o, (w2).cell? ⟨W.heap.size, o, none⟩ = (#[.int .i64 a, .int .i64 b, .int .i64 c, .int .i64 d, .int .i64 e, .slice ua t.length uc] : Array Value)[o]? := fun o => by rw [(bcell hB2).1 _ _ hz01, hc01]
  have Hc01 := Lib.hid hc01; clear hc01
  have HW1 := Lib.hid hW1; clear hW1
  clear hh01
  go_wp2_with fail
  refine (szInt64SS_any _ l1 _ _ (hM1.below hB2) (by omega) (by omega)).mono ?_
  rintro e' w2x1 ⟨rfl, rfl⟩
  rw [hleft1]
  go_wp2_with fail
  refine (szInt64SS_any _ l2 _ _ (hM2.below hB2) (by omega) (by omega)).mono ?_
  rintro e' w2x2 ⟨rfl, rfl⟩
  rw [hleft2]
  clear hleft0 hleft1 hleft2 hle hle1 hle2
  go_wp2_with fail
  refine (toSystem_any ⟨a, b, c, d, e⟩ _ t _ (hV1.below hB2) hlen Hrow.out).mono ?_
  rintro e' w3 ⟨u_ps, rfl, hF_ps, hb_w3⟩
  clear hx2
  have hB_w3 := hB2.trans (hb_w3.mono hB2.size)
  have Hps := Lib.hid (XR2.of_F2 hF_ps); clear hF_ps
  clear hs0 hs1 hs2
  go_wp2_with fail
  refine (toInt64SS_any _ l1 _ (hM1.below hB_w3) hlen1 Hrow1.out).mono ?_
  rintro e' w4 ⟨u_p1, bk_p1, rfl, hX_p1, hg_p1, _, hb_w4⟩
  have hB_w4 := hB_w3.trans (hb_w4.mono hB_w3.size)
  have Hpsx := Lib.hid (Hps.out.below hb_w4)
  clear Hps
  have Hp1 := Lib.hid (XR2.of_copy hX_p1 hg_p1); clear hX_p1 hg_p1
  go_wp2_with fail
  refine (toInt64SS_any _ l2 _ (hM2.below hB_w4) hlen2 Hrow2.out).mono ?_
  rintro e' w5 ⟨u_p2, bk_p2, rfl, hX_p2, hg_p2, _, hb_w5⟩
  have hB_w5 := hB_w4.trans (hb_w5.mono hB_w4.size)
  have Hpsxx := Lib.hid (Hpsx.out.below hb_w5)
  clear Hpsx
  have Hp1x := Lib.hid (Hp1.out.below hb_w5)
  clear Hp1
  have Hp2 := Lib.hid (XR2.of_copy hX_p2 hg_p2); clear hX_p2 hg_p2
  go_wp2_with fail
  refine (CompareDesignsR_any ⟨a, b, c, d, e⟩ _ _ _ t l1 l2 _ (Hpsxx.out.v2) (Hp1x.out.v2) (Hp2.out.v2)).mono ?_
  rintro e' w6 ⟨rfl, hb_w6⟩
  rw [HLA.out]
  have hB_w6 := hB_w5.trans (hb_w6.mono hB_w5.size)
  have Hpsxxx := Lib.hid (Hpsxx.out.below hb_w6)
  clear Hpsxx
  have Hp1xx := Lib.hid (Hp1x.out.below hb_w6)
  clear Hp1x
  have Hp2x := Lib.hid (Hp2.out.below hb_w6)
  clear Hp2
  clear Hpsxxx
  clear Hp1xx
  clear Hp2x
  have hxS : ∀ o, w6.cell? ⟨W.heap.size, o, none⟩ = (#[.int .i64 a, .int .i64 b, .int .i64 c, .int .i64 d, .int .i64 e, .slice ua t.length uc] : Array Value)[o]? := fun o => by rw [(bcell hB_w6).1 _ _ hz01, Hc01.out]
  go_wp2_with fail
  refine (toSystem_any ⟨a, b, c, d, e⟩ _ t _ (hV1.below hB_w6) hlen Hrow.out).mono ?_
  rintro e' w7 ⟨u_qs, rfl, hF_qs, hb_w7⟩
  clear hxS
  have hB_w7 := hB_w6.trans (hb_w7.mono hB_w6.size)
  have Hqs := Lib.hid (XR2.of_F2 hF_qs); clear hF_qs
  obtain ⟨fa_qs, fc_qs, rfl⟩ := Hqs.out.form
  go_wp2_with fail
  obtain ⟨w8, hW_w8, hb_w8, hz_w8, HZ_w8, hc_w8, _⟩ := box_facts w7 #[.int .i64 a, .int .i64 b, .int .i64 c, .int .i64 d, .int .i64 e, .slice fa_qs t.length fc_qs] 33
  rw [← hW_w8]
  have HW_w8 := Lib.hid hW_w8; clear hW_w8
  have hB_w8 := hB_w7.trans (hb_w8.mono hB_w7.size)
  have Hqsx := Lib.hid (Hqs.out.below hb_w8)
  clear Hqs
  have Hc_b := Lib.hid hc_w8; clear hc_w8
  have hbb_w8 : Below w8.heap.size w8 w8 := Below.refl _ _
  refine (toInt64SS_any _ l1 _ (hM1.below hB_w8) hlen1 Hrow1.out).mono ?_
  rintro e' w9 ⟨u_q1, bk_q1, rfl, hX_q1, hg_q1, _, hb_w9⟩
  have hB_w9 := hB_w8.trans (hb_w9.mono hB_w8.size)
  have Hqsxx := Lib.hid (Hqsx.out.below hb_w9)
  clear Hqsx
  have hbb_w9 := hbb_w8.trans (hb_w9.mono hbb_w8.size)
  have Hq1 := Lib.hid (XR2.of_copy hX_q1 hg_q1); clear hX_q1 hg_q1
  obtain ⟨fa_q1, fc_q1, rfl⟩ := Hq1.out.form
  go_wp2_with fail
  refine (toInt64SS_any _ l2 _ (hM2.below hB_w9) hlen2 Hrow2.out).mono ?_
  rintro e' w10 ⟨u_q2, bk_q2, rfl, hX_q2, hg_q2, _, hb_w10⟩
  have hB_w10 := hB_w9.trans (hb_w10.mono hB_w9.size)
  have Hqsxxx := Lib.hid (Hqsxx.out.below hb_w10)
  clear Hqsxx
  have Hq1x := Lib.hid (Hq1.out.below hb_w10)
  clear Hq1
  have Hq2 := Lib.hid (XR2.of_copy hX_q2 hg_q2); clear hX_q2 hg_q2
  have hbb_w10 := hbb_w9.trans (hb_w10.mono hbb_w9.size)
  obtain ⟨fa_q2, fc_q2, rfl⟩ := Hq2.out.form
  have hzS6 : w6.heap.size ≤ w7.heap.size := hb_w7.size
  have hz6b : w7.heap.size ≤ w8.heap.size := hb_w8.size
  have hzz_w9 : w8.heap.size ≤ w9.heap.size := hb_w9.size
  have hzz_w10 : w9.heap.size ≤ w10.heap.size := hb_w10.size
  have hy1 : ∀ o, w10.cell? ⟨w7.heap.size, o, none⟩ = (#[.int .i64 a, .int .i64 b, .int .i64 c, .int .i64 d, .int .i64 e, .slice fa_qs t.length fc_qs] : Array Value)[o]? := fun o => by rw [(bcell hbb_w10).1 _ _ hz_w8, Hc_b.out]
  go_wp2_with fail
  refine (CompareDesigns_any ⟨a, b, c, d, e⟩ _ _ _ t l1 l2 _ (Hqsxxx.out.v2) (Hq1x.out.v2) (Hq2.out.v2)).mono ?_
  rintro e' w11 ⟨rfl, hb_w11⟩
  rw [HLA.out]
  have hB_w11 := hB_w10.trans (hb_w11.mono hB_w10.size)
  have Hqsxxxx := Lib.hid (Hqsxxx.out.below hb_w11)
  clear Hqsxxx
  have Hq1xx := Lib.hid (Hq1x.out.below hb_w11)
  clear Hq1x
  have Hq2x := Lib.hid (Hq2.out.below hb_w11)
  clear Hq2
  have hbb_w11 := hbb_w10.trans (hb_w11.mono hbb_w10.size)
  clear hy1
  have hzI : w10.heap.size ≤ w11.heap.size := hb_w11.size
  have hxx : ∀ o, w11.cell? ⟨W.heap.size, o, none⟩ = (#[.int .i64 a, .int .i64 b, .int .i64 c, .int .i64 d, .int .i64 e, .slice ua t.length uc] : Array Value)[o]? := fun o => by rw [(bcell hB_w11).1 _ _ hz01, Hc01.out]
  have hyx : ∀ o, w11.cell? ⟨w7.heap.size, o, none⟩ = (#[.int .i64 a, .int .i64 b, .int .i64 c, .int .i64 d, .int .i64 e, .slice fa_qs t.length fc_qs] : Array Value)[o]? := fun o => by rw [(bcell hbb_w11).1 _ _ hz_w8, Hc_b.out]
  have hV1x := (hV1.below hB_w11).any
  have hzz : W.heap.size < w11.heap.size ∧ w7.heap.size < w11.heap.size := by have := hB_w11.size; have := hbb_w11.size; omega
  have hV6x := Hqsxxxx.out.v2
  go_wp2_with fail
  go_region_held3 (fun w' => (∀ o, w'.cell? ⟨W.heap.size, o, none⟩ = (#[.int .i64 a, .int .i64 b, .int .i64 c, .int .i64 d, .int .i64 e, .slice ua t.length uc] : Array Value)[o]?) ∧ (∀ o, w'.cell? ⟨w7.heap.size, o, none⟩ = (#[.int .i64 a, .int .i64 b, .int .i64 c, .int .i64 d, .int .i64 e, .slice fa_qs t.length fc_qs] : Array Value)[o]?) ∧ Below w11.heap.size w11 w')
    (first | exact two_keep (by assumption) (by assumption) (by assumption) | exact ⟨hxx, hyx, (Below.refl _ _).drew⟩)
    (first | (go_at_call 8; refine (toSystem_any ⟨a, b, c, d, e⟩ _ t _ (hV1x.below (two_below (by assumption))) hlen Hrow.out).mono ?_; rintro e' wp ⟨vp, rfl, hFp, hb⟩) | (go_at_call 12; refine (eqSystem_b ⟨a, b, c, d, e⟩ ⟨a, b, c, d, e⟩ _ _ t t _ true (by simp [eqMk_self]) (hV6x.below (two_below (by assumption))) (F2.v2 (by assumption))).mono ?_; rintro e' wq ⟨rfl, hb⟩))
  obtain ⟨w12, rfl⟩ : ∃ x, x = wq := ⟨_, rfl⟩
  have hb_w12 := two_below (w0 := w11) (by assumption)
  have hB_w12 := hB_w11.trans (hb_w12.mono hB_w11.size)
  have Hqsxxxxx := Lib.hid (Hqsxxxx.out.below hb_w12)
  clear Hqsxxxx
  have Hq1xxx := Lib.hid (Hq1xx.out.below hb_w12)
  clear Hq1xx
  have Hq2xx := Lib.hid (Hq2x.out.below hb_w12)
  clear Hq2x
  have hbb_w12 := hbb_w11.trans (hb_w12.mono hbb_w11.size)
  clear hV6x hV1x
  go_wp2_with fail
  refine (toInt64SS_any _ l1 _ (hM1.below hB_w12) hlen1 Hrow1.out).mono ?_
  rintro e' w13 ⟨u_z1, bk_z1, rfl, hX_z1, hg_z1, _, hb_w13⟩
  have hB_w13 := hB_w12.trans (hb_w13.mono hB_w12.size)
  have Hqsxxxxxx := Lib.hid (Hqsxxxxx.out.below hb_w13)
  clear Hqsxxxxx
  have Hq1xxxx := Lib.hid (Hq1xxx.out.below hb_w13)
  clear Hq1xxx
  have Hq2xxx := Lib.hid (Hq2xx.out.below hb_w13)
  clear Hq2xx
  have Hz1 := Lib.hid (XR2.of_copy hX_z1 hg_z1); clear hX_z1 hg_z1
  have hbb_w13 := hbb_w12.trans (hb_w13.mono hbb_w12.size)
  go_wp2_with fail
  refine (eqInt64SS_b _ _ l1 l1 _ true (by simp) (Hq1xxxx.out.v2) (Hz1.out.v2)).mono ?_
  rintro e' w14 ⟨rfl, nq_w14, hw_w14⟩
  have hb_w14 : Below w13.heap.size w13 w14 := by rw [hw_w14]; exact below_drewN (Below.refl _ _) _
  clear hw_w14
  have hB_w14 := hB_w13.trans (hb_w14.mono hB_w13.size)
  have Hqsxxxxxxx := Lib.hid (Hqsxxxxxx.out.below hb_w14)
  clear Hqsxxxxxx
  have Hq1xxxxx := Lib.hid (Hq1xxxx.out.below hb_w14)
  clear Hq1xxxx
  have Hq2xxxx := Lib.hid (Hq2xxx.out.below hb_w14)
  clear Hq2xxx
  have Hz1x := Lib.hid (Hz1.out.below hb_w14)
  clear Hz1
  have hbb_w14 := hbb_w13.trans (hb_w14.mono hbb_w13.size)
  clear Hz1x
  go_wp2_with fail
  refine (toInt64SS_any _ l2 _ (hM2.below hB_w14) hlen2 Hrow2.out).mono ?_
  rintro e' w15 ⟨u_z2, bk_z2, rfl, hX_z2, hg_z2, _, hb_w15⟩
  have hB_w15 := hB_w14.trans (hb_w15.mono hB_w14.size)
  have Hqsxxxxxxxx := Lib.hid (Hqsxxxxxxx.out.below hb_w15)
  clear Hqsxxxxxxx
  have Hq1xxxxxx := Lib.hid (Hq1xxxxx.out.below hb_w15)
  clear Hq1xxxxx
  have Hq2xxxxx := Lib.hid (Hq2xxxx.out.below hb_w15)
  clear Hq2xxxx
  have Hz2 := Lib.hid (XR2.of_copy hX_z2 hg_z2); clear hX_z2 hg_z2
  have hbb_w15 := hbb_w14.trans (hb_w15.mono hbb_w14.size)
  go_wp2_with fail
  refine (eqInt64SS_b _ _ l2 l2 _ true (by simp) (Hq2xxxxx.out.v2) (Hz2.out.v2)).mono ?_
  rintro e' w16 ⟨rfl, nq_w16, hw_w16⟩
  have hb_w16 : Below w15.heap.size w15 w16 := by rw [hw_w16]; exact below_drewN (Below.refl _ _) _
  clear hw_w16
  have hB_w16 := hB_w15.trans (hb_w16.mono hB_w15.size)
  have Hqsxxxxxxxxx := Lib.hid (Hqsxxxxxxxx.out.below hb_w16)
  clear Hqsxxxxxxxx
  have Hq1xxxxxxx := Lib.hid (Hq1xxxxxx.out.below hb_w16)
  clear Hq1xxxxxx
  have Hq2xxxxxx := Lib.hid (Hq2xxxxx.out.below hb_w16)
  clear Hq2xxxxx
  have Hz2x := Lib.hid (Hz2.out.below hb_w16)
  clear Hz2
  have hbb_w16 := hbb_w15.trans (hb_w16.mono hbb_w15.size)
  clear Hz2x
  go_wp2_with fail
  go_ret
  exact ⟨rfl, hB01.trans (hB_w16.mono (by omega))⟩
  
end Go.Proofs.YtbckginfipeibaaGreat
