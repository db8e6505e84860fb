/- The walk of 'laws.FnExactReadSteps'. No conditions. -/
import Derived.Test.YtjkfgldmeenmjaaOpen
import Derived.Test.YtjkfgldmeenmjaaHeld
import Derived.Test.YtjkfgldmeenmjaaRange
import Derived.Test.YtjkfgldmeenmjaaReadO
import Derived.Test.YtjkfgldmeenmjaaRangeS
namespace Go.Proofs.Ytjkfgldmeenmjaa
open Go.RowKit
set_option linter.unusedVariables false
set_option linter.unusedSimpArgs false

set_option maxHeartbeats 2000000 in
set_option maxRecDepth 100000 in
theorem fnExactReadSteps_walk (W : World) (a b c d e : Int) (u : Value) (t : List (List Int)) (hk5 : i64ok a ∧ i64ok b ∧ i64ok c ∧ i64ok d ∧ i64ok e) (h : V2 (Old W) W u t) (hk : ∀ r ∈ t, ∀ n ∈ r, i64ok n)
    (v1 : Value) (l1 : List (Int × Int)) (hl1 : VS (Old W) W v1 l1) (hkl1 : ∀ s ∈ l1, i64ok s.1 ∧ i64ok s.2) :
    Calls Try.prog 7 #[.agg #[.int .i64 a, .int .i64 b, .int .i64 c, .int .i64 d, .int .i64 e, u], v1] W fun e' w' => e' = .returned (.bool true) ∧ Below W.heap.size W w' := by
  clear hk hk5 hkl1
  have hV := h
  obtain ⟨ua, uc, rfl, hm⟩ := h.form
  have hL1 := hl1
  obtain ⟨la1, lc1, rfl, hml1⟩ := hl1.form
  obtain ⟨W1, hW1, hB01, hz01, HZ01, hc01, hh01⟩ := box_facts W #[.int .i64 a, .int .i64 b, .int .i64 c, .int .i64 d, .int .i64 e, .slice ua t.length uc] 26
  have hV1 := hV.below hB01
  have hM1 := hL1.below hB01
  have hle := szL_le (ls := t) (left := 1048576) (by omega)
  by_cases hs0 : szL t 1048576 < 0
  · skip
    go_enter Try.func7, Try.ntmps7
    go_wp2_with fail
    rw [← hW1]
    refine (szSystem_any ⟨a, b, c, d, e⟩ _ t _ _ hV1 (by omega) (by omega)).mono ?_
    rintro e' w2 ⟨rfl, hB2⟩
    clear hc01 hh01
    go_wp2_with fail
    go_ret
    exact ⟨rfl, hB01.trans (hB2.mono (by omega))⟩
  have hok := szL_ok (ls := t) (left := 1048576) (by omega) (by omega)
  have hlen : t.length ≤ 1048576 := by omega
  have hrow : ∀ r ∈ t, r.length ≤ 1048576 := fun r hr => by have := hok.2 r hr; omega
  have Hrow := Lib.hid hrow; clear hrow hok
  obtain ⟨left0, hleft0⟩ : ∃ x, szL t 1048576 = x := ⟨_, rfl⟩
  rw [hleft0] at hs0 hle
  have hszo1 := szI'_ok (n := l1.length) (left := left0) (by omega)
  have hle1 : szI' l1.length left0 ≤ 1048576 := by rcases hszo1 with ⟨h1, h2⟩ | ⟨h1, h2⟩ <;> omega
  have Hszo1 := Lib.hid hszo1; clear hszo1
  by_cases hs1 : szI' l1.length left0 < 0
  · skip
    go_enter Try.func7, Try.ntmps7
    go_wp2_with fail
    rw [← hW1]
    refine (szSystem_any ⟨a, b, c, d, e⟩ _ t _ _ hV1 (by omega) (by omega)).mono ?_
    rintro e' w2 ⟨rfl, hB2⟩
    clear hc01 hh01
    rw [hleft0]
    go_wp2_with fail
    refine (szStepS_any _ l1 _ _ (hM1.below hB2) (by omega)).mono ?_
    rintro e' w2x1 ⟨rfl, rfl⟩
    go_wp2_with fail
    go_ret
    exact ⟨rfl, hB01.trans (hB2.mono (by omega))⟩
  have hlen1 : l1.length ≤ 1048576 := by rcases Hszo1.out with ⟨h1, h2⟩ | ⟨h1, h2⟩ <;> omega
  obtain ⟨left1, hleft1⟩ : ∃ x, szI' l1.length left0 = x := ⟨_, rfl⟩
  rw [hleft1] at hs1 hle1
  obtain ⟨ans, hLA⟩ : ∃ r, readAns ⟨a, b, c, d, e⟩ t l1 = r := ⟨_, rfl⟩
  have HLA := Lib.hid hLA; clear hLA
  go_enter Try.func7, Try.ntmps7
  go_wp2_with fail
  rw [← hW1]
  refine (szSystem_any ⟨a, b, c, d, e⟩ _ t _ _ hV1 (by omega) (by omega)).mono ?_
  rintro e' w2 ⟨rfl, hB2⟩
  rw [hleft0]
  have hx2 : ∀ o, (w2).cell? ⟨W.heap.size, o, none⟩ = (#[.int .i64 a, .int .i64 b, .int .i64 c, .int .i64 d, .int .i64 e, .slice ua t.length uc] : Array Value)[o]? := fun o => by rw [(bcell hB2).1 _ _ hz01, hc01]
  have Hc01 := Lib.hid hc01; clear hc01
  have HW1 := Lib.hid hW1; clear hW1
  clear hh01
  go_wp2_with fail
  refine (szStepS_any _ l1 _ _ (hM1.below hB2) (by omega)).mono ?_
  rintro e' w2x1 ⟨rfl, rfl⟩
  rw [hleft1]
  clear hleft0 hleft1 hle hle1
  go_wp2_with fail
  refine (toSystem_any ⟨a, b, c, d, e⟩ _ t _ (hV1.below hB2) hlen Hrow.out).mono ?_
  rintro e' w3 ⟨u_ps, rfl, hF_ps, hb_w3⟩
  clear hx2
  have hB_w3 := hB2.trans (hb_w3.mono hB2.size)
  have Hps := Lib.hid (XR2.of_F2 hF_ps); clear hF_ps
  clear hs0 hs1
  go_wp2_with fail
  refine (toStepS_any _ l1 _ (hM1.below hB_w3) hlen1).mono ?_
  rintro e' w4 ⟨u_p1, rfl, hX_p1, hg_p1, hb_w4⟩
  have hB_w4 := hB_w3.trans (hb_w4.mono hB_w3.size)
  have Hpsx := Lib.hid (Hps.out.below hb_w4)
  clear Hps
  have Hp1 := Lib.hid (XRS.of_copy hX_p1 hg_p1); clear hX_p1 hg_p1
  go_wp2_with fail
  refine (ReadStepsR_any ⟨a, b, c, d, e⟩ _ _ t l1 _ (Hpsx.out.v2) (Hp1.out.vs)).mono ?_
  rintro e' w5 ⟨rfl, hb_w5⟩
  rw [HLA.out]
  have hB_w5 := hB_w4.trans (hb_w5.mono hB_w4.size)
  have Hpsxx := Lib.hid (Hpsx.out.below hb_w5)
  clear Hpsx
  have Hp1x := Lib.hid (Hp1.out.below hb_w5)
  clear Hp1
  clear Hpsxx
  clear Hp1x
  have hxS : ∀ o, w5.cell? ⟨W.heap.size, o, none⟩ = (#[.int .i64 a, .int .i64 b, .int .i64 c, .int .i64 d, .int .i64 e, .slice ua t.length uc] : Array Value)[o]? := fun o => by rw [(bcell hB_w5).1 _ _ hz01, Hc01.out]
  go_wp2_with fail
  refine (toSystem_any ⟨a, b, c, d, e⟩ _ t _ (hV1.below hB_w5) hlen Hrow.out).mono ?_
  rintro e' w6 ⟨u_qs, rfl, hF_qs, hb_w6⟩
  clear hxS
  have hB_w6 := hB_w5.trans (hb_w6.mono hB_w5.size)
  have Hqs := Lib.hid (XR2.of_F2 hF_qs); clear hF_qs
  obtain ⟨fa_qs, fc_qs, rfl⟩ := Hqs.out.form
  go_wp2_with fail
  obtain ⟨w7, hW_w7, hb_w7, hz_w7, HZ_w7, hc_w7, _⟩ := box_facts w6 #[.int .i64 a, .int .i64 b, .int .i64 c, .int .i64 d, .int .i64 e, .slice fa_qs t.length fc_qs] 34
  rw [← hW_w7]
  have HW_w7 := Lib.hid hW_w7; clear hW_w7
  have hB_w7 := hB_w6.trans (hb_w7.mono hB_w6.size)
  have Hqsx := Lib.hid (Hqs.out.below hb_w7)
  clear Hqs
  have Hc_b := Lib.hid hc_w7; clear hc_w7
  have hbb_w7 : Below w7.heap.size w7 w7 := Below.refl _ _
  refine (toStepS_any _ l1 _ (hM1.below hB_w7) hlen1).mono ?_
  rintro e' w8 ⟨u_q1, rfl, hX_q1, hg_q1, hb_w8⟩
  have hB_w8 := hB_w7.trans (hb_w8.mono hB_w7.size)
  have Hqsxx := Lib.hid (Hqsx.out.below hb_w8)
  clear Hqsx
  have hbb_w8 := hbb_w7.trans (hb_w8.mono hbb_w7.size)
  have Hq1 := Lib.hid (XRS.of_copy hX_q1 hg_q1); clear hX_q1 hg_q1
  obtain ⟨fa_q1, fc_q1, rfl⟩ := Hq1.out.form
  have hzS6 : w5.heap.size ≤ w6.heap.size := hb_w6.size
  have hz6b : w6.heap.size ≤ w7.heap.size := hb_w7.size
  have hzz_w8 : w7.heap.size ≤ w8.heap.size := hb_w8.size
  have hy1 : ∀ o, w8.cell? ⟨w6.heap.size, o, none⟩ = (#[.int .i64 a, .int .i64 b, .int .i64 c, .int .i64 d, .int .i64 e, .slice fa_qs t.length fc_qs] : Array Value)[o]? := fun o => by rw [(bcell hbb_w8).1 _ _ hz_w7, Hc_b.out]
  go_wp2_with fail
  refine (ReadSteps_any ⟨a, b, c, d, e⟩ _ _ t l1 _ (Hqsxx.out.v2) (Hq1.out.vs)).mono ?_
  rintro e' w9 ⟨rfl, hb_w9⟩
  rw [HLA.out]
  have hB_w9 := hB_w8.trans (hb_w9.mono hB_w8.size)
  have Hqsxxx := Lib.hid (Hqsxx.out.below hb_w9)
  clear Hqsxx
  have Hq1x := Lib.hid (Hq1.out.below hb_w9)
  clear Hq1
  have hbb_w9 := hbb_w8.trans (hb_w9.mono hbb_w8.size)
  clear hy1
  have hzI : w8.heap.size ≤ w9.heap.size := hb_w9.size
  have hxx : ∀ o, w9.cell? ⟨W.heap.size, o, none⟩ = (#[.int .i64 a, .int .i64 b, .int .i64 c, .int .i64 d, .int .i64 e, .slice ua t.length uc] : Array Value)[o]? := fun o => by rw [(bcell hB_w9).1 _ _ hz01, Hc01.out]
  have hyx : ∀ o, w9.cell? ⟨w6.heap.size, o, none⟩ = (#[.int .i64 a, .int .i64 b, .int .i64 c, .int .i64 d, .int .i64 e, .slice fa_qs t.length fc_qs] : Array Value)[o]? := fun o => by rw [(bcell hbb_w9).1 _ _ hz_w7, Hc_b.out]
  have hV1x := (hV1.below hB_w9).any
  have hzz : W.heap.size < w9.heap.size ∧ w6.heap.size < w9.heap.size := by have := hB_w9.size; have := hbb_w9.size; omega
  have hV6x := Hqsxxx.out.v2
  go_wp2_with fail
  go_region_held3 (fun w' => (∀ o, w'.cell? ⟨W.heap.size, o, none⟩ = (#[.int .i64 a, .int .i64 b, .int .i64 c, .int .i64 d, .int .i64 e, .slice ua t.length uc] : Array Value)[o]?) ∧ (∀ o, w'.cell? ⟨w6.heap.size, o, none⟩ = (#[.int .i64 a, .int .i64 b, .int .i64 c, .int .i64 d, .int .i64 e, .slice fa_qs t.length fc_qs] : Array Value)[o]?) ∧ Below w9.heap.size w9 w')
    (first | exact two_keep (by assumption) (by assumption) (by assumption) | exact ⟨hxx, hyx, (Below.refl _ _).drew⟩)
    (first | (go_at_call 12; refine (toSystem_any ⟨a, b, c, d, e⟩ _ t _ (hV1x.below (two_below (by assumption))) hlen Hrow.out).mono ?_; rintro e' wp ⟨vp, rfl, hFp, hb⟩) | (go_at_call 16; refine (eqSystem_b ⟨a, b, c, d, e⟩ ⟨a, b, c, d, e⟩ _ _ t t _ true (by simp [eqMk_self]) (hV6x.below (two_below (by assumption))) (F2.v2 (by assumption))).mono ?_; rintro e' wq ⟨rfl, hb⟩))
  obtain ⟨w10, rfl⟩ : ∃ x, x = wq := ⟨_, rfl⟩
  have hb_w10 := two_below (w0 := w9) (by assumption)
  have hB_w10 := hB_w9.trans (hb_w10.mono hB_w9.size)
  have Hqsxxxx := Lib.hid (Hqsxxx.out.below hb_w10)
  clear Hqsxxx
  have Hq1xx := Lib.hid (Hq1x.out.below hb_w10)
  clear Hq1x
  have hbb_w10 := hbb_w9.trans (hb_w10.mono hbb_w9.size)
  clear hV6x hV1x
  go_wp2_with fail
  refine (toStepS_any _ l1 _ (hM1.below hB_w10) hlen1).mono ?_
  rintro e' w11 ⟨u_z1, rfl, hX_z1, hg_z1, hb_w11⟩
  have hB_w11 := hB_w10.trans (hb_w11.mono hB_w10.size)
  have Hqsxxxxx := Lib.hid (Hqsxxxx.out.below hb_w11)
  clear Hqsxxxx
  have Hq1xxx := Lib.hid (Hq1xx.out.below hb_w11)
  clear Hq1xx
  have Hz1 := Lib.hid (XRS.of_copy hX_z1 hg_z1); clear hX_z1 hg_z1
  have hbb_w11 := hbb_w10.trans (hb_w11.mono hbb_w10.size)
  go_wp2_with fail
  refine (eqStepS_b _ _ l1 l1 _ true (by simp) (Hq1xxx.out.vs) (Hz1.out.vs)).mono ?_
  rintro e' w12 ⟨rfl, hb_w12⟩
  have hB_w12 := hB_w11.trans (hb_w12.mono hB_w11.size)
  have Hqsxxxxxx := Lib.hid (Hqsxxxxx.out.below hb_w12)
  clear Hqsxxxxx
  have Hq1xxxx := Lib.hid (Hq1xxx.out.below hb_w12)
  clear Hq1xxx
  have Hz1x := Lib.hid (Hz1.out.below hb_w12)
  clear Hz1
  have hbb_w12 := hbb_w11.trans (hb_w12.mono hbb_w11.size)
  clear Hz1x
  go_wp2_with fail
  go_ret
  exact ⟨rfl, hB01.trans (hB_w12.mono (by omega))⟩
  
end Go.Proofs.Ytjkfgldmeenmjaa
