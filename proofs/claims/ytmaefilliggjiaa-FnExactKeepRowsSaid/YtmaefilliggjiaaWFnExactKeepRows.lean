/- The walk of 'laws.FnExactKeepRows'. No conditions. -/
import Derived.Test.YtmaefilliggjiaaMLib
import Derived.Test.YtmaefilliggjiaaMMark
import Derived.Test.YtmaefilliggjiaaKeepR
namespace Go.Proofs.Ytmaefilliggjiaa
open Go.RowKit
set_option linter.unusedVariables false
set_option linter.unusedSimpArgs false
def BX (b : Nat) (w : World) (cs : Array Value) (T : TypeId) : Prop := w.heap[b]? = some (.cells cs T (0, 0))
theorem BX.below {b : Nat} {w w' : World} {cs : Array Value} {T : TypeId} (h : BX b w cs T) (hb : Below w.heap.size w w') : BX b w' cs T := (hb.block _ (lt_of_heap h)).trans h
theorem BX.chg {b lo hi : Nat} {w w' : World} {cs : Array Value} {T : TypeId} (h : BX b w cs T) (hc : Chg (Rg lo hi) w w') (hd : b < lo ∨ hi ≤ b) : BX b w' cs T :=
 (hc.block _ (lt_of_heap h) (fun hf => by obtain ⟨h1, h2⟩ := hf; omega)).trans h
theorem keepAns_len {m : Mk} {t cuts T C : List (List Int)} {rows : List Int} {c : Int} (h : keepAns m t cuts rows = (c, T, C)) : (T.length ≤ 1048576 ∧ ∀ r ∈ T, r.length ≤ 1048576) ∧ (C.length ≤ 1048576 ∧ ∀ r ∈ C, r.length ≤ 1048576) := by
 by_cases hc : c = 0
 ·subst hc
  have hp := (keep_part h).1
  have hf := fits_of hp
  have hmk := Mk.ok_iff.1 hf.ok
  have hrows := hf.rows
  have hfew := hf.few
  have hdoors := hf.doors
  refine ⟨⟨by omega, fun r hr => ?_⟩, by omega, fun r hr => ?_⟩
  ·obtain ⟨k, hk, e⟩ := List.getElem_of_mem hr
   have := hf.cols k hk
   have e2 : getl T k = r := by rw [← e]; unfold getl; simp [hk]
   rw [← e2]; omega
  ·obtain ⟨k, hk, e⟩ := List.getElem_of_mem hr
   have := hf.lens k hk
   have e2 : getl C k = r := by rw [← e]; unfold getl; simp [hk]
   rw [← e2]; omega
 ·unfold keepAns at h
  split at h
  ·injection h with h1 h2; injection h2 with h2 h3; subst h2 h3; simp
  split at h
  ·injection h with h1 h2; injection h2 with h2 h3; subst h2 h3; simp
  split at h
  ·injection h with h1 h2; injection h2 with h2 h3; subst h2 h3; simp
  ·injection h with h1 h2; exact absurd h1.symm hc
set_option maxHeartbeats 8000000 in
set_option maxRecDepth 100000 in
theorem fnExactKeepRows_walk (W : World) (a b c d e : Int) (u : Value) (t : List (List Int)) (hk5 : i64ok a ∧ i64ok b ∧ i64ok c ∧ i64ok d ∧ i64ok e) (h : V2 (Old W) W u t) (hk : ∀ r ∈ t, ∀ n ∈ r, i64ok n)
  (v1 : Value) (l1 : List (List Int)) (hl1 : V2 (Old W) W v1 l1) (hkl1 : ∀ r ∈ l1, ∀ n ∈ r, i64ok n)
  (v2 : Value) (l2 : List Int) (hl2 : V1 (Old W) W v2 l2) (hkl2 : ∀ n ∈ l2, i64ok n) :
  Calls Try.prog 3 #[.agg #[.int .i64 a, .int .i64 b, .int .i64 c, .int .i64 d, .int .i64 e, u], v1, v2] W fun e' w' => e' = .returned (.bool true) ∧ Below W.heap.size W w' := by
 clear hk hk5 hkl1 hkl2
 have hV := h
 obtain ⟨ua, uc, rfl, hm⟩ := h.form
 have hL1 := hl1
 obtain ⟨la1, lc1, rfl, hml1⟩ := hl1.form
 have hL2 := hl2
 obtain ⟨la2, lc2, rfl, hml2⟩ := hl2.form
 obtain ⟨W1, hW1, hB01, hz01, HZ01, hc01, hh01⟩ := box_facts W #[.int .i64 a, .int .i64 b, .int .i64 c, .int .i64 d, .int .i64 e, .slice ua t.length uc] 26
 have hV1 := hV.below hB01
 have hM1 := hL1.below hB01
 have hM2 := hL2.below hB01
 by_cases hbig2 : l2.length > 1048576
 ·go_enter Try.func3, Try.ntmps3
  go_wp2_with fail
  rw [← hW1]
  go_ret
  exact ⟨rfl, hB01⟩
 have hlen2 : l2.length ≤ 1048576 := by omega
 have hle := szL_le (ls := t) (left := 1048576) (by omega)
 by_cases hs0 : szL t 1048576 < 0
 ·skip
  go_enter Try.func3, Try.ntmps3
  go_wp2_with fail
  rw [← hW1]
  refine (szSystem_any ⟨a, b, c, d, e⟩ _ t _ _ hV1 (by omega) (by omega)).mono ?_
  rintro e' w2 ⟨rfl, hB2⟩
  clear hc01 hh01
  go_wp2_with fail
  go_ret
  exact ⟨rfl, hB01.trans (hB2.mono (by omega))⟩
 have hok := szL_ok (ls := t) (left := 1048576) (by omega) (by omega)
 have hlen : t.length ≤ 1048576 := by omega
 have hrow : ∀ r ∈ t, r.length ≤ 1048576 := fun r hr => by have := hok.2 r hr; omega
 have Hrow := Lib.hid hrow; clear hrow hok
 obtain ⟨left0, hleft0⟩ : ∃ x, szL t 1048576 = x := ⟨_, rfl⟩
 rw [hleft0] at hs0 hle
 have hle1 := szL_le (ls := l1) (left := left0) (by omega)
 by_cases hs1 : szL l1 left0 < 0
 ·skip
  go_enter Try.func3, Try.ntmps3
  go_wp2_with fail
  rw [← hW1]
  refine (szSystem_any ⟨a, b, c, d, e⟩ _ t _ _ hV1 (by omega) (by omega)).mono ?_
  rintro e' w2 ⟨rfl, hB2⟩
  clear hc01 hh01
  rw [hleft0]
  go_wp2_with fail
  refine (szInt64SS_any _ l1 _ _ (hM1.below hB2) (by omega) (by omega)).mono ?_
  rintro e' w2x1 ⟨rfl, rfl⟩
  go_wp2_with fail
  go_ret
  exact ⟨rfl, hB01.trans (hB2.mono (by omega))⟩
 have hok := szL_ok (ls := l1) (left := left0) (by omega) (by omega)
 have hlen1 : l1.length ≤ 1048576 := by omega
 have hrow : ∀ r ∈ l1, r.length ≤ 1048576 := fun r hr => by have := hok.2 r hr; omega
 have Hrow1 := Lib.hid hrow; clear hrow hok
 obtain ⟨left1, hleft1⟩ : ∃ x, szL l1 left0 = x := ⟨_, rfl⟩
 rw [hleft1] at hs1 hle1
 obtain ⟨⟨ac, aT, aC⟩, hLA⟩ : ∃ r, keepAns ⟨a, b, c, d, e⟩ t l1 l2 = r := ⟨_, rfl⟩
 have hal := keepAns_len hLA
 have HLA := Lib.hid hLA; clear hLA
 have Hal := Lib.hid hal; clear hal
 obtain ⟨MB, hMB⟩ : ∃ x, keepM ⟨a, b, c, d, e⟩ ac = x := ⟨_, rfl⟩
 have HMB := Lib.hid hMB; clear hMB
 go_enter Try.func3, Try.ntmps3
 go_wp2_with fail
 rw [← hW1]
 refine (szSystem_any ⟨a, b, c, d, e⟩ _ t _ _ hV1 (by omega) (by omega)).mono ?_
 rintro e' w2 ⟨rfl, hB2⟩
 rw [hleft0]
 have HBW := Lib.hid (show BX W.heap.size w2 #[.int .i64 a, .int .i64 b, .int .i64 c, .int .i64 d, .int .i64 e, .slice ua t.length uc] 26 from BX.below (show BX W.heap.size W1 #[.int .i64 a, .int .i64 b, .int .i64 c, .int .i64 d, .int .i64 e, .slice ua t.length uc] 26 from hh01) hB2)
 have hx2 := fun o => cell_of_block HBW.out o
 have hzW2 := hB2.size
 have hzW1 : W.heap.size < W1.heap.size := hz01
 have HB := Lib.hid hB2; clear hB2
 clear hW1 hh01 hc01
 go_wp2_with fail
 refine (szInt64SS_any _ l1 _ _ (hM1.below HB.out) (by omega) (by omega)).mono ?_
 rintro e' w2x1 ⟨rfl, rfl⟩
 rw [hleft1]
 clear hleft0 hleft1 hle hle1
 have hxA := fun o => cell_of_block HBW.out o
 go_wp2_with fail
 refine (toSystem_any ⟨a, b, c, d, e⟩ _ t _ (hV1.below HB.out) hlen Hrow.out).mono ?_
 rintro e' w3 ⟨u_ps, rfl, hF, hb⟩
 have hz_w3 := hb.size
 have HBWx := Lib.hid (HBW.out.below hb)
 clear HBW; have HBW := HBWx; clear HBWx
 have HBx := Lib.hid (HB.out.trans (hb.mono (by omega)))
 clear HB; have HB := HBx; clear HBx
 clear hb
 have Hps := Lib.hid (XR2.of_F2 hF); clear hF
 obtain ⟨fa_ps, fc_ps, rfl⟩ := Hps.out.form
 clear hx2 hxA
 go_wp2_with fail
 refine (toInt64SS_any _ l1 _ (hM1.below HB.out) hlen1 Hrow1.out).mono ?_
 rintro e' w4 ⟨u_pr, bk_pr, rfl, hX, hg, _, hb⟩
 have hz_w4 := hb.size
 have HBWx := Lib.hid (HBW.out.below hb)
 clear HBW; have HBW := HBWx; clear HBWx
 have Hpsx := Lib.hid (Hps.out.below hb)
 clear Hps; have Hps := Hpsx; clear Hpsx
 have HBx := Lib.hid (HB.out.trans (hb.mono (by omega)))
 clear HB; have HB := HBx; clear HBx
 clear hb
 have Hpr := Lib.hid (XR2.of_copy hX hg); clear hX hg
 obtain ⟨fa_pr, fc_pr, rfl⟩ := Hpr.out.form
 go_wp2_with fail
 refine (toInt64S_any _ l2 _ (hM2.below HB.out) hlen2).mono ?_
 rintro e' w5 ⟨u_pk, rfl, hX, _, hb⟩
 have hz_w5 := hb.size
 have HBWx := Lib.hid (HBW.out.below hb)
 clear HBW; have HBW := HBWx; clear HBWx
 have Hpsx := Lib.hid (Hps.out.below hb)
 clear Hps; have Hps := Hpsx; clear Hpsx
 have Hprx := Lib.hid (Hpr.out.below hb)
 clear Hpr; have Hpr := Hprx; clear Hprx
 have HBx := Lib.hid (HB.out.trans (hb.mono (by omega)))
 clear HB; have HB := HBx; clear HBx
 clear hb
 have Hpk := Lib.hid (XR1.of_copy hX); clear hX
 obtain ⟨fa_pk, fc_pk, rfl⟩ := Hpk.out.form
 go_wp2_with fail
 have hkr := KeepRowsR_own ⟨a, b, c, d, e⟩ _ _ _ t l1 l2 _ Hps.out.v2 Hpr.out.v2 Hpk.out.v1
 rw [HLA.out] at hkr
 dsimp only at hkr
 rw [HMB.out] at hkr
 refine hkr.mono ?_
 clear hkr
 rintro e' w6 ⟨ru_s, rv_s, rfl, hK, hb⟩
 have hz_w6 := hb.size
 have HBWx := Lib.hid (HBW.out.below hb)
 clear HBW; have HBW := HBWx; clear HBWx
 have Hpsx := Lib.hid (Hps.out.below hb)
 clear Hps; have Hps := Hpsx; clear Hpsx
 have Hprx := Lib.hid (Hpr.out.below hb)
 clear Hpr; have Hpr := Hprx; clear Hprx
 have Hpkx := Lib.hid (Hpk.out.below hb)
 clear Hpk; have Hpk := Hpkx; clear Hpkx
 have HBx := Lib.hid (HB.out.trans (hb.mono (by omega)))
 clear HB; have HB := HBx; clear HBx
 clear hb
 have HXs := Lib.hid (XP.of_KOut hK); clear hK
 obtain ⟨ga_s, gc_s, rfl⟩ := HXs.out.form1
 obtain ⟨ka_s, kc_s, rfl⟩ := HXs.out.form2
 clear Hps
 clear Hpr
 clear Hpk
 obtain ⟨w7, hWb, hb, hzq, _, _, hh⟩ := box_facts w6 #[.int .i64 MB.c, .int .i64 MB.d, .int .i64 MB.s, .int .i64 MB.e, .int .i64 MB.l, .slice ga_s aT.length gc_s] 32
 have hq0 : ∀ o, (w6.alloc (.cells #[.int .i64 MB.c, .int .i64 MB.d, .int .i64 MB.s, .int .i64 MB.e, .int .i64 MB.l, .slice ga_s aT.length gc_s] 32)).cell? ⟨W.heap.size, o, none⟩ = (#[.int .i64 a, .int .i64 b, .int .i64 c, .int .i64 d, .int .i64 e, .slice ua t.length uc] : Array Value)[o]? := fun o => by rw [← hWb]; exact cell_of_block (HBW.out.below hb) o
 have HWb := Lib.hid hWb; clear hWb
 go_wp2_with fail
 rw [← HWb.out]
 clear HWb
 clear hq0
 have hz_w7 := hb.size
 have HBWx := Lib.hid (HBW.out.below hb)
 clear HBW; have HBW := HBWx; clear HBWx
 have HXsx := Lib.hid (HXs.out.below hb)
 clear HXs; have HXs := HXsx; clear HXsx
 have HBx := Lib.hid (HB.out.trans (hb.mono (by omega)))
 clear HB; have HB := HBx; clear HBx
 clear hb
 have HB8 := Lib.hid (show BX w6.heap.size w7 #[.int .i64 MB.c, .int .i64 MB.d, .int .i64 MB.s, .int .i64 MB.e, .int .i64 MB.l, .slice ga_s aT.length gc_s] 32 from hh); clear hh
 refine (toSystem_any ⟨a, b, c, d, e⟩ _ t _ (hV1.below HB.out) hlen Hrow.out).mono ?_
 rintro e' w8 ⟨u_qs, rfl, hF, hb⟩
 have hz_w8 := hb.size
 have HBWx := Lib.hid (HBW.out.below hb)
 clear HBW; have HBW := HBWx; clear HBWx
 have HXsx := Lib.hid (HXs.out.below hb)
 clear HXs; have HXs := HXsx; clear HXsx
 have HB8x := Lib.hid (HB8.out.below hb)
 clear HB8; have HB8 := HB8x; clear HB8x
 have HBx := Lib.hid (HB.out.trans (hb.mono (by omega)))
 clear HB; have HB := HBx; clear HBx
 clear hb
 have Hqs := Lib.hid (XR2.of_F2 hF); clear hF
 obtain ⟨fa_qs, fc_qs, rfl⟩ := Hqs.out.form
 obtain ⟨w9, hWb, hb, hzq, _, _, hh⟩ := box_facts w8 #[.int .i64 a, .int .i64 b, .int .i64 c, .int .i64 d, .int .i64 e, .slice fa_qs t.length fc_qs] 32
 have HWb := Lib.hid hWb; clear hWb
 go_wp2_with fail
 rw [← HWb.out]
 clear HWb
 have hz_w9 := hb.size
 have HBWx := Lib.hid (HBW.out.below hb)
 clear HBW; have HBW := HBWx; clear HBWx
 have HXsx := Lib.hid (HXs.out.below hb)
 clear HXs; have HXs := HXsx; clear HXsx
 have HB8x := Lib.hid (HB8.out.below hb)
 clear HB8; have HB8 := HB8x; clear HB8x
 have Hqsx := Lib.hid (Hqs.out.below hb)
 clear Hqs; have Hqs := Hqsx; clear Hqsx
 have HBx := Lib.hid (HB.out.trans (hb.mono (by omega)))
 clear HB; have HB := HBx; clear HBx
 clear hb
 have HBq := Lib.hid (show BX w8.heap.size w9 #[.int .i64 a, .int .i64 b, .int .i64 c, .int .i64 d, .int .i64 e, .slice fa_qs t.length fc_qs] 32 from hh); clear hh
 refine (toInt64SS_any _ l1 _ (hM1.below HB.out) hlen1 Hrow1.out).mono ?_
 rintro e' w10 ⟨u_qr, bk_qr, rfl, hX, hg, _, hb⟩
 have hz_w10 := hb.size
 have HBWx := Lib.hid (HBW.out.below hb)
 clear HBW; have HBW := HBWx; clear HBWx
 have HXsx := Lib.hid (HXs.out.below hb)
 clear HXs; have HXs := HXsx; clear HXsx
 have HB8x := Lib.hid (HB8.out.below hb)
 clear HB8; have HB8 := HB8x; clear HB8x
 have Hqsx := Lib.hid (Hqs.out.below hb)
 clear Hqs; have Hqs := Hqsx; clear Hqsx
 have HBqx := Lib.hid (HBq.out.below hb)
 clear HBq; have HBq := HBqx; clear HBqx
 have HBx := Lib.hid (HB.out.trans (hb.mono (by omega)))
 clear HB; have HB := HBx; clear HBx
 clear hb
 have Hqr := Lib.hid (XR2.of_copy hX hg); clear hX hg
 obtain ⟨fa_qr, fc_qr, rfl⟩ := Hqr.out.form
 go_wp2_with fail
 refine (toInt64S_any _ l2 _ (hM2.below HB.out) hlen2).mono ?_
 rintro e' w11 ⟨u_qk, rfl, hX, _, hb⟩
 have hz_w11 := hb.size
 have HBWx := Lib.hid (HBW.out.below hb)
 clear HBW; have HBW := HBWx; clear HBWx
 have HXsx := Lib.hid (HXs.out.below hb)
 clear HXs; have HXs := HXsx; clear HXsx
 have HB8x := Lib.hid (HB8.out.below hb)
 clear HB8; have HB8 := HB8x; clear HB8x
 have Hqsx := Lib.hid (Hqs.out.below hb)
 clear Hqs; have Hqs := Hqsx; clear Hqsx
 have HBqx := Lib.hid (HBq.out.below hb)
 clear HBq; have HBq := HBqx; clear HBqx
 have Hqrx := Lib.hid (Hqr.out.below hb)
 clear Hqr; have Hqr := Hqrx; clear Hqrx
 have HBx := Lib.hid (HB.out.trans (hb.mono (by omega)))
 clear HB; have HB := HBx; clear HBx
 clear hb
 have Hqk := Lib.hid (XR1.of_copy hX); clear hX
 obtain ⟨fa_qk, fc_qk, rfl⟩ := Hqk.out.form
 have hy := fun o => cell_of_block HBq.out o
 go_wp2_with fail
 clear hy
 have hkr := KeepRows_any ⟨a, b, c, d, e⟩ _ _ _ t l1 l2 _ Hqs.out.v2 Hqr.out.v2 Hqk.out.v1
 rw [HLA.out] at hkr
 dsimp only at hkr
 rw [HMB.out] at hkr
 refine hkr.mono ?_
 clear hkr
 rintro e' w12 ⟨ru_g, rv_g, rfl, hK, hb⟩
 have hz_w12 := hb.size
 have HBWx := Lib.hid (HBW.out.below hb)
 clear HBW; have HBW := HBWx; clear HBWx
 have HXsx := Lib.hid (HXs.out.below hb)
 clear HXs; have HXs := HXsx; clear HXsx
 have HB8x := Lib.hid (HB8.out.below hb)
 clear HB8; have HB8 := HB8x; clear HB8x
 have Hqsx := Lib.hid (Hqs.out.below hb)
 clear Hqs; have Hqs := Hqsx; clear Hqsx
 have HBqx := Lib.hid (HBq.out.below hb)
 clear HBq; have HBq := HBqx; clear HBqx
 have Hqrx := Lib.hid (Hqr.out.below hb)
 clear Hqr; have Hqr := Hqrx; clear Hqrx
 have Hqkx := Lib.hid (Hqk.out.below hb)
 clear Hqk; have Hqk := Hqkx; clear Hqkx
 have HBx := Lib.hid (HB.out.trans (hb.mono (by omega)))
 clear HB; have HB := HBx; clear HBx
 clear hb
 have HXg := Lib.hid (XP.of_KOut hK); clear hK
 obtain ⟨ga_g, gc_g, rfl⟩ := HXg.out.form1
 obtain ⟨ka_g, kc_g, rfl⟩ := HXg.out.form2
 obtain ⟨w13, hWb, hb, hzq, _, _, hh⟩ := box_facts w12 #[.int .i64 MB.c, .int .i64 MB.d, .int .i64 MB.s, .int .i64 MB.e, .int .i64 MB.l, .slice ga_g aT.length gc_g] 32
 have hq0 : ∀ o, (w12.alloc (.cells #[.int .i64 MB.c, .int .i64 MB.d, .int .i64 MB.s, .int .i64 MB.e, .int .i64 MB.l, .slice ga_g aT.length gc_g] 32)).cell? ⟨w6.heap.size, o, none⟩ = (#[.int .i64 MB.c, .int .i64 MB.d, .int .i64 MB.s, .int .i64 MB.e, .int .i64 MB.l, .slice ga_s aT.length gc_s] : Array Value)[o]? := fun o => by rw [← hWb]; exact cell_of_block (HB8.out.below hb) o
 have HWb := Lib.hid hWb; clear hWb
 go_wp2_with fail
 rw [← HWb.out]
 clear HWb
 clear hq0
 have hz_w13 := hb.size
 have HBWx := Lib.hid (HBW.out.below hb)
 clear HBW; have HBW := HBWx; clear HBWx
 have HXsx := Lib.hid (HXs.out.below hb)
 clear HXs; have HXs := HXsx; clear HXsx
 have HB8x := Lib.hid (HB8.out.below hb)
 clear HB8; have HB8 := HB8x; clear HB8x
 have Hqsx := Lib.hid (Hqs.out.below hb)
 clear Hqs; have Hqs := Hqsx; clear Hqsx
 have HBqx := Lib.hid (HBq.out.below hb)
 clear HBq; have HBq := HBqx; clear HBqx
 have Hqrx := Lib.hid (Hqr.out.below hb)
 clear Hqr; have Hqr := Hqrx; clear Hqrx
 have Hqkx := Lib.hid (Hqk.out.below hb)
 clear Hqk; have Hqk := Hqkx; clear Hqkx
 have HXgx := Lib.hid (HXg.out.below hb)
 clear HXg; have HXg := HXgx; clear HXgx
 have HBx := Lib.hid (HB.out.trans (hb.mono (by omega)))
 clear HB; have HB := HBx; clear HBx
 clear hb
 have HBg := Lib.hid (show BX w12.heap.size w13 #[.int .i64 MB.c, .int .i64 MB.d, .int .i64 MB.s, .int .i64 MB.e, .int .i64 MB.l, .slice ga_g aT.length gc_g] 32 from hh); clear hh
 refine (eqSystem_b MB MB _ _ aT aT _ true (by simp [eqMk_self]) HXg.out.v1 HXs.out.v1).mono ?_
 rintro e' w14 ⟨rfl, hb⟩
 have hz_w14 := hb.size
 have HBWx := Lib.hid (HBW.out.below hb)
 clear HBW; have HBW := HBWx; clear HBWx
 have HXsx := Lib.hid (HXs.out.below hb)
 clear HXs; have HXs := HXsx; clear HXsx
 have HB8x := Lib.hid (HB8.out.below hb)
 clear HB8; have HB8 := HB8x; clear HB8x
 have Hqsx := Lib.hid (Hqs.out.below hb)
 clear Hqs; have Hqs := Hqsx; clear Hqsx
 have HBqx := Lib.hid (HBq.out.below hb)
 clear HBq; have HBq := HBqx; clear HBqx
 have Hqrx := Lib.hid (Hqr.out.below hb)
 clear Hqr; have Hqr := Hqrx; clear Hqrx
 have Hqkx := Lib.hid (Hqk.out.below hb)
 clear Hqk; have Hqk := Hqkx; clear Hqkx
 have HXgx := Lib.hid (HXg.out.below hb)
 clear HXg; have HXg := HXgx; clear HXgx
 have HBgx := Lib.hid (HBg.out.below hb)
 clear HBg; have HBg := HBgx; clear HBgx
 have HBx := Lib.hid (HB.out.trans (hb.mono (by omega)))
 clear HB; have HB := HBx; clear HBx
 clear hb
 go_wp2_with fail
 refine (eqInt64SS_b _ _ aC aC _ true (by simp) HXg.out.v2 HXs.out.v2).mono ?_
 rintro e' w15 ⟨rfl, nq, hw⟩
 have hb : Below w14.heap.size w14 w15 := by rw [hw]; exact below_drewN (Below.refl _ _) _
 clear hw
 have hz_w15 := hb.size
 have HBWx := Lib.hid (HBW.out.below hb)
 clear HBW; have HBW := HBWx; clear HBWx
 have HXsx := Lib.hid (HXs.out.below hb)
 clear HXs; have HXs := HXsx; clear HXsx
 have HB8x := Lib.hid (HB8.out.below hb)
 clear HB8; have HB8 := HB8x; clear HB8x
 have Hqsx := Lib.hid (Hqs.out.below hb)
 clear Hqs; have Hqs := Hqsx; clear Hqsx
 have HBqx := Lib.hid (HBq.out.below hb)
 clear HBq; have HBq := HBqx; clear HBqx
 have Hqrx := Lib.hid (Hqr.out.below hb)
 clear Hqr; have Hqr := Hqrx; clear Hqrx
 have Hqkx := Lib.hid (Hqk.out.below hb)
 clear Hqk; have Hqk := Hqkx; clear Hqkx
 have HXgx := Lib.hid (HXg.out.below hb)
 clear HXg; have HXg := HXgx; clear HXgx
 have HBgx := Lib.hid (HBg.out.below hb)
 clear HBg; have HBg := HBgx; clear HBgx
 have HBx := Lib.hid (HB.out.trans (hb.mono (by omega)))
 clear HB; have HB := HBx; clear HBx
 clear hb
 have hxx : ∀ o, w15.cell? ⟨W.heap.size, o, none⟩ = (#[.int .i64 a, .int .i64 b, .int .i64 c, .int .i64 d, .int .i64 e, .slice ua t.length uc] : Array Value)[o]? := fun o => cell_of_block HBW.out o
 have hyx : ∀ o, w15.cell? ⟨w8.heap.size, o, none⟩ = (#[.int .i64 a, .int .i64 b, .int .i64 c, .int .i64 d, .int .i64 e, .slice fa_qs t.length fc_qs] : Array Value)[o]? := fun o => cell_of_block HBq.out o
 have hV1x := (hV1.below HB.out).any
 have hzz : W.heap.size < w15.heap.size ∧ w8.heap.size < w15.heap.size := ⟨lt_of_heap HBW.out, lt_of_heap HBq.out⟩
 have hV6x := Hqs.out.v2
 go_wp2_with fail
 go_region_held3 (fun w' => (∀ o, w'.cell? ⟨W.heap.size, o, none⟩ = (#[.int .i64 a, .int .i64 b, .int .i64 c, .int .i64 d, .int .i64 e, .slice ua t.length uc] : Array Value)[o]?) ∧ (∀ o, w'.cell? ⟨w8.heap.size, o, none⟩ = (#[.int .i64 a, .int .i64 b, .int .i64 c, .int .i64 d, .int .i64 e, .slice fa_qs t.length fc_qs] : Array Value)[o]?) ∧ Below w15.heap.size w15 w')
  (first | exact two_keep (by assumption) (by assumption) (by assumption) | exact ⟨hxx, hyx, (Below.refl _ _).drew⟩)
  (first | (go_at_call 7; refine (toSystem_any ⟨a, b, c, d, e⟩ _ t _ (hV1x.below (two_below (by assumption))) hlen Hrow.out).mono ?_; rintro e' wp ⟨vp, rfl, hFp, hb⟩) | (go_at_call 11; refine (eqSystem_b ⟨a, b, c, d, e⟩ ⟨a, b, c, d, e⟩ _ _ t t _ true (by simp [eqMk_self]) (hV6x.below (two_below (by assumption))) (F2.v2 (by assumption))).mono ?_; rintro e' wq ⟨rfl, hb⟩))
 obtain ⟨w16, rfl⟩ : ∃ x, x = wq := ⟨_, rfl⟩
 have hbn := two_below (w0 := w15) (by assumption)
 have hz_w16 := hbn.size
 have HBWx := Lib.hid (HBW.out.below hbn)
 clear HBW; have HBW := HBWx; clear HBWx
 have HXsx := Lib.hid (HXs.out.below hbn)
 clear HXs; have HXs := HXsx; clear HXsx
 have HB8x := Lib.hid (HB8.out.below hbn)
 clear HB8; have HB8 := HB8x; clear HB8x
 have Hqsx := Lib.hid (Hqs.out.below hbn)
 clear Hqs; have Hqs := Hqsx; clear Hqsx
 have HBqx := Lib.hid (HBq.out.below hbn)
 clear HBq; have HBq := HBqx; clear HBqx
 have Hqrx := Lib.hid (Hqr.out.below hbn)
 clear Hqr; have Hqr := Hqrx; clear Hqrx
 have Hqkx := Lib.hid (Hqk.out.below hbn)
 clear Hqk; have Hqk := Hqkx; clear Hqkx
 have HXgx := Lib.hid (HXg.out.below hbn)
 clear HXg; have HXg := HXgx; clear HXgx
 have HBgx := Lib.hid (HBg.out.below hbn)
 clear HBg; have HBg := HBgx; clear HBgx
 have HBx := Lib.hid (HB.out.trans (hbn.mono (by omega)))
 clear HB; have HB := HBx; clear HBx
 clear hbn
 clear hV6x hV1x hxx hyx
 go_wp2_with fail
 refine (toInt64SS_any _ l1 _ (hM1.below HB.out) hlen1 Hrow1.out).mono ?_
 rintro e' w17 ⟨u_zr, bk_zr, rfl, hX, hg, _, hb⟩
 have hz_w17 := hb.size
 have HBWx := Lib.hid (HBW.out.below hb)
 clear HBW; have HBW := HBWx; clear HBWx
 have HXsx := Lib.hid (HXs.out.below hb)
 clear HXs; have HXs := HXsx; clear HXsx
 have HB8x := Lib.hid (HB8.out.below hb)
 clear HB8; have HB8 := HB8x; clear HB8x
 have Hqsx := Lib.hid (Hqs.out.below hb)
 clear Hqs; have Hqs := Hqsx; clear Hqsx
 have HBqx := Lib.hid (HBq.out.below hb)
 clear HBq; have HBq := HBqx; clear HBqx
 have Hqrx := Lib.hid (Hqr.out.below hb)
 clear Hqr; have Hqr := Hqrx; clear Hqrx
 have Hqkx := Lib.hid (Hqk.out.below hb)
 clear Hqk; have Hqk := Hqkx; clear Hqkx
 have HXgx := Lib.hid (HXg.out.below hb)
 clear HXg; have HXg := HXgx; clear HXgx
 have HBgx := Lib.hid (HBg.out.below hb)
 clear HBg; have HBg := HBgx; clear HBgx
 have HBx := Lib.hid (HB.out.trans (hb.mono (by omega)))
 clear HB; have HB := HBx; clear HBx
 clear hb
 have Hzr := Lib.hid (XR2.of_copy hX hg); clear hX hg
 obtain ⟨fa_zr, fc_zr, rfl⟩ := Hzr.out.form
 go_wp2_with fail
 refine (eqInt64SS_b _ _ l1 l1 _ true (by simp) (Hqr.out.v2) (Hzr.out.v2)).mono ?_
 rintro e' w18 ⟨rfl, nq, hw⟩
 have hb : Below w17.heap.size w17 w18 := by rw [hw]; exact below_drewN (Below.refl _ _) _
 clear hw
 have hz_w18 := hb.size
 have HBWx := Lib.hid (HBW.out.below hb)
 clear HBW; have HBW := HBWx; clear HBWx
 have HXsx := Lib.hid (HXs.out.below hb)
 clear HXs; have HXs := HXsx; clear HXsx
 have HB8x := Lib.hid (HB8.out.below hb)
 clear HB8; have HB8 := HB8x; clear HB8x
 have Hqsx := Lib.hid (Hqs.out.below hb)
 clear Hqs; have Hqs := Hqsx; clear Hqsx
 have HBqx := Lib.hid (HBq.out.below hb)
 clear HBq; have HBq := HBqx; clear HBqx
 have Hqrx := Lib.hid (Hqr.out.below hb)
 clear Hqr; have Hqr := Hqrx; clear Hqrx
 have Hqkx := Lib.hid (Hqk.out.below hb)
 clear Hqk; have Hqk := Hqkx; clear Hqkx
 have HXgx := Lib.hid (HXg.out.below hb)
 clear HXg; have HXg := HXgx; clear HXgx
 have HBgx := Lib.hid (HBg.out.below hb)
 clear HBg; have HBg := HBgx; clear HBgx
 have Hzrx := Lib.hid (Hzr.out.below hb)
 clear Hzr; have Hzr := Hzrx; clear Hzrx
 have HBx := Lib.hid (HB.out.trans (hb.mono (by omega)))
 clear HB; have HB := HBx; clear HBx
 clear hb
 clear Hzr
 go_wp2_with fail
 refine (toInt64S_any _ l2 _ (hM2.below HB.out) hlen2).mono ?_
 rintro e' w19 ⟨u_zk, rfl, hX, _, hb⟩
 have hz_w19 := hb.size
 have HBWx := Lib.hid (HBW.out.below hb)
 clear HBW; have HBW := HBWx; clear HBWx
 have HXsx := Lib.hid (HXs.out.below hb)
 clear HXs; have HXs := HXsx; clear HXsx
 have HB8x := Lib.hid (HB8.out.below hb)
 clear HB8; have HB8 := HB8x; clear HB8x
 have Hqsx := Lib.hid (Hqs.out.below hb)
 clear Hqs; have Hqs := Hqsx; clear Hqsx
 have HBqx := Lib.hid (HBq.out.below hb)
 clear HBq; have HBq := HBqx; clear HBqx
 have Hqrx := Lib.hid (Hqr.out.below hb)
 clear Hqr; have Hqr := Hqrx; clear Hqrx
 have Hqkx := Lib.hid (Hqk.out.below hb)
 clear Hqk; have Hqk := Hqkx; clear Hqkx
 have HXgx := Lib.hid (HXg.out.below hb)
 clear HXg; have HXg := HXgx; clear HXgx
 have HBgx := Lib.hid (HBg.out.below hb)
 clear HBg; have HBg := HBgx; clear HBgx
 have HBx := Lib.hid (HB.out.trans (hb.mono (by omega)))
 clear HB; have HB := HBx; clear HBx
 clear hb
 have Hzk := Lib.hid (XR1.of_copy hX); clear hX
 obtain ⟨fa_zk, fc_zk, rfl⟩ := Hzk.out.form
 go_wp2_with fail
 refine (eqInt64S_b _ _ l2 l2 _ true (by simp) (Hqk.out.v1) (Hzk.out.v1)).mono ?_
 rintro e' w20 ⟨rfl, nq, hw⟩
 have hb : Below w19.heap.size w19 w20 := by rw [hw]; exact below_drewN (Below.refl _ _) _
 clear hw
 have hz_w20 := hb.size
 have HBWx := Lib.hid (HBW.out.below hb)
 clear HBW; have HBW := HBWx; clear HBWx
 have HXsx := Lib.hid (HXs.out.below hb)
 clear HXs; have HXs := HXsx; clear HXsx
 have HB8x := Lib.hid (HB8.out.below hb)
 clear HB8; have HB8 := HB8x; clear HB8x
 have Hqsx := Lib.hid (Hqs.out.below hb)
 clear Hqs; have Hqs := Hqsx; clear Hqsx
 have HBqx := Lib.hid (HBq.out.below hb)
 clear HBq; have HBq := HBqx; clear HBqx
 have Hqrx := Lib.hid (Hqr.out.below hb)
 clear Hqr; have Hqr := Hqrx; clear Hqrx
 have Hqkx := Lib.hid (Hqk.out.below hb)
 clear Hqk; have Hqk := Hqkx; clear Hqkx
 have HXgx := Lib.hid (HXg.out.below hb)
 clear HXg; have HXg := HXgx; clear HXgx
 have HBgx := Lib.hid (HBg.out.below hb)
 clear HBg; have HBg := HBgx; clear HBgx
 have Hzkx := Lib.hid (Hzk.out.below hb)
 clear Hzk; have Hzk := Hzkx; clear Hzkx
 have HBx := Lib.hid (HB.out.trans (hb.mono (by omega)))
 clear HB; have HB := HBx; clear HBx
 clear hb
 clear Hzk
 have ht0 := totSmall hlen Hrow.out
 have ht0l := ht0 t.length (Nat.le_refl _)
 have Ht0 := Lib.hid ht0; clear ht0
 have ht1 := totSmall hlen1 Hrow1.out
 have ht1l := ht1 l1.length (Nat.le_refl _)
 have Ht1 := Lib.hid ht1; clear ht1
 have hy := fun o => cell_of_block HBq.out o
 go_wp2_with fail
 clear hy
 have hzW1b := HB.out.size
 refine (markSystem_r w7.heap.size w8.heap.size ⟨a, b, c, d, e⟩ _ t _ _ Hqs.out (by omega) (fun j hj => by have := Ht0.out j hj; omega) (by omega)).mono ?_
 rintro e' w21 ⟨rfl, _, hc⟩
 clear Hqs
 have hz_w21 := hc.size
 have HBWx := Lib.hid (HBW.out.chg hc (by omega))
 clear HBW; have HBW := HBWx; clear HBWx
 have HXsx := Lib.hid (HXs.out.chg hc (by omega))
 clear HXs; have HXs := HXsx; clear HXsx
 have HB8x := Lib.hid (HB8.out.chg hc (by omega))
 clear HB8; have HB8 := HB8x; clear HB8x
 have HBqx := Lib.hid (HBq.out.chg hc (by omega))
 clear HBq; have HBq := HBqx; clear HBqx
 have Hqrx := Lib.hid (Hqr.out.chg hc (by omega))
 clear Hqr; have Hqr := Hqrx; clear Hqrx
 have Hqkx := Lib.hid (Hqk.out.chg hc (by omega))
 clear Hqk; have Hqk := Hqkx; clear Hqkx
 have HXgx := Lib.hid (HXg.out.chg hc (by omega))
 clear HXg; have HXg := HXgx; clear HXgx
 have HBgx := Lib.hid (HBg.out.chg hc (by omega))
 clear HBg; have HBg := HBgx; clear HBgx
 have HBx := Lib.hid (Chg.belowR hc HB.out (by omega) (Nat.le_refl _))
 clear HB; have HB := HBx; clear HBx
 clear hc
 obtain ⟨q0, hq0⟩ : ∃ q, (1 + (totTo t t.length : Int)) = q := ⟨_, rfl⟩
 rw [hq0]
 have hq0b : 1 ≤ q0 ∧ q0 ≤ 1099511627777 := by omega
 clear hq0
 go_wp2_with fail
 refine (markInt64SS_r w9.heap.size w10.heap.size _ l1 _ _ Hqr.out (by omega) (fun j hj => by have := Ht1.out j hj; omega)).mono ?_
 rintro e' w22 ⟨rfl, _, hc⟩
 clear Hqr
 have hz_w22 := hc.size
 have HBWx := Lib.hid (HBW.out.chg hc (by omega))
 clear HBW; have HBW := HBWx; clear HBWx
 have HXsx := Lib.hid (HXs.out.chg hc (by omega))
 clear HXs; have HXs := HXsx; clear HXsx
 have HB8x := Lib.hid (HB8.out.chg hc (by omega))
 clear HB8; have HB8 := HB8x; clear HB8x
 have HBqx := Lib.hid (HBq.out.chg hc (by omega))
 clear HBq; have HBq := HBqx; clear HBqx
 have Hqkx := Lib.hid (Hqk.out.chg hc (by omega))
 clear Hqk; have Hqk := Hqkx; clear Hqkx
 have HXgx := Lib.hid (HXg.out.chg hc (by omega))
 clear HXg; have HXg := HXgx; clear HXgx
 have HBgx := Lib.hid (HBg.out.chg hc (by omega))
 clear HBg; have HBg := HBgx; clear HBgx
 have HBx := Lib.hid (Chg.belowR hc HB.out (by omega) (Nat.le_refl _))
 clear HB; have HB := HBx; clear HBx
 clear hc
 obtain ⟨q1, hq1⟩ : ∃ q, (q0 + (totTo l1 l1.length : Int)) = q := ⟨_, rfl⟩
 rw [hq1]
 have hq1b : 1 ≤ q1 ∧ q1 ≤ 2199023255553 := by omega
 clear hq1
 go_wp2_with fail
 refine (markInt64S_r w10.heap.size w11.heap.size _ l2 _ _ Hqk.out (by omega) (by omega)).mono ?_
 rintro e' w23 ⟨rfl, _, hc⟩
 clear Hqk
 have hz_w23 := hc.size
 have HBWx := Lib.hid (HBW.out.chg hc (by omega))
 clear HBW; have HBW := HBWx; clear HBWx
 have HXsx := Lib.hid (HXs.out.chg hc (by omega))
 clear HXs; have HXs := HXsx; clear HXsx
 have HB8x := Lib.hid (HB8.out.chg hc (by omega))
 clear HB8; have HB8 := HB8x; clear HB8x
 have HBqx := Lib.hid (HBq.out.chg hc (by omega))
 clear HBq; have HBq := HBqx; clear HBqx
 have HXgx := Lib.hid (HXg.out.chg hc (by omega))
 clear HXg; have HXg := HXgx; clear HXgx
 have HBgx := Lib.hid (HBg.out.chg hc (by omega))
 clear HBg; have HBg := HBgx; clear HBgx
 have HBx := Lib.hid (Chg.belowR hc HB.out (by omega) (Nat.le_refl _))
 clear HB; have HB := HBx; clear HBx
 clear hc
 obtain ⟨q2, hq2⟩ : ∃ q, (q1 + (l2.length : Int)) = q := ⟨_, rfl⟩
 rw [hq2]
 have hq2b : 1 ≤ q2 ∧ q2 ≤ 2199024304129 := by omega
 clear hq2
 have hy := fun o => cell_of_block HBg.out o
 have hy8 := fun o => cell_of_block HB8.out o
 go_wp2_with fail
 clear hy hy8
 refine (eqSystem_b MB MB _ _ aT aT _ true (by simp [eqMk_self]) HXg.out.v1 HXs.out.v1).mono ?_
 rintro e' w24 ⟨rfl, hb⟩
 have hz_w24 := hb.size
 have HBWx := Lib.hid (HBW.out.below hb)
 clear HBW; have HBW := HBWx; clear HBWx
 have HXsx := Lib.hid (HXs.out.below hb)
 clear HXs; have HXs := HXsx; clear HXsx
 have HB8x := Lib.hid (HB8.out.below hb)
 clear HB8; have HB8 := HB8x; clear HB8x
 have HBqx := Lib.hid (HBq.out.below hb)
 clear HBq; have HBq := HBqx; clear HBqx
 have HXgx := Lib.hid (HXg.out.below hb)
 clear HXg; have HXg := HXgx; clear HXgx
 have HBgx := Lib.hid (HBg.out.below hb)
 clear HBg; have HBg := HBgx; clear HBgx
 have HBx := Lib.hid (HB.out.trans (hb.mono (by omega)))
 clear HB; have HB := HBx; clear HBx
 clear hb
 go_wp2_with fail
 refine (eqInt64SS_b _ _ aC aC _ true (by simp) HXg.out.v2 HXs.out.v2).mono ?_
 rintro e' w25 ⟨rfl, nq, hw⟩
 have hb : Below w24.heap.size w24 w25 := by rw [hw]; exact below_drewN (Below.refl _ _) _
 clear hw
 have hz_w25 := hb.size
 have HBWx := Lib.hid (HBW.out.below hb)
 clear HBW; have HBW := HBWx; clear HBWx
 have HXsx := Lib.hid (HXs.out.below hb)
 clear HXs; have HXs := HXsx; clear HXsx
 have HB8x := Lib.hid (HB8.out.below hb)
 clear HB8; have HB8 := HB8x; clear HB8x
 have HBqx := Lib.hid (HBq.out.below hb)
 clear HBq; have HBq := HBqx; clear HBqx
 have HXgx := Lib.hid (HXg.out.below hb)
 clear HXg; have HXg := HXgx; clear HXgx
 have HBgx := Lib.hid (HBg.out.below hb)
 clear HBg; have HBg := HBgx; clear HBgx
 have HBx := Lib.hid (HB.out.trans (hb.mono (by omega)))
 clear HB; have HB := HBx; clear HBx
 clear hb
 have hal := Hal.out
 have htA := totSmall hal.1.1 hal.1.2
 have htAl := htA aT.length (Nat.le_refl _)
 have HtA := Lib.hid htA; clear htA
 have htC := totSmall hal.2.1 hal.2.2
 have htCl := htC aC.length (Nat.le_refl _)
 have HtC := Lib.hid htC; clear htC hal
 have hy := fun o => cell_of_block HBg.out o
 go_wp2_with fail
 clear hy
 refine (markFirst_r w11.heap.size w12.heap.size MB _ _ aT aC _ _ HXg.out (by omega) (fun j hj => by have := HtA.out j hj; omega)).mono ?_
 rintro e' w26 ⟨rfl, hM, hc⟩
 clear HXg
 have hz_w26 := hc.size
 have HBWx := Lib.hid (HBW.out.chg hc (by omega))
 clear HBW; have HBW := HBWx; clear HBWx
 have HXsx := Lib.hid (HXs.out.chg hc (by omega))
 clear HXs; have HXs := HXsx; clear HXsx
 have HB8x := Lib.hid (HB8.out.chg hc (by omega))
 clear HB8; have HB8 := HB8x; clear HB8x
 have HBqx := Lib.hid (HBq.out.chg hc (by omega))
 clear HBq; have HBq := HBqx; clear HBqx
 have HBgx := Lib.hid (HBg.out.chg hc (by omega))
 clear HBg; have HBg := HBgx; clear HBgx
 have HBx := Lib.hid (Chg.belowR hc HB.out (by omega) (Nat.le_refl _))
 clear HB; have HB := HBx; clear HBx
 clear hc
 have HM := Lib.hid hM; clear hM
 obtain ⟨r1, hr1⟩ : ∃ q, (1 + (totTo aT aT.length : Int)) = q := ⟨_, rfl⟩
 rw [hr1]
 have hr1b : 1 ≤ r1 ∧ r1 ≤ 1099511627777 := by omega
 have Hr1 := Lib.hid hr1; clear hr1
 go_wp2_with fail
 refine (markSecond_r w11.heap.size w12.heap.size _ _ _ aC _ _ HM.out (by omega) (fun j hj => by have := HtC.out j hj; omega)).mono ?_
 rintro e' w27 ⟨rfl, hM, hc⟩
 clear HM
 have hz_w27 := hc.size
 have HBWx := Lib.hid (HBW.out.chg hc (by omega))
 clear HBW; have HBW := HBWx; clear HBWx
 have HXsx := Lib.hid (HXs.out.chg hc (by omega))
 clear HXs; have HXs := HXsx; clear HXsx
 have HB8x := Lib.hid (HB8.out.chg hc (by omega))
 clear HB8; have HB8 := HB8x; clear HB8x
 have HBqx := Lib.hid (HBq.out.chg hc (by omega))
 clear HBq; have HBq := HBqx; clear HBqx
 have HBgx := Lib.hid (HBg.out.chg hc (by omega))
 clear HBg; have HBg := HBgx; clear HBgx
 have HBx := Lib.hid (Chg.belowR hc HB.out (by omega) (Nat.le_refl _))
 clear HB; have HB := HBx; clear HBx
 clear hc
 have HM := Lib.hid hM; clear hM
 obtain ⟨r2, hr2⟩ : ∃ q, (r1 + (totTo aC aC.length : Int)) = q := ⟨_, rfl⟩
 rw [hr2]
 have hr2b : 1 ≤ r2 ∧ r2 ≤ 2199023255553 := by omega
 have Hr2 := Lib.hid hr2; clear hr2
 have hy := fun o => cell_of_block HBg.out o
 go_wp2_with fail
 clear hy
 refine (heldSystem_any MB _ aT 1 _ (HM.out.v1) (by omega) (fun j hj => by have := HtA.out j hj; omega)).mono ?_
 rintro e' w28 ⟨rfl, hb⟩
 rw [Hr1.out]
 have hz_w28 := hb.size
 have HBWx := Lib.hid (HBW.out.below hb)
 clear HBW; have HBW := HBWx; clear HBWx
 have HXsx := Lib.hid (HXs.out.below hb)
 clear HXs; have HXs := HXsx; clear HXsx
 have HB8x := Lib.hid (HB8.out.below hb)
 clear HB8; have HB8 := HB8x; clear HB8x
 have HBqx := Lib.hid (HBq.out.below hb)
 clear HBq; have HBq := HBqx; clear HBqx
 have HBgx := Lib.hid (HBg.out.below hb)
 clear HBg; have HBg := HBgx; clear HBgx
 have HMx := Lib.hid (HM.out.below hb)
 clear HM; have HM := HMx; clear HMx
 have HBx := Lib.hid (HB.out.trans (hb.mono (by omega)))
 clear HB; have HB := HBx; clear HBx
 clear hb
 go_wp2_with fail
 refine (heldInt64SS_any _ aC r1 _ (HM.out.v2) (by omega) (fun j hj => by have := HtC.out j hj; omega)).mono ?_
 rintro e' wh ⟨rfl, hwh⟩
 subst hwh
 rw [Hr2.out]
 have hxA := fun o => cell_of_block HBW.out o
 go_wp2_with fail
 refine (toSystem_any ⟨a, b, c, d, e⟩ _ t _ (hV1.below HB.out) hlen Hrow.out).mono ?_
 rintro e' w29 ⟨u_hs, rfl, hF, hb⟩
 have hz_w29 := hb.size
 have HBWx := Lib.hid (HBW.out.below hb)
 clear HBW; have HBW := HBWx; clear HBWx
 have HXsx := Lib.hid (HXs.out.below hb)
 clear HXs; have HXs := HXsx; clear HXsx
 have HB8x := Lib.hid (HB8.out.below hb)
 clear HB8; have HB8 := HB8x; clear HB8x
 have HBqx := Lib.hid (HBq.out.below hb)
 clear HBq; have HBq := HBqx; clear HBqx
 have HBgx := Lib.hid (HBg.out.below hb)
 clear HBg; have HBg := HBgx; clear HBgx
 have HMx := Lib.hid (HM.out.below hb)
 clear HM; have HM := HMx; clear HMx
 have HBx := Lib.hid (HB.out.trans (hb.mono (by omega)))
 clear HB; have HB := HBx; clear HBx
 clear hb
 have Hhs := Lib.hid (XR2.of_F2 hF); clear hF
 obtain ⟨fa_hs, fc_hs, rfl⟩ := Hhs.out.form
 clear hxA
 go_wp2_with fail
 refine (toInt64SS_any _ l1 _ (hM1.below HB.out) hlen1 Hrow1.out).mono ?_
 rintro e' w30 ⟨u_hr, bk_hr, rfl, hX, hg, _, hb⟩
 have hz_w30 := hb.size
 have HBWx := Lib.hid (HBW.out.below hb)
 clear HBW; have HBW := HBWx; clear HBWx
 have HXsx := Lib.hid (HXs.out.below hb)
 clear HXs; have HXs := HXsx; clear HXsx
 have HB8x := Lib.hid (HB8.out.below hb)
 clear HB8; have HB8 := HB8x; clear HB8x
 have HBqx := Lib.hid (HBq.out.below hb)
 clear HBq; have HBq := HBqx; clear HBqx
 have HBgx := Lib.hid (HBg.out.below hb)
 clear HBg; have HBg := HBgx; clear HBgx
 have HMx := Lib.hid (HM.out.below hb)
 clear HM; have HM := HMx; clear HMx
 have Hhsx := Lib.hid (Hhs.out.below hb)
 clear Hhs; have Hhs := Hhsx; clear Hhsx
 have HBx := Lib.hid (HB.out.trans (hb.mono (by omega)))
 clear HB; have HB := HBx; clear HBx
 clear hb
 have Hhr := Lib.hid (XR2.of_copy hX hg); clear hX hg
 obtain ⟨fa_hr, fc_hr, rfl⟩ := Hhr.out.form
 go_wp2_with fail
 refine (toInt64S_any _ l2 _ (hM2.below HB.out) hlen2).mono ?_
 rintro e' w31 ⟨u_hk, rfl, hX, _, hb⟩
 have hz_w31 := hb.size
 have HBWx := Lib.hid (HBW.out.below hb)
 clear HBW; have HBW := HBWx; clear HBWx
 have HXsx := Lib.hid (HXs.out.below hb)
 clear HXs; have HXs := HXsx; clear HXsx
 have HB8x := Lib.hid (HB8.out.below hb)
 clear HB8; have HB8 := HB8x; clear HB8x
 have HBqx := Lib.hid (HBq.out.below hb)
 clear HBq; have HBq := HBqx; clear HBqx
 have HBgx := Lib.hid (HBg.out.below hb)
 clear HBg; have HBg := HBgx; clear HBgx
 have HMx := Lib.hid (HM.out.below hb)
 clear HM; have HM := HMx; clear HMx
 have Hhsx := Lib.hid (Hhs.out.below hb)
 clear Hhs; have Hhs := Hhsx; clear Hhsx
 have Hhrx := Lib.hid (Hhr.out.below hb)
 clear Hhr; have Hhr := Hhrx; clear Hhrx
 have HBx := Lib.hid (HB.out.trans (hb.mono (by omega)))
 clear HB; have HB := HBx; clear HBx
 clear hb
 have Hhk := Lib.hid (XR1.of_copy hX); clear hX
 obtain ⟨fa_hk, fc_hk, rfl⟩ := Hhk.out.form
 go_wp2_with fail
 have hkr := KeepRows_any ⟨a, b, c, d, e⟩ _ _ _ t l1 l2 _ Hhs.out.v2 Hhr.out.v2 Hhk.out.v1
 rw [HLA.out] at hkr
 dsimp only at hkr
 rw [HMB.out] at hkr
 refine hkr.mono ?_
 clear hkr
 rintro e' w32 ⟨ru_h, rv_h, rfl, hK, hb⟩
 have hz_w32 := hb.size
 have HBWx := Lib.hid (HBW.out.below hb)
 clear HBW; have HBW := HBWx; clear HBWx
 have HXsx := Lib.hid (HXs.out.below hb)
 clear HXs; have HXs := HXsx; clear HXsx
 have HB8x := Lib.hid (HB8.out.below hb)
 clear HB8; have HB8 := HB8x; clear HB8x
 have HBqx := Lib.hid (HBq.out.below hb)
 clear HBq; have HBq := HBqx; clear HBqx
 have HBgx := Lib.hid (HBg.out.below hb)
 clear HBg; have HBg := HBgx; clear HBgx
 have HMx := Lib.hid (HM.out.below hb)
 clear HM; have HM := HMx; clear HMx
 have Hhsx := Lib.hid (Hhs.out.below hb)
 clear Hhs; have Hhs := Hhsx; clear Hhsx
 have Hhrx := Lib.hid (Hhr.out.below hb)
 clear Hhr; have Hhr := Hhrx; clear Hhrx
 have Hhkx := Lib.hid (Hhk.out.below hb)
 clear Hhk; have Hhk := Hhkx; clear Hhkx
 have HBx := Lib.hid (HB.out.trans (hb.mono (by omega)))
 clear HB; have HB := HBx; clear HBx
 clear hb
 have HXh := Lib.hid (XP.of_KOut hK); clear hK
 obtain ⟨ga_h, gc_h, rfl⟩ := HXh.out.form1
 obtain ⟨ka_h, kc_h, rfl⟩ := HXh.out.form2
 clear Hhs
 clear Hhr
 clear Hhk
 obtain ⟨w33, hWb, hb, hzq, _, _, hh⟩ := box_facts w32 #[.int .i64 MB.c, .int .i64 MB.d, .int .i64 MB.s, .int .i64 MB.e, .int .i64 MB.l, .slice ga_h aT.length gc_h] 32
 have hq0 : ∀ o, (w32.alloc (.cells #[.int .i64 MB.c, .int .i64 MB.d, .int .i64 MB.s, .int .i64 MB.e, .int .i64 MB.l, .slice ga_h aT.length gc_h] 32)).cell? ⟨w6.heap.size, o, none⟩ = (#[.int .i64 MB.c, .int .i64 MB.d, .int .i64 MB.s, .int .i64 MB.e, .int .i64 MB.l, .slice ga_s aT.length gc_s] : Array Value)[o]? := fun o => by rw [← hWb]; exact cell_of_block (HB8.out.below hb) o
 have HWb := Lib.hid hWb; clear hWb
 go_wp2_with fail
 rw [← HWb.out]
 clear HWb
 clear hq0
 have hz_w33 := hb.size
 have HBWx := Lib.hid (HBW.out.below hb)
 clear HBW; have HBW := HBWx; clear HBWx
 have HXsx := Lib.hid (HXs.out.below hb)
 clear HXs; have HXs := HXsx; clear HXsx
 have HB8x := Lib.hid (HB8.out.below hb)
 clear HB8; have HB8 := HB8x; clear HB8x
 have HBqx := Lib.hid (HBq.out.below hb)
 clear HBq; have HBq := HBqx; clear HBqx
 have HBgx := Lib.hid (HBg.out.below hb)
 clear HBg; have HBg := HBgx; clear HBgx
 have HMx := Lib.hid (HM.out.below hb)
 clear HM; have HM := HMx; clear HMx
 have HXhx := Lib.hid (HXh.out.below hb)
 clear HXh; have HXh := HXhx; clear HXhx
 have HBx := Lib.hid (HB.out.trans (hb.mono (by omega)))
 clear HB; have HB := HBx; clear HBx
 clear hb
 have HBh := Lib.hid (show BX w32.heap.size w33 #[.int .i64 MB.c, .int .i64 MB.d, .int .i64 MB.s, .int .i64 MB.e, .int .i64 MB.l, .slice ga_h aT.length gc_h] 32 from hh); clear hh
 refine (eqSystem_b MB MB _ _ aT aT _ true (by simp [eqMk_self]) HXh.out.v1 HXs.out.v1).mono ?_
 rintro e' w34 ⟨rfl, hb⟩
 have hz_w34 := hb.size
 have HBWx := Lib.hid (HBW.out.below hb)
 clear HBW; have HBW := HBWx; clear HBWx
 have HXsx := Lib.hid (HXs.out.below hb)
 clear HXs; have HXs := HXsx; clear HXsx
 have HB8x := Lib.hid (HB8.out.below hb)
 clear HB8; have HB8 := HB8x; clear HB8x
 have HBqx := Lib.hid (HBq.out.below hb)
 clear HBq; have HBq := HBqx; clear HBqx
 have HBgx := Lib.hid (HBg.out.below hb)
 clear HBg; have HBg := HBgx; clear HBgx
 have HMx := Lib.hid (HM.out.below hb)
 clear HM; have HM := HMx; clear HMx
 have HXhx := Lib.hid (HXh.out.below hb)
 clear HXh; have HXh := HXhx; clear HXhx
 have HBhx := Lib.hid (HBh.out.below hb)
 clear HBh; have HBh := HBhx; clear HBhx
 have HBx := Lib.hid (HB.out.trans (hb.mono (by omega)))
 clear HB; have HB := HBx; clear HBx
 clear hb
 go_wp2_with fail
 refine (eqInt64SS_b _ _ aC aC _ true (by simp) HXh.out.v2 HXs.out.v2).mono ?_
 rintro e' w35 ⟨rfl, nq, hw⟩
 have hb : Below w34.heap.size w34 w35 := by rw [hw]; exact below_drewN (Below.refl _ _) _
 clear hw
 have hz_w35 := hb.size
 have HBWx := Lib.hid (HBW.out.below hb)
 clear HBW; have HBW := HBWx; clear HBWx
 have HXsx := Lib.hid (HXs.out.below hb)
 clear HXs; have HXs := HXsx; clear HXsx
 have HB8x := Lib.hid (HB8.out.below hb)
 clear HB8; have HB8 := HB8x; clear HB8x
 have HBqx := Lib.hid (HBq.out.below hb)
 clear HBq; have HBq := HBqx; clear HBqx
 have HBgx := Lib.hid (HBg.out.below hb)
 clear HBg; have HBg := HBgx; clear HBgx
 have HMx := Lib.hid (HM.out.below hb)
 clear HM; have HM := HMx; clear HMx
 have HXhx := Lib.hid (HXh.out.below hb)
 clear HXh; have HXh := HXhx; clear HXhx
 have HBhx := Lib.hid (HBh.out.below hb)
 clear HBh; have HBh := HBhx; clear HBhx
 have HBx := Lib.hid (HB.out.trans (hb.mono (by omega)))
 clear HB; have HB := HBx; clear HBx
 clear hb
 have hy := fun o => cell_of_block HBg.out o
 go_wp2_with fail
 clear hy
 refine (heldSystem_any MB _ aT 1 _ (HM.out.v1) (by omega) (fun j hj => by have := HtA.out j hj; omega)).mono ?_
 rintro e' w36 ⟨rfl, hb⟩
 rw [Hr1.out]
 have hz_w36 := hb.size
 have HBWx := Lib.hid (HBW.out.below hb)
 clear HBW; have HBW := HBWx; clear HBWx
 have HXsx := Lib.hid (HXs.out.below hb)
 clear HXs; have HXs := HXsx; clear HXsx
 have HB8x := Lib.hid (HB8.out.below hb)
 clear HB8; have HB8 := HB8x; clear HB8x
 have HBqx := Lib.hid (HBq.out.below hb)
 clear HBq; have HBq := HBqx; clear HBqx
 have HBgx := Lib.hid (HBg.out.below hb)
 clear HBg; have HBg := HBgx; clear HBgx
 have HMx := Lib.hid (HM.out.below hb)
 clear HM; have HM := HMx; clear HMx
 have HXhx := Lib.hid (HXh.out.below hb)
 clear HXh; have HXh := HXhx; clear HXhx
 have HBhx := Lib.hid (HBh.out.below hb)
 clear HBh; have HBh := HBhx; clear HBhx
 have HBx := Lib.hid (HB.out.trans (hb.mono (by omega)))
 clear HB; have HB := HBx; clear HBx
 clear hb
 go_wp2_with fail
 refine (heldInt64SS_any _ aC r1 _ (HM.out.v2) (by omega) (fun j hj => by have := HtC.out j hj; omega)).mono ?_
 rintro e' wh ⟨rfl, hwh⟩
 subst hwh
 rw [Hr2.out]
 go_wp2_with fail
 go_ret
 exact ⟨rfl, hB01.trans (HB.out.mono (by omega))⟩
end Go.Proofs.Ytmaefilliggjiaa
