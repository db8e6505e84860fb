/- The walk of 'laws.FnNextDesigns'. No conditions. -/
import Derived.Test.YtmaefilliggjiaaGreatMDraw1
import Derived.Test.YtmaefilliggjiaaGreatMRefFirst
import Derived.Test.YtmaefilliggjiaaGreatMDoorsO
import Derived.Test.YtmaefilliggjiaaGreatNextI
import Derived.Test.YtmaefilliggjiaaGreatMGoT
namespace Go.Proofs.YtmaefilliggjiaaGreat
open Go.RowKit
set_option linter.unusedVariables false
set_option linter.unusedSimpArgs false
set_option maxHeartbeats 4000000 in
set_option maxRecDepth 100000 in
theorem fnNextDesigns_walk (W : World) (v : Value) (l : List Int) (h : VB (Old W) W v l) :
  Calls Tryz.prog 3 #[v] W fun e' w' => e' = .returned (.bool true) ∧ Below W.heap.size W w' := by
 have hV := h
 obtain ⟨a, c, rfl, hm⟩ := h.form
 have HV := Lib.hid hV; clear hV h
 cases hbig : decide (4096 < l.length)
 rotate_left
 ·have Hbig := Lib.hid hbig; clear hbig
  go_enter Tryz.func3, Tryz.ntmps3
  go_wp2_with fail
  refine (big_any _ l W true Hbig.out HV.out).mono ?_
  rintro e' w' ⟨rfl, hW⟩
  subst hW
  go_wp2_with fail
  go_ret
  exact ⟨rfl, Below.refl _ _⟩
 have Hbig := Lib.hid hbig; clear hbig
 go_enter Tryz.func3, Tryz.ntmps3
 go_wp2_with fail
 refine (big_any _ l W false Hbig.out HV.out).mono ?_
 rintro e' w' ⟨rfl, hW⟩
 subst hW
 have HB := Lib.hid (Below.refl W.heap.size W)
 go_wp2_with fail
 refine (DrawNextDesign_any _ l _ HV.out).mono ?_
 rintro e' w2 hD
 obtain ⟨m, u, cv, T, cuts, n, rfl, hpv, hu, hcv, hb⟩ := hD.open
 obtain ⟨ua, uc, rfl, _⟩ := hu.form
 obtain ⟨ca, cc, rfl, _⟩ := hcv.form
 have HPV := Lib.hid hpv; clear hpv
 obtain ⟨w3, hw3, hb3, hz3, _, hc3, _⟩ := box_facts w2 (#[.int .i64 m.c, .int .i64 m.d, .int .i64 m.s, .int .i64 m.e, .int .i64 m.l, .slice ua T.length uc] : Array Value) 28
 have hu := Lib.hid (hu.any.below hb3); have hcv := Lib.hid (hcv.any.below hb3)
 have Hw := Lib.hid hw3; clear hw3
 have hz_w2 := hb.size
 have HVx := Lib.hid (HV.out.below hb); clear HV; have HV := HVx; clear HVx
 have HBx := Lib.hid (HB.out.trans (hb.mono (by omega))); clear HB; have HB := HBx; clear HBx
 clear hb
 have hz_w3 := hb3.size
 have HVx := Lib.hid (HV.out.below hb3); clear HV; have HV := HVx; clear HVx
 have HBx := Lib.hid (HB.out.trans (hb3.mono (by omega))); clear HB; have HB := HBx; clear HBx
 clear hb3
 have HT := hu; clear hu; have HC := hcv; clear hcv
 have hxb_w3 := hc3; clear hc3
 have hzb := hz3; clear hz3
 go_wp2_with fail
 rw [← Hw.out]
 (try go_wp2_with fail)
 clear Hw
 obtain ⟨A, hA⟩ : ∃ x, nextDAns m T cuts n = x := ⟨_, rfl⟩
 have EA := Lib.hid hA; clear hA
 refine (NextDesign_any m _ _ T cuts n _ HT.out HC.out HPV.out).mono ?_
 rintro e' w4 ⟨r1, rfl, hR, hb⟩
 rw [EA.out] at hR ⊢
 obtain ⟨ra1, rc1, rfl, _⟩ := hR.v2.form
 have hxb_w4 : ∀ o, w4.cell? ⟨w2.heap.size, o, none⟩ = (#[.int .i64 m.c, .int .i64 m.d, .int .i64 m.s, .int .i64 m.e, .int .i64 m.l, .slice ua T.length uc] : Array Value)[o]? := fun o => by rw [(bcell hb).1 _ _ (by omega), hxb_w3]
 have hz_w4 := hb.size
 have HVx := Lib.hid (HV.out.below hb); clear HV; have HV := HVx; clear HVx
 have HTx := Lib.hid (HT.out.below hb); clear HT; have HT := HTx; clear HTx
 have HCx := Lib.hid (HC.out.below hb); clear HC; have HC := HCx; clear HCx
 have HBx := Lib.hid (HB.out.trans (hb.mono (by omega))); clear HB; have HB := HBx; clear HBx
 clear hxb_w3
 clear hb
 have HR1 := Lib.hid (hR.v2.any); clear hR
 go_wp2_with fail
 refine (NextDesignR_any m _ _ T cuts n _ HT.out HC.out HPV.out).mono ?_
 rintro e' w5 ⟨r2, rfl, hR, hb⟩
 rw [EA.out] at hR ⊢
 obtain ⟨ra2, rc2, rfl, _⟩ := hR.form
 have hxb_w5 : ∀ o, w5.cell? ⟨w2.heap.size, o, none⟩ = (#[.int .i64 m.c, .int .i64 m.d, .int .i64 m.s, .int .i64 m.e, .int .i64 m.l, .slice ua T.length uc] : Array Value)[o]? := fun o => by rw [(bcell hb).1 _ _ (by omega), hxb_w4]
 have hz_w5 := hb.size
 have HVx := Lib.hid (HV.out.below hb); clear HV; have HV := HVx; clear HVx
 have HTx := Lib.hid (HT.out.below hb); clear HT; have HT := HTx; clear HTx
 have HCx := Lib.hid (HC.out.below hb); clear HC; have HC := HCx; clear HCx
 have HR1x := Lib.hid (HR1.out.below hb); clear HR1; have HR1 := HR1x; clear HR1x
 have HBx := Lib.hid (HB.out.trans (hb.mono (by omega))); clear HB; have HB := HBx; clear HBx
 clear hxb_w4
 clear hb
 have HR2 := Lib.hid (hR.any); clear hR
 go_wp2_with fail
 refine (likeLists_w _ _ (A.1) (A.1) _ true (decide_eq_true rfl) HR1.out HR2.out).mono ?_
 rintro e' w6 ⟨rfl, hb⟩
 have hxb_w6 : ∀ o, w6.cell? ⟨w2.heap.size, o, none⟩ = (#[.int .i64 m.c, .int .i64 m.d, .int .i64 m.s, .int .i64 m.e, .int .i64 m.l, .slice ua T.length uc] : Array Value)[o]? := fun o => by rw [(bcell hb).1 _ _ (by omega), hxb_w5]
 have hz_w6 := hb.size
 have HVx := Lib.hid (HV.out.below hb); clear HV; have HV := HVx; clear HVx
 have HTx := Lib.hid (HT.out.below hb); clear HT; have HT := HTx; clear HTx
 have HCx := Lib.hid (HC.out.below hb); clear HC; have HC := HCx; clear HCx
 have HR1x := Lib.hid (HR1.out.below hb); clear HR1; have HR1 := HR1x; clear HR1x
 have HR2x := Lib.hid (HR2.out.below hb); clear HR2; have HR2 := HR2x; clear HR2x
 have HBx := Lib.hid (HB.out.trans (hb.mono (by omega))); clear HB; have HB := HBx; clear HBx
 clear hxb_w5
 clear hb
 by_cases hq : A.2 = 0
 rotate_left
 ·skip
  have hq2 : (A.2 != 0) = true := by simp [hq]
  clear hq
  go_wp2_with fail
  go_ret
  exact ⟨rfl, HB.out⟩
 have hq2 : (A.2 != 0) = false := by simp [hq]
 obtain ⟨hdes, hdl, hcl, hok, r, hr, hpre, L1, L2, L3, hK⟩ := next_law (m := m) (t := T) (cuts := cuts) (d := A.1) (limit := n) (by rw [EA.out, ← hq])
 have HLw := Lib.hid (And.intro hdes (And.intro hdl (And.intro hcl (And.intro hok (And.intro hr (And.intro hpre hK)))))); clear hdes hdl hcl hok hr hpre hK hq
 go_wp2_with fail
 go_loopw [10] (fun iv wr => ∃ i : Nat, i ≤ r ∧ iv = .int .i64 (i : Int) ∧ Below w6.heap.size w6 wr) (fun iv _ => r - (intOf iv).toNat)
 case atStart => exact ⟨0, Nat.zero_le _, rfl, Below.refl _ _⟩
 case round =>
  obtain ⟨i, hi, rfl, hbr⟩ := hrel
  have Hbr := Lib.hid hbr
  obtain ⟨wA, rfl⟩ : ∃ x, x = wr := ⟨_, rfl⟩
  have hxb_wA : ∀ o, wA.cell? ⟨w2.heap.size, o, none⟩ = (#[.int .i64 m.c, .int .i64 m.d, .int .i64 m.s, .int .i64 m.e, .int .i64 m.l, .slice ua T.length uc] : Array Value)[o]? := fun o => by rw [(bcell hbr).1 _ _ (by omega), hxb_w6]
  have hz_wA := hbr.size
  have HVx := Lib.hid (HV.out.below hbr); clear HV; have HV := HVx; clear HVx
  have HTx := Lib.hid (HT.out.below hbr); clear HT; have HT := HTx; clear HTx
  have HCx := Lib.hid (HC.out.below hbr); clear HC; have HC := HCx; clear HCx
  have HR1x := Lib.hid (HR1.out.below hbr); clear HR1; have HR1 := HR1x; clear HR1x
  have HR2x := Lib.hid (HR2.out.below hbr); clear HR2; have HR2 := HR2x; clear HR2x
  have HBx := Lib.hid (HB.out.trans (hbr.mono (by omega))); clear HB; have HB := HBx; clear HBx
  clear hxb_w6
  clear hbr
  have hiA : i < A.1.length := by rw [HLw.out.2.1]; have := HLw.out.2.2.2.2.1; omega
  have hiC : i < cuts.length := by rw [HLw.out.2.2.1]; have := HLw.out.2.2.2.2.1; omega
  have hid : decide (i < A.1.length) = true := decide_eq_true hiA
  have hid2 : decide ((i : Int) < (A.1.length : Int)) = true := decide_eq_true (by omega)
  obtain ⟨b1, o1, a1, c1, rfl, _, hc1, hrow1⟩ := HR1.out.cell hiA
  obtain ⟨b2, o2, a2, c2, rfl, _, hc2, hrow2⟩ := HC.out.cell hiC
  obtain ⟨X, hX⟩ : ∃ X, getl A.1 i = X := ⟨_, rfl⟩
  obtain ⟨Y, hY⟩ : ∃ Y, getl cuts i = Y := ⟨_, rfl⟩
  rw [hX] at hc1 hrow1
  rw [hY] at hc2 hrow2
  obtain ⟨q, hq⟩ : ∃ q, decide (X = Y) = q := ⟨_, rfl⟩
  have hiAn : ¬ A.1.length ≤ i := by omega
  have hiCn : ¬ cuts.length ≤ i := by omega
  have Hq := Lib.hid (And.intro hq (And.intro hrow1.any (And.intro hrow2.any (And.intro hX hY)))); clear hq hrow1 hrow2 hX hY
  go_wp2_with fail
  have hqq := fun w0 : World => fun (h1 : V1 (fun _ => True) w0 (.slice a1 X.length c1) X) (h2 : V1 (fun _ => True) w0 (.slice a2 Y.length c2) Y) => likeInts_b _ _ X Y w0 q Hq.out.1 h1 h2
  have hr1 := Hq.out.2.1
  have hr2 := Hq.out.2.2.1
  go_quiet ((go_at_call 17; exact quiet_at0 (hqq _ (V1.drewN hr1) (V1.drewN hr2))))
  have hdist : q = decide (i < r) := by
   rw [← Hq.out.1]
   obtain ⟨_, _, _, _, hr, hpre, hK⟩ := HLw.out
   rw [← Hq.out.2.2.2.1, ← Hq.out.2.2.2.2]
   by_cases hir : i < r
   ·rw [decide_eq_true hir, decide_eq_true (hpre i hir)]
   ·have hir2 : i = r := by omega
    subst hir2
    rw [decide_eq_false hir]
    refine decide_eq_false fun e => ?_
    have hn := keysOf_nodup m
    rw [hK, e] at hn
    have h1 := (List.nodup_append.1 hn).2.1
    rw [List.nodup_cons] at h1
    exact h1.1 (by simp)
  have Hdist := Lib.hid hdist; clear hdist
  cases q
  rotate_left
  ·skip
   go_wp2_with fail
   have hir : i < r := of_decide_eq_true Hdist.out.symm
   go_roundw
   case rel => exact ⟨i + 1, by omega, by go_num, Hbr.out.trans (by first | exact Below.refl _ _ | exact below_drewN (Below.refl _ _) _)⟩
   case measure => simp [intOf]; omega
  have hir : i = r := by have := of_decide_eq_false Hdist.out.symm; omega
  subst hir
  go_wp2_with fail
  have hbq : Below wA.heap.size wA (wA.drewN nq) := below_drewN (Below.refl _ _) _
  obtain ⟨wB, hwB⟩ : ∃ x, x = wA.drewN nq := ⟨_, rfl⟩
  rw [← hwB] at hbq ⊢
  clear hwB
  have hxb_wB : ∀ o, wB.cell? ⟨w2.heap.size, o, none⟩ = (#[.int .i64 m.c, .int .i64 m.d, .int .i64 m.s, .int .i64 m.e, .int .i64 m.l, .slice ua T.length uc] : Array Value)[o]? := fun o => by rw [(bcell hbq).1 _ _ (by omega), hxb_wA]
  have hz_wB := hbq.size
  have HVx := Lib.hid (HV.out.below hbq); clear HV; have HV := HVx; clear HVx
  have HTx := Lib.hid (HT.out.below hbq); clear HT; have HT := HTx; clear HTx
  have HCx := Lib.hid (HC.out.below hbq); clear HC; have HC := HCx; clear HCx
  have HR1x := Lib.hid (HR1.out.below hbq); clear HR1; have HR1 := HR1x; clear HR1x
  have HR2x := Lib.hid (HR2.out.below hbq); clear HR2; have HR2 := HR2x; clear HR2x
  have HBx := Lib.hid (HB.out.trans (hbq.mono (by omega))); clear HB; have HB := HBx; clear HBx
  clear hxb_wA
  clear hbq
  have hdb : designB m T A.1 = true := by
   have := HLw.out.1
   unfold designC at this
   split at this
   ·assumption
   ·cases this
  have Hdb := Lib.hid hdb; clear hdb
  refine (IsDesign_b m _ _ T A.1 _ true Hdb.out HT.out HR1.out).mono ?_
  rintro e' w7 ⟨rfl, hb⟩
  have hxb_w7 : ∀ o, w7.cell? ⟨w2.heap.size, o, none⟩ = (#[.int .i64 m.c, .int .i64 m.d, .int .i64 m.s, .int .i64 m.e, .int .i64 m.l, .slice ua T.length uc] : Array Value)[o]? := fun o => by rw [(bcell hb).1 _ _ (by omega), hxb_wB]
  have hz_w7 := hb.size
  have HVx := Lib.hid (HV.out.below hb); clear HV; have HV := HVx; clear HVx
  have HTx := Lib.hid (HT.out.below hb); clear HT; have HT := HTx; clear HTx
  have HCx := Lib.hid (HC.out.below hb); clear HC; have HC := HCx; clear HCx
  have HR1x := Lib.hid (HR1.out.below hb); clear HR1; have HR1 := HR1x; clear HR1x
  have HR2x := Lib.hid (HR2.out.below hb); clear HR2; have HR2 := HR2x; clear HR2x
  have HBx := Lib.hid (HB.out.trans (hb.mono (by omega))); clear HB; have HB := HBx; clear HBx
  clear hxb_wB
  clear hb
  go_wp2_with fail
  obtain ⟨_, _, _, hok, _, _, hK⟩ := HLw.out
  have HK := Lib.hid (And.intro hok hK); clear hok hK
  obtain ⟨bq, oq, qa, qc, e, _, hcq, hrow⟩ := HC.out.cell hiC
  simp only [Option.some.injEq, Addr.mk.injEq, and_true] at e
  obtain ⟨rfl, rfl⟩ := e
  obtain ⟨Z, hZ⟩ : ∃ Z, getl cuts i = Z := ⟨_, rfl⟩
  have hbD : Below w7.heap.size w7 w7.drew := (Below.refl _ _).drew
  have hrow3 := (hrow.any).below hbD
  rw [hZ] at hcq hrow3
  have hKz := HK.out.2
  rw [hZ] at hKz
  have HRow := Lib.hid (And.intro hrow3 hKz); clear hrow3 hKz hrow hZ
  have hiQn : ¬ cuts.length ≤ i := by omega
  have hS2 : ∀ w' : World, w'.heap[w2.heap.size]? = w7.heap[w2.heap.size]? → w'.heap[b2]? = w7.heap[b2]? → (w'.cell? ⟨w2.heap.size, 0, none⟩ = some (.int .i64 m.c) ∧ w'.cell? ⟨w2.heap.size, 1, none⟩ = some (.int .i64 m.d) ∧ w'.cell? ⟨w2.heap.size, 2, none⟩ = some (.int .i64 m.s) ∧ w'.cell? ⟨w2.heap.size, 3, none⟩ = some (.int .i64 m.e) ∧ w'.cell? ⟨w2.heap.size, 4, none⟩ = some (.int .i64 m.l) ∧ w'.cell? ⟨w2.heap.size, 5, none⟩ = some (.slice ua T.length uc)) ∧ w'.cell? ⟨b2, o2 + i, none⟩ = some (.slice qa Z.length qc) := fun w' h1 h2 => ⟨by refine ⟨?_, ?_, ?_, ?_, ?_, ?_⟩ <;> exact cell_keep (hxb_w7 _) h1, cell_keep hcq h2⟩
  refine wp_region_noPanic ?_
  refine wp_region_held_drew (S := fun w' => (w'.cell? ⟨w2.heap.size, 0, none⟩ = some (.int .i64 m.c) ∧ w'.cell? ⟨w2.heap.size, 1, none⟩ = some (.int .i64 m.d) ∧ w'.cell? ⟨w2.heap.size, 2, none⟩ = some (.int .i64 m.s) ∧ w'.cell? ⟨w2.heap.size, 3, none⟩ = some (.int .i64 m.e) ∧ w'.cell? ⟨w2.heap.size, 4, none⟩ = some (.int .i64 m.l) ∧ w'.cell? ⟨w2.heap.size, 5, none⟩ = some (.slice ua T.length uc)) ∧ w'.cell? ⟨b2, o2 + i, none⟩ = some (.slice qa Z.length qc)) (by kernel_rfl) (hS2 w7.drew rfl rfl) (fun hHeld => ?_)
  (refine wpAnyH_take (i := 0) (v := .pointer (some ⟨w2.heap.size, 0, none⟩)) rfl (by kernel_rfl) (by kernel_rfl) (by kernel_rfl) (fun _ _ _ h => h) (Or.inl ⟨by kernel_rfl, fun w hSw => by (try dsimp only at hSw); go_split_ands; go_simp⟩) (by assumption) ?_; simp only [Act.put, List.setIfInBounds_toArray, List.set_cons_zero, List.set_cons_succ])
  (refine wpAnyH_take (i := 1) (v := .agg #[.int .i64 m.c, .int .i64 m.d, .int .i64 m.s, .int .i64 m.e, .int .i64 m.l]) rfl (by kernel_rfl) (by kernel_rfl) (by kernel_rfl) (fun _ _ _ h => h) (Or.inl ⟨by kernel_rfl, fun w hSw => by (try dsimp only at hSw); go_split_ands; go_simp⟩) (by assumption) ?_; simp only [Act.put, List.setIfInBounds_toArray, List.set_cons_zero, List.set_cons_succ])
  (refine wpAnyH_take (i := 2) (v := .slice (some ⟨b2, o2, none⟩) cuts.length cc) rfl (by kernel_rfl) (by kernel_rfl) (by kernel_rfl) (fun _ _ _ h => h) (Or.inl ⟨by kernel_rfl, fun w hSw => by (try dsimp only at hSw); go_split_ands; go_simp⟩) (by assumption) ?_; simp only [Act.put, List.setIfInBounds_toArray, List.set_cons_zero, List.set_cons_succ])
  (refine wpAnyH_take (i := 3) (v := .int .i64 (i : Int)) rfl (by kernel_rfl) (by kernel_rfl) (by kernel_rfl) (fun _ _ _ h => h) (Or.inl ⟨by kernel_rfl, fun w hSw => by (try dsimp only at hSw); go_split_ands; go_simp⟩) (by assumption) ?_; simp only [Act.put, List.setIfInBounds_toArray, List.set_cons_zero, List.set_cons_succ])
  (refine wpAnyH_take (i := 4) (v := .pointer (some ⟨b2, o2 + i, none⟩)) rfl (by kernel_rfl) (by kernel_rfl) (by kernel_rfl) (fun _ _ _ h => h) (Or.inl ⟨by kernel_rfl, fun w hSw => by (try dsimp only at hSw); go_split_ands; go_simp⟩) (by assumption) ?_; simp only [Act.put, List.setIfInBounds_toArray, List.set_cons_zero, List.set_cons_succ])
  (refine wpAnyH_take (i := 5) (v := .slice qa Z.length qc) rfl (by kernel_rfl) (by kernel_rfl) (by kernel_rfl) (fun _ _ _ h => h) (Or.inl ⟨by kernel_rfl, fun w hSw => by (try dsimp only at hSw); go_split_ands; go_simp⟩) (by assumption) ?_; simp only [Act.put, List.setIfInBounds_toArray, List.set_cons_zero, List.set_cons_succ])
  refine wpAnyH_ready (rs := [6]) (by kernel_rfl) (by simp) (AllReadyH.cons rfl (fun K hK => ?_) AllReadyH.nil)
  go_simp
  go_at_call 19
  refine (RankOf_any m HK.out.1 _ Z L1 (L2 ++ getl A.1 i :: L3) HRow.out.2 _ HRow.out.1).mono ?_
  rintro e' w8 ⟨rfl, hb3⟩
  have hb := hbD.trans (hb3.mono (Nat.le_refl _))
  have hlq := lt_of_cell hcq
  have hSz := hS2 w8 (hb.block _ (by omega)) (hb.block _ hlq)
  clear hb3 hcq
  have hxb_w8 : ∀ o, w8.cell? ⟨w2.heap.size, o, none⟩ = (#[.int .i64 m.c, .int .i64 m.d, .int .i64 m.s, .int .i64 m.e, .int .i64 m.l, .slice ua T.length uc] : Array Value)[o]? := fun o => by rw [(bcell hb).1 _ _ (by omega), hxb_w7]
  have hz_w8 := hb.size
  have HVx := Lib.hid (HV.out.below hb); clear HV; have HV := HVx; clear HVx
  have HTx := Lib.hid (HT.out.below hb); clear HT; have HT := HTx; clear HTx
  have HCx := Lib.hid (HC.out.below hb); clear HC; have HC := HCx; clear HCx
  have HR1x := Lib.hid (HR1.out.below hb); clear HR1; have HR1 := HR1x; clear HR1x
  have HR2x := Lib.hid (HR2.out.below hb); clear HR2; have HR2 := HR2x; clear HR2x
  have HBx := Lib.hid (HB.out.trans (hb.mono (by omega))); clear HB; have HB := HBx; clear HBx
  clear hxb_w7
  clear hb
  dsimp only
  (refine hK.out _ _ hSz (fun hHeld => ?_); clear hK K; (try simp only [Act.put, List.setIfInBounds_toArray, List.set_cons_zero, List.set_cons_succ]))
  (refine wpAnyH_take (i := 7) (v := .tuple #[.int .i64 (L1.length : Int), .int .i64 0]) rfl (by kernel_rfl) (by kernel_rfl) (by kernel_rfl) (fun _ _ _ h => h) (Or.inl ⟨by kernel_rfl, fun w hSw => by (try dsimp only at hSw); go_split_ands; go_simp⟩) (by assumption) ?_; simp only [Act.put, List.setIfInBounds_toArray, List.set_cons_zero, List.set_cons_succ])
  (refine wpAnyH_take (i := 8) (v := .int .i64 (L1.length : Int)) rfl (by kernel_rfl) (by kernel_rfl) (by kernel_rfl) (fun _ _ _ h => h) (Or.inl ⟨by kernel_rfl, fun w hSw => by (try dsimp only at hSw); go_split_ands; go_simp⟩) (by assumption) ?_; simp only [Act.put, List.setIfInBounds_toArray, List.set_cons_zero, List.set_cons_succ])
  (refine wpAnyH_take (i := 9) (v := .int .i64 0) rfl (by kernel_rfl) (by kernel_rfl) (by kernel_rfl) (fun _ _ _ h => h) (Or.inl ⟨by kernel_rfl, fun w hSw => by (try dsimp only at hSw); go_split_ands; go_simp⟩) (by assumption) ?_; simp only [Act.put, List.setIfInBounds_toArray, List.set_cons_zero, List.set_cons_succ])
  (refine wpAnyH_ready (rs := [10]) (by kernel_rfl) (by simp) (AllReadyH.cons rfl (fun K hK => ?_) AllReadyH.nil); go_simp)
  (refine hK.out _ _ hSz (fun hHeld => ?_); clear hK K; (try simp only [Act.put, List.setIfInBounds_toArray, List.set_cons_zero, List.set_cons_succ]))
  (refine wpAnyH_ready (rs := [11]) (by kernel_rfl) (by simp) (AllReadyH.cons rfl (fun K hK => ?_) AllReadyH.nil); go_simp)
  (refine hK.out _ _ hSz (fun hHeld => ?_); clear hK K; (try simp only [Act.put, List.setIfInBounds_toArray, List.set_cons_zero, List.set_cons_succ]))
  refine wpAnyH_done (by kernel_rfl) (NoPanic.normal ?_) _
  clear hHeld hSz hS2 hbD
  go_wp2_with fail
  obtain ⟨D, hD⟩ : ∃ D, L1 ++ getl cuts i :: L2 = D := ⟨_, rfl⟩
  have hK2 : keysOf m = D ++ getl A.1 i :: L3 := by rw [HK.out.2, ← hD]; simp
  have hDl : L1.length < D.length := by rw [← hD]; simp
  have hok := HK.out.1
  clear HK hD
  have HK := Lib.hid (And.intro hok hK2); clear hok hK2
  have HDl := Lib.hid hDl; clear hDl
  obtain ⟨bq, oq, qa, qc, e, _, hcq, hrow⟩ := HR1.out.cell hiA
  simp only [Option.some.injEq, Addr.mk.injEq, and_true] at e
  obtain ⟨rfl, rfl⟩ := e
  obtain ⟨Z, hZ⟩ : ∃ Z, getl A.1 i = Z := ⟨_, rfl⟩
  have hbD : Below w8.heap.size w8 w8.drew := (Below.refl _ _).drew
  have hrow3 := (hrow.any).below hbD
  rw [hZ] at hcq hrow3
  have hKz := HK.out.2
  rw [hZ] at hKz
  have HRow := Lib.hid (And.intro hrow3 hKz); clear hrow3 hKz hrow hZ
  have hiQn : ¬ A.1.length ≤ i := by omega
  have hS2 : ∀ w' : World, w'.heap[w2.heap.size]? = w8.heap[w2.heap.size]? → w'.heap[b1]? = w8.heap[b1]? → (w'.cell? ⟨w2.heap.size, 0, none⟩ = some (.int .i64 m.c) ∧ w'.cell? ⟨w2.heap.size, 1, none⟩ = some (.int .i64 m.d) ∧ w'.cell? ⟨w2.heap.size, 2, none⟩ = some (.int .i64 m.s) ∧ w'.cell? ⟨w2.heap.size, 3, none⟩ = some (.int .i64 m.e) ∧ w'.cell? ⟨w2.heap.size, 4, none⟩ = some (.int .i64 m.l) ∧ w'.cell? ⟨w2.heap.size, 5, none⟩ = some (.slice ua T.length uc)) ∧ w'.cell? ⟨b1, o1 + i, none⟩ = some (.slice qa Z.length qc) := fun w' h1 h2 => ⟨by refine ⟨?_, ?_, ?_, ?_, ?_, ?_⟩ <;> exact cell_keep (hxb_w8 _) h1, cell_keep hcq h2⟩
  refine wp_region_noPanic ?_
  refine wp_region_held_drew (S := fun w' => (w'.cell? ⟨w2.heap.size, 0, none⟩ = some (.int .i64 m.c) ∧ w'.cell? ⟨w2.heap.size, 1, none⟩ = some (.int .i64 m.d) ∧ w'.cell? ⟨w2.heap.size, 2, none⟩ = some (.int .i64 m.s) ∧ w'.cell? ⟨w2.heap.size, 3, none⟩ = some (.int .i64 m.e) ∧ w'.cell? ⟨w2.heap.size, 4, none⟩ = some (.int .i64 m.l) ∧ w'.cell? ⟨w2.heap.size, 5, none⟩ = some (.slice ua T.length uc)) ∧ w'.cell? ⟨b1, o1 + i, none⟩ = some (.slice qa Z.length qc)) (by kernel_rfl) (hS2 w8.drew rfl rfl) (fun hHeld => ?_)
  (refine wpAnyH_take (i := 0) (v := .pointer (some ⟨w2.heap.size, 0, none⟩)) rfl (by kernel_rfl) (by kernel_rfl) (by kernel_rfl) (fun _ _ _ h => h) (Or.inl ⟨by kernel_rfl, fun w hSw => by (try dsimp only at hSw); go_split_ands; go_simp⟩) (by assumption) ?_; simp only [Act.put, List.setIfInBounds_toArray, List.set_cons_zero, List.set_cons_succ])
  (refine wpAnyH_take (i := 1) (v := .agg #[.int .i64 m.c, .int .i64 m.d, .int .i64 m.s, .int .i64 m.e, .int .i64 m.l]) rfl (by kernel_rfl) (by kernel_rfl) (by kernel_rfl) (fun _ _ _ h => h) (Or.inl ⟨by kernel_rfl, fun w hSw => by (try dsimp only at hSw); go_split_ands; go_simp⟩) (by assumption) ?_; simp only [Act.put, List.setIfInBounds_toArray, List.set_cons_zero, List.set_cons_succ])
  (refine wpAnyH_take (i := 2) (v := .slice (some ⟨b1, o1, none⟩) A.1.length rc1) rfl (by kernel_rfl) (by kernel_rfl) (by kernel_rfl) (fun _ _ _ h => h) (Or.inl ⟨by kernel_rfl, fun w hSw => by (try dsimp only at hSw); go_split_ands; go_simp⟩) (by assumption) ?_; simp only [Act.put, List.setIfInBounds_toArray, List.set_cons_zero, List.set_cons_succ])
  (refine wpAnyH_take (i := 3) (v := .int .i64 (i : Int)) rfl (by kernel_rfl) (by kernel_rfl) (by kernel_rfl) (fun _ _ _ h => h) (Or.inl ⟨by kernel_rfl, fun w hSw => by (try dsimp only at hSw); go_split_ands; go_simp⟩) (by assumption) ?_; simp only [Act.put, List.setIfInBounds_toArray, List.set_cons_zero, List.set_cons_succ])
  (refine wpAnyH_take (i := 4) (v := .pointer (some ⟨b1, o1 + i, none⟩)) rfl (by kernel_rfl) (by kernel_rfl) (by kernel_rfl) (fun _ _ _ h => h) (Or.inl ⟨by kernel_rfl, fun w hSw => by (try dsimp only at hSw); go_split_ands; go_simp⟩) (by assumption) ?_; simp only [Act.put, List.setIfInBounds_toArray, List.set_cons_zero, List.set_cons_succ])
  (refine wpAnyH_take (i := 5) (v := .slice qa Z.length qc) rfl (by kernel_rfl) (by kernel_rfl) (by kernel_rfl) (fun _ _ _ h => h) (Or.inl ⟨by kernel_rfl, fun w hSw => by (try dsimp only at hSw); go_split_ands; go_simp⟩) (by assumption) ?_; simp only [Act.put, List.setIfInBounds_toArray, List.set_cons_zero, List.set_cons_succ])
  refine wpAnyH_ready (rs := [6]) (by kernel_rfl) (by simp) (AllReadyH.cons rfl (fun K hK => ?_) AllReadyH.nil)
  go_simp
  go_at_call 19
  refine (RankOf_any m HK.out.1 _ Z D L3 HRow.out.2 _ HRow.out.1).mono ?_
  rintro e' w9 ⟨rfl, hb3⟩
  have hb := hbD.trans (hb3.mono (Nat.le_refl _))
  have hlq := lt_of_cell hcq
  have hSz := hS2 w9 (hb.block _ (by omega)) (hb.block _ hlq)
  clear hb3 hcq
  have hxb_w9 : ∀ o, w9.cell? ⟨w2.heap.size, o, none⟩ = (#[.int .i64 m.c, .int .i64 m.d, .int .i64 m.s, .int .i64 m.e, .int .i64 m.l, .slice ua T.length uc] : Array Value)[o]? := fun o => by rw [(bcell hb).1 _ _ (by omega), hxb_w8]
  have hz_w9 := hb.size
  have HVx := Lib.hid (HV.out.below hb); clear HV; have HV := HVx; clear HVx
  have HTx := Lib.hid (HT.out.below hb); clear HT; have HT := HTx; clear HTx
  have HCx := Lib.hid (HC.out.below hb); clear HC; have HC := HCx; clear HCx
  have HR1x := Lib.hid (HR1.out.below hb); clear HR1; have HR1 := HR1x; clear HR1x
  have HR2x := Lib.hid (HR2.out.below hb); clear HR2; have HR2 := HR2x; clear HR2x
  have HBx := Lib.hid (HB.out.trans (hb.mono (by omega))); clear HB; have HB := HBx; clear HBx
  clear hxb_w8
  clear hb
  dsimp only
  (refine hK.out _ _ hSz (fun hHeld => ?_); clear hK K; (try simp only [Act.put, List.setIfInBounds_toArray, List.set_cons_zero, List.set_cons_succ]))
  (refine wpAnyH_take (i := 7) (v := .tuple #[.int .i64 (D.length : Int), .int .i64 0]) rfl (by kernel_rfl) (by kernel_rfl) (by kernel_rfl) (fun _ _ _ h => h) (Or.inl ⟨by kernel_rfl, fun w hSw => by (try dsimp only at hSw); go_split_ands; go_simp⟩) (by assumption) ?_; simp only [Act.put, List.setIfInBounds_toArray, List.set_cons_zero, List.set_cons_succ])
  (refine wpAnyH_take (i := 8) (v := .int .i64 (D.length : Int)) rfl (by kernel_rfl) (by kernel_rfl) (by kernel_rfl) (fun _ _ _ h => h) (Or.inl ⟨by kernel_rfl, fun w hSw => by (try dsimp only at hSw); go_split_ands; go_simp⟩) (by assumption) ?_; simp only [Act.put, List.setIfInBounds_toArray, List.set_cons_zero, List.set_cons_succ])
  (refine wpAnyH_take (i := 9) (v := .int .i64 0) rfl (by kernel_rfl) (by kernel_rfl) (by kernel_rfl) (fun _ _ _ h => h) (Or.inl ⟨by kernel_rfl, fun w hSw => by (try dsimp only at hSw); go_split_ands; go_simp⟩) (by assumption) ?_; simp only [Act.put, List.setIfInBounds_toArray, List.set_cons_zero, List.set_cons_succ])
  (refine wpAnyH_ready (rs := [10]) (by kernel_rfl) (by simp) (AllReadyH.cons rfl (fun K hK => ?_) AllReadyH.nil); go_simp)
  (refine hK.out _ _ hSz (fun hHeld => ?_); clear hK K; (try simp only [Act.put, List.setIfInBounds_toArray, List.set_cons_zero, List.set_cons_succ]))
  (refine wpAnyH_ready (rs := [11]) (by kernel_rfl) (by simp) (AllReadyH.cons rfl (fun K hK => ?_) AllReadyH.nil); go_simp)
  (refine hK.out _ _ hSz (fun hHeld => ?_); clear hK K; (try simp only [Act.put, List.setIfInBounds_toArray, List.set_cons_zero, List.set_cons_succ]))
  refine wpAnyH_done (by kernel_rfl) (NoPanic.normal ?_) _
  clear hHeld hSz hS2 hbD
  have hdd := HDl.out
  have hdd1 : decide (L1.length < D.length) = true := decide_eq_true hdd
  have hdd2 : decide ((L1.length : Int) < (D.length : Int)) = true := decide_eq_true (by omega)
  go_wp2_with fail
  go_ret
  exact ⟨rfl, HB.out⟩
end Go.Proofs.YtmaefilliggjiaaGreat
