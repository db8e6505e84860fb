/- The walk of 'laws.FnOutsiders'. No conditions. -/
import Derived.Test.YtmfgdoflddhngaaGreatMSys2
import Derived.Test.YtmfgdoflddhngaaGreatMLike
import Derived.Test.YtmfgdoflddhngaaGreatMFindD
import Derived.Test.YtmfgdoflddhngaaGreatDraw18
import Derived.Test.YtmfgdoflddhngaaGreatMGhF
import Derived.Test.YtmfgdoflddhngaaGreatMRowsOf
import Derived.Test.YtmfgdoflddhngaaGreatCntK
namespace Go.Proofs.YtmfgdoflddhngaaGreat
open Go.RowKit
set_option linter.unusedVariables false
set_option linter.unusedSimpArgs false

theorem sysGhost_ge (m : Mk) (t cuts : List (List Int)) : 0 ≤ (sysGhostAns m t cuts).1 := by
  unfold sysGhostAns
  split
  · exact Int.le_refl _
  · show (0 : Int) ≤ ((selL _ _ _ _).length : Nat); omega
theorem safe_few {m : Mk} {t cuts : List (List Int)} {most : Int} (h : (safeAns m t cuts most).2 = 0) : cuts.length ≤ 10 := by
  unfold safeAns listAns at h
  by_cases hp : designC m t cuts = 0
  · obtain ⟨hf, hcl⟩ := design_fits hp
    have := hf.rows
    omega
  · rw [if_pos hp] at h
    exact absurd h hp
set_option maxHeartbeats 4000000 in
set_option maxRecDepth 100000 in
theorem fnOutsiders_walk (W : World) (v : Value) (l : List Int) (h : VB (Old W) W v l) :
    Calls Tryz.prog 10 #[v] W fun e' w' => e' = .returned (.bool true) ∧ Below W.heap.size W w' := by
  have hV := h
  obtain ⟨a, c, rfl, hm⟩ := h.form
  have HV := Lib.hid hV; clear hV h
  cases hbig : decide (4096 < l.length)
  rotate_left
  · have Hbig := Lib.hid hbig; clear hbig
    go_enter Tryz.func10, Tryz.ntmps10
    go_wp2_with fail
    refine (big_any _ l W true Hbig.out HV.out).mono ?_
    rintro e' w' ⟨rfl, hW⟩
    subst hW
    go_wp2_with fail
    go_ret
    exact ⟨rfl, Below.refl _ _⟩
  have Hbig := Lib.hid hbig; clear hbig
  go_enter Tryz.func10, Tryz.ntmps10
  go_wp2_with fail
  refine (big_any _ l W false Hbig.out HV.out).mono ?_
  rintro e' w' ⟨rfl, hW⟩
  subst hW
  have HB := Lib.hid (Below.refl W.heap.size W)
  go_wp2_with fail
  refine (DrawSafeKeys_any _ l _ HV.out).mono ?_
  rintro e' w2 hD
  obtain ⟨m, u, cv, T, cuts, n, rfl, hu, hcv, hb⟩ := hD.open
  obtain ⟨ua, uc, rfl, _⟩ := hu.form
  obtain ⟨ca, cc, rfl, _⟩ := hcv.form
  obtain ⟨w3, hw3, hb3, hz3, _, hc3, _⟩ := box_facts w2 (#[.int .i64 m.c, .int .i64 m.d, .int .i64 m.s, .int .i64 m.e, .int .i64 m.l, .slice ua T.length uc] : Array Value) 28
  have hu := Lib.hid (hu.any.below hb3); have hcv := Lib.hid (hcv.any.below hb3)
  have Hw := Lib.hid hw3; clear hw3
  have hz_w2 := hb.size
  have HVx := Lib.hid (HV.out.below hb); clear HV; have HV := HVx; clear HVx
  have HBx := Lib.hid (HB.out.trans (hb.mono (by omega))); clear HB; have HB := HBx; clear HBx
  clear hb
  have hz_w3 := hb3.size
  have HVx := Lib.hid (HV.out.below hb3); clear HV; have HV := HVx; clear HVx
  have HBx := Lib.hid (HB.out.trans (hb3.mono (by omega))); clear HB; have HB := HBx; clear HBx
  clear hb3
  have HT := hu; clear hu; have HC := hcv; clear hcv
  have hxb_w3 := hc3; clear hc3
  have hzb := hz3; clear hz3
  go_wp2_with fail
  rw [← Hw.out]
  (try go_wp2_with fail)
  clear Hw
  obtain ⟨A, hA⟩ : ∃ x, safeAns m T cuts n = x := ⟨_, rfl⟩
  have EA := Lib.hid hA; clear hA
  obtain ⟨B, hB⟩ : ∃ x, sysGhostAns m T cuts = x := ⟨_, rfl⟩
  have EB := Lib.hid hB; clear hB
  refine (SafeKeys_any m _ _ T cuts n _ HT.out HC.out).mono ?_
  rintro e' w4 ⟨r1, rfl, hR, hb⟩
  rw [EA.out] at hR ⊢
  obtain ⟨ra1, rc1, rfl, _⟩ := hR.v2.form
  have hxb_w4 : ∀ o, w4.cell? ⟨w2.heap.size, o, none⟩ = (#[.int .i64 m.c, .int .i64 m.d, .int .i64 m.s, .int .i64 m.e, .int .i64 m.l, .slice ua T.length uc] : Array Value)[o]? := fun o => by rw [(bcell hb).1 _ _ (by omega), hxb_w3]
  have hz_w4 := hb.size
  have HVx := Lib.hid (HV.out.below hb); clear HV; have HV := HVx; clear HVx
  have HTx := Lib.hid (HT.out.below hb); clear HT; have HT := HTx; clear HTx
  have HCx := Lib.hid (HC.out.below hb); clear HC; have HC := HCx; clear HCx
  have HBx := Lib.hid (HB.out.trans (hb.mono (by omega))); clear HB; have HB := HBx; clear HBx
  clear hxb_w3
  clear hb
  have HR1 := Lib.hid (hR.v2.any); clear hR
  go_wp2_with fail
  refine (SafeKeysR_any m _ _ T cuts n _ HT.out HC.out).mono ?_
  rintro e' w5 ⟨r2, rfl, hR, hb⟩
  rw [EA.out] at hR ⊢
  obtain ⟨ra2, rc2, rfl, _⟩ := hR.form
  have hxb_w5 : ∀ o, w5.cell? ⟨w2.heap.size, o, none⟩ = (#[.int .i64 m.c, .int .i64 m.d, .int .i64 m.s, .int .i64 m.e, .int .i64 m.l, .slice ua T.length uc] : Array Value)[o]? := fun o => by rw [(bcell hb).1 _ _ (by omega), hxb_w4]
  have hz_w5 := hb.size
  have HVx := Lib.hid (HV.out.below hb); clear HV; have HV := HVx; clear HVx
  have HTx := Lib.hid (HT.out.below hb); clear HT; have HT := HTx; clear HTx
  have HCx := Lib.hid (HC.out.below hb); clear HC; have HC := HCx; clear HCx
  have HR1x := Lib.hid (HR1.out.below hb); clear HR1; have HR1 := HR1x; clear HR1x
  have HBx := Lib.hid (HB.out.trans (hb.mono (by omega))); clear HB; have HB := HBx; clear HBx
  clear hxb_w4
  clear hb
  have HR2 := Lib.hid (hR.any); clear hR
  go_wp2_with fail
  refine (CountSystemGhosts_any m _ _ T cuts _ HT.out HC.out).mono ?_
  rintro e' w6 ⟨rfl, hb⟩
  rw [EB.out]
  have hxb_w6 : ∀ o, w6.cell? ⟨w2.heap.size, o, none⟩ = (#[.int .i64 m.c, .int .i64 m.d, .int .i64 m.s, .int .i64 m.e, .int .i64 m.l, .slice ua T.length uc] : Array Value)[o]? := fun o => by rw [(bcell hb).1 _ _ (by omega), hxb_w5]
  have hz_w6 := hb.size
  have HVx := Lib.hid (HV.out.below hb); clear HV; have HV := HVx; clear HVx
  have HTx := Lib.hid (HT.out.below hb); clear HT; have HT := HTx; clear HTx
  have HCx := Lib.hid (HC.out.below hb); clear HC; have HC := HCx; clear HCx
  have HR1x := Lib.hid (HR1.out.below hb); clear HR1; have HR1 := HR1x; clear HR1x
  have HR2x := Lib.hid (HR2.out.below hb); clear HR2; have HR2 := HR2x; clear HR2x
  have HBx := Lib.hid (HB.out.trans (hb.mono (by omega))); clear HB; have HB := HBx; clear HBx
  clear hxb_w5
  clear hb
  go_wp2_with fail
  refine (CountSystemGhostsR_any m _ _ T cuts _ HT.out HC.out).mono ?_
  rintro e' w7 ⟨rfl, hb⟩
  rw [EB.out]
  have hxb_w7 : ∀ o, w7.cell? ⟨w2.heap.size, o, none⟩ = (#[.int .i64 m.c, .int .i64 m.d, .int .i64 m.s, .int .i64 m.e, .int .i64 m.l, .slice ua T.length uc] : Array Value)[o]? := fun o => by rw [(bcell hb).1 _ _ (by omega), hxb_w6]
  have hz_w7 := hb.size
  have HVx := Lib.hid (HV.out.below hb); clear HV; have HV := HVx; clear HVx
  have HTx := Lib.hid (HT.out.below hb); clear HT; have HT := HTx; clear HTx
  have HCx := Lib.hid (HC.out.below hb); clear HC; have HC := HCx; clear HCx
  have HR1x := Lib.hid (HR1.out.below hb); clear HR1; have HR1 := HR1x; clear HR1x
  have HR2x := Lib.hid (HR2.out.below hb); clear HR2; have HR2 := HR2x; clear HR2x
  have HBx := Lib.hid (HB.out.trans (hb.mono (by omega))); clear HB; have HB := HBx; clear HBx
  clear hxb_w6
  clear hb
  go_wp2_with fail
  refine (likeLists_w _ _ (A.1) (A.1) _ true (decide_eq_true rfl) HR1.out HR2.out).mono ?_
  rintro e' w8 ⟨rfl, hb⟩
  have hxb_w8 : ∀ o, w8.cell? ⟨w2.heap.size, o, none⟩ = (#[.int .i64 m.c, .int .i64 m.d, .int .i64 m.s, .int .i64 m.e, .int .i64 m.l, .slice ua T.length uc] : Array Value)[o]? := fun o => by rw [(bcell hb).1 _ _ (by omega), hxb_w7]
  have hz_w8 := hb.size
  have HVx := Lib.hid (HV.out.below hb); clear HV; have HV := HVx; clear HVx
  have HTx := Lib.hid (HT.out.below hb); clear HT; have HT := HTx; clear HTx
  have HCx := Lib.hid (HC.out.below hb); clear HC; have HC := HCx; clear HCx
  have HR1x := Lib.hid (HR1.out.below hb); clear HR1; have HR1 := HR1x; clear HR1x
  have HR2x := Lib.hid (HR2.out.below hb); clear HR2; have HR2 := HR2x; clear HR2x
  have HBx := Lib.hid (HB.out.trans (hb.mono (by omega))); clear HB; have HB := HBx; clear HBx
  clear hxb_w7
  clear hb
  by_cases hp : A.2 = 0
  rotate_left
  · have hpd : (A.2 != 0) = true := by simp [hp]
    go_wp2_with fail
    go_ret
    exact ⟨rfl, HB.out⟩
  have hpd : (A.2 != 0) = false := by simp [hp]
  by_cases hn3 : n < 300
  · have hnd : decide (n < 300) = true := decide_eq_true hn3
    go_wp2_with fail
    go_ret
    exact ⟨rfl, HB.out⟩
  have hnd : decide (n < 300) = false := decide_eq_false hn3
  have hlaw := outs_law (m := m) (t := T) (cuts := cuts) (most := n) (by rw [EA.out]; exact hp)
  have hge := sysGhost_ge m T cuts
  have hcs := safe_few (m := m) (t := T) (cuts := cuts) (most := n) (by rw [EA.out]; exact hp)
  rw [EA.out, EB.out] at hlaw
  rw [EB.out] at hge
  have hkl := keysOf_length hlaw.1
  obtain ⟨K, hK⟩ : ∃ K, ((keysOf m).length : Int) = K := ⟨_, rfl⟩
  rw [hK] at hlaw
  have hKb : K ≤ 262144 := by omega
  obtain ⟨D, hD⟩ : ∃ D, (ddTo cuts cuts.length).length = D := ⟨_, rfl⟩
  rw [hD] at hlaw
  have HLw := Lib.hid (And.intro hlaw (And.intro hge (And.intro hK (And.intro hKb hD)))); clear hlaw hge hK hKb hD hkl hp hn3
  have hcu := HC.out.len
  have hcul : cuts.length ≤ 9223372036854775807 := by unfold maxLen at hcu; omega
  have hal := HR1.out.len
  have hall : A.1.length ≤ 9223372036854775807 := by unfold maxLen at hal; omega
  clear hcu hal
  go_wp2_with fail
  go_loopw [14, 15, 16] (fun iv _ _ wr => ∃ k : Nat, k ≤ A.1.length ∧ iv = .int .i64 (k : Int) ∧ Below w8.heap.size w8 wr) (fun iv _ _ _ => A.1.length - (intOf iv).toNat)
  case atStart => exact ⟨0, Nat.zero_le _, rfl, Below.refl _ _⟩
  case round =>
    obtain ⟨k, hk, rfl, hbr⟩ := hrel
    have Hbr := Lib.hid hbr
    obtain ⟨wA, rfl⟩ : ∃ x, x = wr := ⟨_, rfl⟩
    have hxb_wA : ∀ o, wA.cell? ⟨w2.heap.size, o, none⟩ = (#[.int .i64 m.c, .int .i64 m.d, .int .i64 m.s, .int .i64 m.e, .int .i64 m.l, .slice ua T.length uc] : Array Value)[o]? := fun o => by rw [(bcell hbr).1 _ _ (by omega), hxb_w8]
    have hz_wA := hbr.size
    have HVx := Lib.hid (HV.out.below hbr); clear HV; have HV := HVx; clear HVx
    have HTx := Lib.hid (HT.out.below hbr); clear HT; have HT := HTx; clear HTx
    have HCx := Lib.hid (HC.out.below hbr); clear HC; have HC := HCx; clear HCx
    have HR1x := Lib.hid (HR1.out.below hbr); clear HR1; have HR1 := HR1x; clear HR1x
    have HR2x := Lib.hid (HR2.out.below hbr); clear HR2; have HR2 := HR2x; clear HR2x
    have HBx := Lib.hid (HB.out.trans (hbr.mono (by omega))); clear HB; have HB := HBx; clear HBx
    clear hxb_w8
    clear hbr
    by_cases hkk : k < A.1.length
    · skip
      have hkd : decide (k < A.1.length) = true := decide_eq_true hkk
      have hkd2 : decide ((k : Int) < (A.1.length : Int)) = true := decide_eq_true (by omega)
      have hda := HLw.out.1.2.1 k hkk
      obtain ⟨bq, oq, qa, qc, rfl, _, hcq, hrow⟩ := HR1.out.cell hkk
      obtain ⟨L1, hL1⟩ : ∃ x, getl A.1 k = x := ⟨_, rfl⟩
      rw [hL1] at hda hcq hrow
      have Hda := Lib.hid (And.intro hda hL1); clear hda hL1
      have HRow := Lib.hid hrow.any; clear hrow
      have hbD : Below wA.heap.size wA wA.drew := (Below.refl _ _).drew
      have hkn : ¬ A.1.length ≤ k := by omega
      have hS2 : ∀ w' : World, w'.heap[w2.heap.size]? = wA.heap[w2.heap.size]? → w'.heap[bq]? = wA.heap[bq]? → (w'.cell? ⟨w2.heap.size, 0, none⟩ = some (.int .i64 m.c) ∧ w'.cell? ⟨w2.heap.size, 1, none⟩ = some (.int .i64 m.d) ∧ w'.cell? ⟨w2.heap.size, 2, none⟩ = some (.int .i64 m.s) ∧ w'.cell? ⟨w2.heap.size, 3, none⟩ = some (.int .i64 m.e) ∧ w'.cell? ⟨w2.heap.size, 4, none⟩ = some (.int .i64 m.l) ∧ w'.cell? ⟨w2.heap.size, 5, none⟩ = some (.slice ua T.length uc)) ∧ w'.cell? ⟨bq, oq + k, none⟩ = some (.slice qa L1.length qc) := fun w' h1 h2 => ⟨by refine ⟨?_, ?_, ?_, ?_, ?_, ?_⟩ <;> exact cell_keep (hxb_wA _) h1, cell_keep hcq h2⟩
      go_wp2_with fail
      refine wp_region_noPanic ?_
      refine wp_region_held_drew (S := fun w' => (w'.cell? ⟨w2.heap.size, 0, none⟩ = some (.int .i64 m.c) ∧ w'.cell? ⟨w2.heap.size, 1, none⟩ = some (.int .i64 m.d) ∧ w'.cell? ⟨w2.heap.size, 2, none⟩ = some (.int .i64 m.s) ∧ w'.cell? ⟨w2.heap.size, 3, none⟩ = some (.int .i64 m.e) ∧ w'.cell? ⟨w2.heap.size, 4, none⟩ = some (.int .i64 m.l) ∧ w'.cell? ⟨w2.heap.size, 5, none⟩ = some (.slice ua T.length uc)) ∧ w'.cell? ⟨bq, oq + k, none⟩ = some (.slice qa L1.length qc)) (by kernel_rfl) (hS2 wA.drew rfl rfl) (fun hHeld => ?_)
      (refine wpAnyH_take (i := 0) (v := .agg #[.int .i64 m.c, .int .i64 m.d, .int .i64 m.s, .int .i64 m.e, .int .i64 m.l, .slice ua T.length uc]) rfl (by kernel_rfl) (by kernel_rfl) (by kernel_rfl) (fun _ _ _ h => h) (Or.inl ⟨by kernel_rfl, fun w hSw => by (try dsimp only at hSw); go_split_ands; go_simp⟩) (by assumption) ?_; simp only [Act.put, List.setIfInBounds_toArray, List.set_cons_zero, List.set_cons_succ])
      (refine wpAnyH_take (i := 1) (v := .slice ca cuts.length cc) rfl (by kernel_rfl) (by kernel_rfl) (by kernel_rfl) (fun _ _ _ h => h) (Or.inl ⟨by kernel_rfl, fun w hSw => by (try dsimp only at hSw); go_split_ands; go_simp⟩) (by assumption) ?_; simp only [Act.put, List.setIfInBounds_toArray, List.set_cons_zero, List.set_cons_succ])
      (refine wpAnyH_take (i := 2) (v := .slice (some ⟨bq, oq, none⟩) A.1.length rc1) rfl (by kernel_rfl) (by kernel_rfl) (by kernel_rfl) (fun _ _ _ h => h) (Or.inl ⟨by kernel_rfl, fun w hSw => by (try dsimp only at hSw); go_split_ands; go_simp⟩) (by assumption) ?_; simp only [Act.put, List.setIfInBounds_toArray, List.set_cons_zero, List.set_cons_succ])
      (refine wpAnyH_take (i := 3) (v := .int .i64 (k : Int)) rfl (by kernel_rfl) (by kernel_rfl) (by kernel_rfl) (fun _ _ _ h => h) (Or.inl ⟨by kernel_rfl, fun w hSw => by (try dsimp only at hSw); go_split_ands; go_simp⟩) (by assumption) ?_; simp only [Act.put, List.setIfInBounds_toArray, List.set_cons_zero, List.set_cons_succ])
      (refine wpAnyH_take (i := 4) (v := .pointer (some ⟨bq, oq + k, none⟩)) rfl (by kernel_rfl) (by kernel_rfl) (by kernel_rfl) (fun _ _ _ h => h) (Or.inl ⟨by kernel_rfl, fun w hSw => by (try dsimp only at hSw); go_split_ands; go_simp⟩) (by assumption) ?_; simp only [Act.put, List.setIfInBounds_toArray, List.set_cons_zero, List.set_cons_succ])
      (refine wpAnyH_take (i := 5) (v := .slice qa L1.length qc) rfl (by kernel_rfl) (by kernel_rfl) (by kernel_rfl) (fun _ _ _ h => h) (Or.inl ⟨by kernel_rfl, fun w hSw => by (try dsimp only at hSw); go_split_ands; go_simp⟩) (by assumption) ?_; simp only [Act.put, List.setIfInBounds_toArray, List.set_cons_zero, List.set_cons_succ])
      refine wpAnyH_ready (rs := [6]) (by kernel_rfl) (by simp) (AllReadyH.cons rfl (fun K hK => ?_) AllReadyH.nil)
      go_simp
      go_at_call 32
      refine (DoorsOpened_any m _ _ _ T cuts L1 _ (HT.out.below hbD) (HC.out.below hbD) (HRow.out.below hbD)).mono ?_
      rintro e' w3 ⟨dv, rfl, hR, hb3⟩
      rw [Hda.out.1.1] at hR ⊢
      obtain ⟨da, dc, rfl, _⟩ := hR.v1.form
      have hb := hbD.trans (hb3.mono (Nat.le_refl _))
      have hbql := lt_of_cell hcq
      have hSz := hS2 w3 (hb.block _ (by omega)) (hb.block _ hbql)
      have hcq3 := cell_keep hcq (hb.block _ hbql)
      have Hb2 := Lib.hid hb
      have HRowx := Lib.hid (HRow.out.below hb); clear HRow; have HRow := HRowx; clear HRowx hR hb3
      have hxb_w3 : ∀ o, w3.cell? ⟨w2.heap.size, o, none⟩ = (#[.int .i64 m.c, .int .i64 m.d, .int .i64 m.s, .int .i64 m.e, .int .i64 m.l, .slice ua T.length uc] : Array Value)[o]? := fun o => by rw [(bcell hb).1 _ _ (by omega), hxb_wA]
      have hz_w3 := hb.size
      have HVx := Lib.hid (HV.out.below hb); clear HV; have HV := HVx; clear HVx
      have HTx := Lib.hid (HT.out.below hb); clear HT; have HT := HTx; clear HTx
      have HCx := Lib.hid (HC.out.below hb); clear HC; have HC := HCx; clear HCx
      have HR1x := Lib.hid (HR1.out.below hb); clear HR1; have HR1 := HR1x; clear HR1x
      have HR2x := Lib.hid (HR2.out.below hb); clear HR2; have HR2 := HR2x; clear HR2x
      have HBx := Lib.hid (HB.out.trans (hb.mono (by omega))); clear HB; have HB := HBx; clear HBx
      clear hxb_wA
      clear hb
      dsimp only
      (refine hK.out _ _ hSz (fun hHeld => ?_); clear hK K; (try simp only [Act.put, List.setIfInBounds_toArray, List.set_cons_zero, List.set_cons_succ]))
      (refine wpAnyH_take (i := 7) (v := .tuple #[.slice da 0 dc, .int .i64 0]) rfl (by kernel_rfl) (by kernel_rfl) (by kernel_rfl) (fun _ _ _ h => h) (Or.inl ⟨by kernel_rfl, fun w hSw => by (try dsimp only at hSw); go_split_ands; go_simp⟩) (by assumption) ?_; simp only [Act.put, List.setIfInBounds_toArray, List.set_cons_zero, List.set_cons_succ])
      (refine wpAnyH_take (i := 8) (v := .slice da 0 dc) rfl (by kernel_rfl) (by kernel_rfl) (by kernel_rfl) (fun _ _ _ h => h) (Or.inl ⟨by kernel_rfl, fun w hSw => by (try dsimp only at hSw); go_split_ands; go_simp⟩) (by assumption) ?_; simp only [Act.put, List.setIfInBounds_toArray, List.set_cons_zero, List.set_cons_succ])
      (refine wpAnyH_take (i := 9) (v := .int .i64 0) rfl (by kernel_rfl) (by kernel_rfl) (by kernel_rfl) (fun _ _ _ h => h) (Or.inl ⟨by kernel_rfl, fun w hSw => by (try dsimp only at hSw); go_split_ands; go_simp⟩) (by assumption) ?_; simp only [Act.put, List.setIfInBounds_toArray, List.set_cons_zero, List.set_cons_succ])
      (refine wpAnyH_ready (rs := [10]) (by kernel_rfl) (by simp) (AllReadyH.cons rfl (fun K hK => ?_) AllReadyH.nil); go_simp)
      (refine hK.out _ _ hSz (fun hHeld => ?_); clear hK K; (try simp only [Act.put, List.setIfInBounds_toArray, List.set_cons_zero, List.set_cons_succ]))
      (refine wpAnyH_ready (rs := [11]) (by kernel_rfl) (by simp) (AllReadyH.cons rfl (fun K hK => ?_) AllReadyH.nil); go_simp)
      (refine hK.out _ _ hSz (fun hHeld => ?_); clear hK K; (try simp only [Act.put, List.setIfInBounds_toArray, List.set_cons_zero, List.set_cons_succ]))
      refine wpAnyH_done (by kernel_rfl) (NoPanic.normal ?_) _
      clear hHeld hSz hS2 hcq hbD
      go_wp2_with fail
      refine (hasList_w _ _ cuts L1 _ false Hda.out.1.2 HC.out HRow.out).mono ?_
      rintro e' w9 ⟨rfl, hb⟩
      have Hb3 := Lib.hid hb; clear hcq3
      have hxb_w9 : ∀ o, w9.cell? ⟨w2.heap.size, o, none⟩ = (#[.int .i64 m.c, .int .i64 m.d, .int .i64 m.s, .int .i64 m.e, .int .i64 m.l, .slice ua T.length uc] : Array Value)[o]? := fun o => by rw [(bcell hb).1 _ _ (by omega), hxb_w3]
      have hz_w9 := hb.size
      have HVx := Lib.hid (HV.out.below hb); clear HV; have HV := HVx; clear HVx
      have HTx := Lib.hid (HT.out.below hb); clear HT; have HT := HTx; clear HTx
      have HCx := Lib.hid (HC.out.below hb); clear HC; have HC := HCx; clear HCx
      have HR1x := Lib.hid (HR1.out.below hb); clear HR1; have HR1 := HR1x; clear HR1x
      have HR2x := Lib.hid (HR2.out.below hb); clear HR2; have HR2 := HR2x; clear HR2x
      have HBx := Lib.hid (HB.out.trans (hb.mono (by omega))); clear HB; have HB := HBx; clear HBx
      clear hxb_w3
      clear hb
      go_wp2_with fail
      go_roundw
      case rel => exact ⟨k + 1, by omega, by go_num, Hbr.out.trans ((Hb2.out.trans (Hb3.out.mono (by omega))).mono (by omega))⟩
      case measure => simp [intOf]; omega
    · skip
      have hkd : decide (k < A.1.length) = false := decide_eq_false hkk
      have hkd2 : decide ((k : Int) < (A.1.length : Int)) = false := decide_eq_false (by omega)
      have hown0 := own_lit0 wA wA.heap.size 46 1 (Nat.le_refl _)
      have hbl : Below wA.heap.size wA (wA.alloc (.cells #[] 46)) := (Below.refl _ _).alloc (Nat.le_refl _) _
      have HO := Lib.hid (And.intro hown0 hbl); clear hown0 hbl
      go_wp2_with fail
      go_loopw [17, 18] (fun rv iv wr => ∃ (k : Nat) (vs : List Value), k ≤ cuts.length ∧ iv = .int .i64 (k : Int) ∧ wr.ownsRow wA.heap.size 46 1 rv (ddTo cuts k).length vs ∧ RowVs (fun b => rv.ownBlock ≠ some b) wr vs (ddTo cuts k) ∧ Below wA.heap.size wA wr) (fun _ iv _ => cuts.length - (intOf iv).toNat)
      case atStart => exact ⟨0, [], Nat.zero_le _, rfl, HO.out.1, RowVs.nil, HO.out.2⟩
      case round =>
        obtain ⟨j, vs, hj, rfl, hown, hrv, hbr⟩ := hrel
        have Hbr2 := Lib.hid hbr
        have HC0 := Lib.hid (HC.out.old.mono (S' := fun b => b < wA.heap.size) (fun _ h _ => h) (fun _ _ _ => rfl))
        have HC1 := Lib.hid (HC0.out.below hbr); clear HC0
        obtain ⟨w4, rfl⟩ : ∃ x, x = wr := ⟨_, rfl⟩
        have hxb_w4 : ∀ o, w4.cell? ⟨w2.heap.size, o, none⟩ = (#[.int .i64 m.c, .int .i64 m.d, .int .i64 m.s, .int .i64 m.e, .int .i64 m.l, .slice ua T.length uc] : Array Value)[o]? := fun o => by rw [(bcell hbr).1 _ _ (by omega), hxb_wA]
        have hz_w4 := hbr.size
        have HVx := Lib.hid (HV.out.below hbr); clear HV; have HV := HVx; clear HVx
        have HTx := Lib.hid (HT.out.below hbr); clear HT; have HT := HTx; clear HTx
        have HCx := Lib.hid (HC.out.below hbr); clear HC; have HC := HCx; clear HCx
        have HR1x := Lib.hid (HR1.out.below hbr); clear HR1; have HR1 := HR1x; clear HR1x
        have HR2x := Lib.hid (HR2.out.below hbr); clear HR2; have HR2 := HR2x; clear HR2x
        have HBx := Lib.hid (HB.out.trans (hbr.mono (by omega))); clear HB; have HB := HBx; clear HBx
        clear hxb_wA
        clear hbr
        obtain ⟨oa, oc, rfl, _, _⟩ := own_form hown
        by_cases hjj : j < cuts.length
        · skip
          have hjd : decide (j < cuts.length) = true := decide_eq_true hjj
          have hjd2 : decide ((j : Int) < (cuts.length : Int)) = true := decide_eq_true (by omega)
          have hdl := ddTo_len cuts j
          have hst : ddTo cuts (j + 1) = if hasL (ddTo cuts j) (getl cuts j) = true then ddTo cuts j else ddTo cuts j ++ [getl cuts j] := rfl
          have hdl2 := ddTo_len cuts cuts.length
          obtain ⟨dd, hdd⟩ : ∃ x, ddTo cuts j = x := ⟨_, rfl⟩
          rw [hdd] at hown hrv hst hdl
          obtain ⟨bz, oz, za, zc, rfl, _, hcz, hrowz⟩ := HC1.out.cell hjj
          have HVd := Lib.hid ((own_V2S hown hrv).any)
          obtain ⟨q, hq⟩ : ∃ q, hasL dd (getl cuts j) = q := ⟨_, rfl⟩
          rw [hdd]
          rw [hq] at hst
          have HS := Lib.hid (And.intro hown (And.intro hrv (And.intro hst (And.intro hrowz hq)))); clear hown hrv hst hrowz hq
          cases q
          · skip
            go_wp2_with fail
            refine (hasList_w _ _ dd (getl cuts j) _ false HS.out.2.2.2.2 HVd.out HS.out.2.2.2.1).mono ?_
            rintro e' w9 ⟨rfl, hb⟩
            have hcz5 := cell_keep hcz (hb.block _ (lt_of_cell hcz))
            have hown5 := own_keep HS.out.1 hb
            have hrv5 := HS.out.2.1.below hb
            have hrow5 := HS.out.2.2.2.1.below hb
            have Hb4 := Lib.hid hb
            have H5 := Lib.hid (And.intro hrv5 hrow5); clear hrv5 hrow5 hcz
            have hxb_w9 : ∀ o, w9.cell? ⟨w2.heap.size, o, none⟩ = (#[.int .i64 m.c, .int .i64 m.d, .int .i64 m.s, .int .i64 m.e, .int .i64 m.l, .slice ua T.length uc] : Array Value)[o]? := fun o => by rw [(bcell hb).1 _ _ (by omega), hxb_w4]
            have hz_w9 := hb.size
            have HVx := Lib.hid (HV.out.below hb); clear HV; have HV := HVx; clear HVx
            have HTx := Lib.hid (HT.out.below hb); clear HT; have HT := HTx; clear HTx
            have HCx := Lib.hid (HC.out.below hb); clear HC; have HC := HCx; clear HCx
            have HR1x := Lib.hid (HR1.out.below hb); clear HR1; have HR1 := HR1x; clear HR1x
            have HR2x := Lib.hid (HR2.out.below hb); clear HR2; have HR2 := HR2x; clear HR2x
            have HBx := Lib.hid (HB.out.trans (hb.mono (by omega))); clear HB; have HB := HBx; clear HBx
            clear hxb_w4
            clear hb
            clear HVd
            go_wp2_with ((at_builtin; refine wp_app1 _ rfl _ _ 26 rfl wA.heap.size 46 (.slice none 0 0) 24 Tryz.underlying26 inf_ints rfl _ _ _ rfl hown5 (.slice za (getl cuts j).length zc) _ rfl rfl (by omega) (by omega) (by omega) ?_; intro v1 w1 hown1 hgrow1 hblk1 hB1); refine Hid.out ?_)
            refine Lib.hid ?_
            have hrow6 : V1 (fun b => (Value.slice oa dd.length oc).ownBlock ≠ some b) w9 (.slice za (getl cuts j).length zc) (getl cuts j) := H5.out.2.mono (fun b hb _ e => by
              have hb : b < wA.heap.size := hb
              have := (hown5.lt b e).1
              omega) (fun _ _ _ => rfl)
            have hrv6 := RowVs.snoc (RowVs.far H5.out.1 hgrow1 hblk1) (V1.far hrow6 hgrow1 hblk1)
            have hown6 := hown1
            have hst6 : ddTo cuts (j + 1) = dd ++ [getl cuts j] := by simpa using HS.out.2.2.1
            have hl6 : (ddTo cuts (j + 1)).length = dd.length + 1 := by rw [hst6]; simp
            obtain ⟨na, nc, rfl, _, _⟩ := own_form hown1
            have HW := Lib.hid (And.intro hrv6 (And.intro hown6 (And.intro hst6 (And.intro hl6 (Hbr2.out.trans ((Hb4.out.mono (by omega)).trans hB1)))))); clear hrow6 hrv6 hown6 hst6 hl6 hown1 hgrow1 hblk1 hB1 hown5 hcz5
            go_wp2_with fail
            go_roundw
            case rel => exact ⟨j + 1, _, by omega, by go_num, by rw [HW.out.2.2.2.1]; exact HW.out.2.1, by rw [HW.out.2.2.1]; exact HW.out.1, HW.out.2.2.2.2⟩
            case measure => simp [intOf]; omega
          · skip
            go_wp2_with fail
            refine (hasList_w _ _ dd (getl cuts j) _ true HS.out.2.2.2.2 HVd.out HS.out.2.2.2.1).mono ?_
            rintro e' w9 ⟨rfl, hb⟩
            have hst6 : ddTo cuts (j + 1) = dd := by simpa using HS.out.2.2.1
            have HW := Lib.hid (And.intro (HS.out.2.1.below hb) (And.intro (own_keep HS.out.1 hb) (And.intro hst6 (Hbr2.out.trans (hb.mono (by omega)))))); clear hst6 hcz
            have hxb_w9 : ∀ o, w9.cell? ⟨w2.heap.size, o, none⟩ = (#[.int .i64 m.c, .int .i64 m.d, .int .i64 m.s, .int .i64 m.e, .int .i64 m.l, .slice ua T.length uc] : Array Value)[o]? := fun o => by rw [(bcell hb).1 _ _ (by omega), hxb_w4]
            have hz_w9 := hb.size
            have HVx := Lib.hid (HV.out.below hb); clear HV; have HV := HVx; clear HVx
            have HTx := Lib.hid (HT.out.below hb); clear HT; have HT := HTx; clear HTx
            have HCx := Lib.hid (HC.out.below hb); clear HC; have HC := HCx; clear HCx
            have HR1x := Lib.hid (HR1.out.below hb); clear HR1; have HR1 := HR1x; clear HR1x
            have HR2x := Lib.hid (HR2.out.below hb); clear HR2; have HR2 := HR2x; clear HR2x
            have HBx := Lib.hid (HB.out.trans (hb.mono (by omega))); clear HB; have HB := HBx; clear HBx
            clear hxb_w4
            clear hb
            go_wp2_with fail
            go_roundw
            case rel => exact ⟨j + 1, _, by omega, by go_num, by rw [HW.out.2.2.1]; exact HW.out.2.1, by rw [HW.out.2.2.1]; exact HW.out.1, HW.out.2.2.2⟩
            case measure => simp [intOf]; omega
        · skip
          obtain rfl : j = cuts.length := by omega
          have hjd : decide (cuts.length < cuts.length) = false := decide_eq_false (Nat.lt_irrefl _)
          have hjd2 : decide ((cuts.length : Int) < (cuts.length : Int)) = false := decide_eq_false (by omega)
          obtain ⟨dn, hdn⟩ : ∃ x, (ddTo cuts cuts.length).length = x := ⟨_, rfl⟩
          rw [hdn]
          have hDd : dn = D := by rw [← hdn]; exact HLw.out.2.2.2.2
          subst hDd
          clear hown hrv hdn
          go_wp2_with fail
          refine (CountKeys_any m HLw.out.1.1 _).mono ?_
          rintro e' w9 ⟨rfl, hb⟩
          rw [HLw.out.2.2.1]
          have hxb_w9 : ∀ o, w9.cell? ⟨w2.heap.size, o, none⟩ = (#[.int .i64 m.c, .int .i64 m.d, .int .i64 m.s, .int .i64 m.e, .int .i64 m.l, .slice ua T.length uc] : Array Value)[o]? := fun o => by rw [(bcell hb).1 _ _ (by omega), hxb_w4]
          have hz_w9 := hb.size
          have HVx := Lib.hid (HV.out.below hb); clear HV; have HV := HVx; clear HVx
          have HTx := Lib.hid (HT.out.below hb); clear HT; have HT := HTx; clear HTx
          have HCx := Lib.hid (HC.out.below hb); clear HC; have HC := HCx; clear HCx
          have HR1x := Lib.hid (HR1.out.below hb); clear HR1; have HR1 := HR1x; clear HR1x
          have HR2x := Lib.hid (HR2.out.below hb); clear HR2; have HR2 := HR2x; clear HR2x
          have HBx := Lib.hid (HB.out.trans (hb.mono (by omega))); clear HB; have HB := HBx; clear HBx
          clear hxb_w4
          clear hb
          by_cases hlm : (A.1.length : Int) = n
          · have hlmd : ((A.1.length : Int) == n) = true := beq_iff_eq.2 hlm
            clear hlm
            go_wp2_with fail
            go_ret
            exact ⟨rfl, HB.out⟩
          have hlmd : ((A.1.length : Int) == n) = false := beq_eq_false_iff_ne.2 hlm
          have hsum := (HLw.out.1.2.2).resolve_left hlm
          have hge := HLw.out.2.1
          have hKb := HLw.out.2.2.2.1
          have hw1 : IntKind.i64.wrap ((dn : Int) + B.1) = (dn : Int) + B.1 := IntWalk.i64_in _ (by omega)
          have hw2 : IntKind.i64.wrap ((dn : Int) + B.1 + (A.1.length : Int)) = K := by rw [hsum]; exact IntWalk.i64_in _ (by omega)
          have Hs := Lib.hid (And.intro hsum (And.intro hge hKb)); clear hsum hge hKb hlm
          go_wp2_with fail
          go_ret
          exact ⟨rfl, HB.out⟩
end Go.Proofs.YtmfgdoflddhngaaGreat
