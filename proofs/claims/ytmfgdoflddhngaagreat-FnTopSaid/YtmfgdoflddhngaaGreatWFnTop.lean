/- The walk of 'laws.FnTop'. No conditions. -/
import Derived.Test.YtmfgdoflddhngaaGreatMSys2
import Derived.Test.YtmfgdoflddhngaaGreatMLike
import Derived.Test.YtmfgdoflddhngaaGreatMFindO
import Derived.Test.YtmfgdoflddhngaaGreatDraw18
import Derived.Test.YtmfgdoflddhngaaGreatMGhF
import Derived.Test.YtmfgdoflddhngaaGreatMRowsOf
import Derived.Test.YtmfgdoflddhngaaGreatMGoJ
namespace Go.Proofs.YtmfgdoflddhngaaGreat
open Go.RowKit
set_option linter.unusedVariables false
set_option linter.unusedSimpArgs false

theorem top_codes {m : Mk} {t cuts : List (List Int)} (hp : designC m t cuts = 0) : (ghostsAns m t cuts 300).2 = 0 ∧ (sysGhostAns m t cuts).2 = 0 := by
  refine ⟨?_, ?_⟩
  · unfold ghostsAns listAns; rw [if_neg (by rw [hp]; decide), if_neg (by decide)]
  · unfold sysGhostAns; rw [if_neg (by rw [hp]; decide)]
set_option maxHeartbeats 4000000 in
set_option maxRecDepth 100000 in
theorem fnTop_walk (W : World) (v : Value) (l : List Int) (h : VB (Old W) W v l) :
    Calls Tryz.prog 9 #[v] W fun e' w' => e' = .returned (.bool true) ∧ Below W.heap.size W w' := by
  have hV := h
  obtain ⟨a, c, rfl, hm⟩ := h.form
  have HV := Lib.hid hV; clear hV h
  cases hbig : decide (4096 < l.length)
  rotate_left
  · have Hbig := Lib.hid hbig; clear hbig
    go_enter Tryz.func9, Tryz.ntmps9
    go_wp2_with fail
    refine (big_any _ l W true Hbig.out HV.out).mono ?_
    rintro e' w' ⟨rfl, hW⟩
    subst hW
    go_wp2_with fail
    go_ret
    exact ⟨rfl, Below.refl _ _⟩
  have Hbig := Lib.hid hbig; clear hbig
  go_enter Tryz.func9, Tryz.ntmps9
  go_wp2_with fail
  refine (big_any _ l W false Hbig.out HV.out).mono ?_
  rintro e' w' ⟨rfl, hW⟩
  subst hW
  have HB := Lib.hid (Below.refl W.heap.size W)
  go_wp2_with fail
  refine (DrawSystemGhosts_any _ l _ HV.out).mono ?_
  rintro e' w2 hD
  obtain ⟨m, u, cv, T, cuts, n, rfl, hu, hcv, hb⟩ := hD.open
  obtain ⟨ua, uc, rfl, _⟩ := hu.form
  obtain ⟨ca, cc, rfl, _⟩ := hcv.form
  obtain ⟨w3, hw3, hb3, hz3, _, hc3, _⟩ := box_facts w2 (#[.int .i64 m.c, .int .i64 m.d, .int .i64 m.s, .int .i64 m.e, .int .i64 m.l, .slice ua T.length uc] : Array Value) 28
  have hu := Lib.hid (hu.any.below hb3); have hcv := Lib.hid (hcv.any.below hb3)
  have Hw := Lib.hid hw3; clear hw3
  have hz_w2 := hb.size
  have HVx := Lib.hid (HV.out.below hb); clear HV; have HV := HVx; clear HVx
  have HBx := Lib.hid (HB.out.trans (hb.mono (by omega))); clear HB; have HB := HBx; clear HBx
  clear hb
  have hz_w3 := hb3.size
  have HVx := Lib.hid (HV.out.below hb3); clear HV; have HV := HVx; clear HVx
  have HBx := Lib.hid (HB.out.trans (hb3.mono (by omega))); clear HB; have HB := HBx; clear HBx
  clear hb3
  have HT := hu; clear hu; have HC := hcv; clear hcv
  have hxb_w3 := hc3; clear hc3
  have hzb := hz3; clear hz3
  go_wp2_with fail
  rw [← Hw.out]
  (try go_wp2_with fail)
  clear Hw
  obtain ⟨A, hA⟩ : ∃ x, ghostsAns m T cuts n = x := ⟨_, rfl⟩
  have EA := Lib.hid hA; clear hA
  obtain ⟨B, hB⟩ : ∃ x, sysGhostAns m T cuts = x := ⟨_, rfl⟩
  have EB := Lib.hid hB; clear hB
  obtain ⟨L, hL⟩ : ∃ x, ghostsAns m T cuts 300 = x := ⟨_, rfl⟩
  have EL := Lib.hid hL; clear hL
  obtain ⟨r, hr⟩ : ∃ r, designB m T cuts = r := ⟨_, rfl⟩
  have Hr := Lib.hid hr; clear hr
  refine (SystemGhosts_any m _ _ T cuts n _ HT.out HC.out).mono ?_
  rintro e' w4 ⟨r1, rfl, hR, hb⟩
  rw [EA.out] at hR ⊢
  obtain ⟨ra1, rc1, rfl, _⟩ := hR.v2.form
  have hxb_w4 : ∀ o, w4.cell? ⟨w2.heap.size, o, none⟩ = (#[.int .i64 m.c, .int .i64 m.d, .int .i64 m.s, .int .i64 m.e, .int .i64 m.l, .slice ua T.length uc] : Array Value)[o]? := fun o => by rw [(bcell hb).1 _ _ (by omega), hxb_w3]
  have hz_w4 := hb.size
  have HVx := Lib.hid (HV.out.below hb); clear HV; have HV := HVx; clear HVx
  have HTx := Lib.hid (HT.out.below hb); clear HT; have HT := HTx; clear HTx
  have HCx := Lib.hid (HC.out.below hb); clear HC; have HC := HCx; clear HCx
  have HBx := Lib.hid (HB.out.trans (hb.mono (by omega))); clear HB; have HB := HBx; clear HBx
  clear hxb_w3
  clear hb
  have HR1 := Lib.hid (hR.v2.any); clear hR
  go_wp2_with fail
  refine (SystemGhostsR_any m _ _ T cuts n _ HT.out HC.out).mono ?_
  rintro e' w5 ⟨r2, rfl, hR, hb⟩
  rw [EA.out] at hR ⊢
  obtain ⟨ra2, rc2, rfl, _⟩ := hR.form
  have hxb_w5 : ∀ o, w5.cell? ⟨w2.heap.size, o, none⟩ = (#[.int .i64 m.c, .int .i64 m.d, .int .i64 m.s, .int .i64 m.e, .int .i64 m.l, .slice ua T.length uc] : Array Value)[o]? := fun o => by rw [(bcell hb).1 _ _ (by omega), hxb_w4]
  have hz_w5 := hb.size
  have HVx := Lib.hid (HV.out.below hb); clear HV; have HV := HVx; clear HVx
  have HTx := Lib.hid (HT.out.below hb); clear HT; have HT := HTx; clear HTx
  have HCx := Lib.hid (HC.out.below hb); clear HC; have HC := HCx; clear HCx
  have HR1x := Lib.hid (HR1.out.below hb); clear HR1; have HR1 := HR1x; clear HR1x
  have HBx := Lib.hid (HB.out.trans (hb.mono (by omega))); clear HB; have HB := HBx; clear HBx
  clear hxb_w4
  clear hb
  have HR2 := Lib.hid (hR.any); clear hR
  go_wp2_with fail
  refine (IsDesign_b m _ _ T cuts _ r Hr.out HT.out HC.out).mono ?_
  rintro e' w6 ⟨rfl, hb⟩
  have hxb_w6 : ∀ o, w6.cell? ⟨w2.heap.size, o, none⟩ = (#[.int .i64 m.c, .int .i64 m.d, .int .i64 m.s, .int .i64 m.e, .int .i64 m.l, .slice ua T.length uc] : Array Value)[o]? := fun o => by rw [(bcell hb).1 _ _ (by omega), hxb_w5]
  have hz_w6 := hb.size
  have HVx := Lib.hid (HV.out.below hb); clear HV; have HV := HVx; clear HVx
  have HTx := Lib.hid (HT.out.below hb); clear HT; have HT := HTx; clear HTx
  have HCx := Lib.hid (HC.out.below hb); clear HC; have HC := HCx; clear HCx
  have HR1x := Lib.hid (HR1.out.below hb); clear HR1; have HR1 := HR1x; clear HR1x
  have HR2x := Lib.hid (HR2.out.below hb); clear HR2; have HR2 := HR2x; clear HR2x
  have HBx := Lib.hid (HB.out.trans (hb.mono (by omega))); clear HB; have HB := HBx; clear HBx
  clear hxb_w5
  clear hb
  go_wp2_with fail
  refine (likeLists_w _ _ (A.1) (A.1) _ true (decide_eq_true rfl) HR1.out HR2.out).mono ?_
  rintro e' w7 ⟨rfl, hb⟩
  have hxb_w7 : ∀ o, w7.cell? ⟨w2.heap.size, o, none⟩ = (#[.int .i64 m.c, .int .i64 m.d, .int .i64 m.s, .int .i64 m.e, .int .i64 m.l, .slice ua T.length uc] : Array Value)[o]? := fun o => by rw [(bcell hb).1 _ _ (by omega), hxb_w6]
  have hz_w7 := hb.size
  have HVx := Lib.hid (HV.out.below hb); clear HV; have HV := HVx; clear HVx
  have HTx := Lib.hid (HT.out.below hb); clear HT; have HT := HTx; clear HTx
  have HCx := Lib.hid (HC.out.below hb); clear HC; have HC := HCx; clear HCx
  have HR1x := Lib.hid (HR1.out.below hb); clear HR1; have HR1 := HR1x; clear HR1x
  have HR2x := Lib.hid (HR2.out.below hb); clear HR2; have HR2 := HR2x; clear HR2x
  have HBx := Lib.hid (HB.out.trans (hb.mono (by omega))); clear HB; have HB := HBx; clear HBx
  clear hxb_w6
  clear hb
  go_wp2_with fail
  refine (IsDesignR_b m _ _ T cuts _ r Hr.out HT.out HC.out).mono ?_
  rintro e' w8 ⟨rfl, hb⟩
  have hxb_w8 : ∀ o, w8.cell? ⟨w2.heap.size, o, none⟩ = (#[.int .i64 m.c, .int .i64 m.d, .int .i64 m.s, .int .i64 m.e, .int .i64 m.l, .slice ua T.length uc] : Array Value)[o]? := fun o => by rw [(bcell hb).1 _ _ (by omega), hxb_w7]
  have hz_w8 := hb.size
  have HVx := Lib.hid (HV.out.below hb); clear HV; have HV := HVx; clear HVx
  have HTx := Lib.hid (HT.out.below hb); clear HT; have HT := HTx; clear HTx
  have HCx := Lib.hid (HC.out.below hb); clear HC; have HC := HCx; clear HCx
  have HR1x := Lib.hid (HR1.out.below hb); clear HR1; have HR1 := HR1x; clear HR1x
  have HR2x := Lib.hid (HR2.out.below hb); clear HR2; have HR2 := HR2x; clear HR2x
  have HBx := Lib.hid (HB.out.trans (hb.mono (by omega))); clear HB; have HB := HBx; clear HBx
  clear hxb_w7
  clear hb
  cases r
  · skip
    go_wp2_with fail
    go_ret
    exact ⟨rfl, HB.out⟩
  have hp : designC m T cuts = 0 := by unfold designC; rw [if_pos Hr.out]
  obtain ⟨hf, hcl⟩ := design_fits hp
  have hrw := hf.rows
  have hcds := top_codes hp
  rw [EL.out, EB.out] at hcds
  have hL2 : (L.2 != 0) = false := by rw [hcds.1]; rfl
  have hB2 : (B.2 != 0) = false := by rw [hcds.2]; rfl
  have Hp := Lib.hid (And.intro hp (And.intro hf (And.intro hcl (And.intro hL2 hB2)))); clear hp hf hcds hL2 hB2 Hr hcl
  obtain ⟨bt, ot, _, _, rfl, _, _, _⟩ := HT.out.cell (k := 0) (by omega)
  clear hrw
  go_wp2_with fail
  go_loopw [11, 12, 13, 14] (fun iv _ _ _ wr => ∃ i : Nat, i ≤ cuts.length ∧ iv = .int .i64 (i : Int) ∧ Below w8.heap.size w8 wr) (fun iv _ _ _ _ => cuts.length - (intOf iv).toNat)
  case atStart => exact ⟨0, Nat.zero_le _, rfl, Below.refl _ _⟩
  case round =>
    obtain ⟨i, hi, rfl, hbr⟩ := hrel
    have Hbr := Lib.hid hbr
    obtain ⟨wA, rfl⟩ : ∃ x, x = wr := ⟨_, rfl⟩
    have hxb_wA : ∀ o, wA.cell? ⟨w2.heap.size, o, none⟩ = (#[.int .i64 m.c, .int .i64 m.d, .int .i64 m.s, .int .i64 m.e, .int .i64 m.l, .slice (some ⟨bt, ot, none⟩) T.length uc] : Array Value)[o]? := fun o => by rw [(bcell hbr).1 _ _ (by omega), hxb_w8]
    have hz_wA := hbr.size
    have HVx := Lib.hid (HV.out.below hbr); clear HV; have HV := HVx; clear HVx
    have HTx := Lib.hid (HT.out.below hbr); clear HT; have HT := HTx; clear HTx
    have HCx := Lib.hid (HC.out.below hbr); clear HC; have HC := HCx; clear HCx
    have HR1x := Lib.hid (HR1.out.below hbr); clear HR1; have HR1 := HR1x; clear HR1x
    have HR2x := Lib.hid (HR2.out.below hbr); clear HR2; have HR2 := HR2x; clear HR2x
    have HBx := Lib.hid (HB.out.trans (hbr.mono (by omega))); clear HB; have HB := HBx; clear HBx
    clear hxb_w8
    clear hbr
    by_cases hii : i < cuts.length
    · skip
      have hid : decide (i < cuts.length) = true := decide_eq_true hii
      have hid2 : decide ((i : Int) < (cuts.length : Int)) = true := decide_eq_true (by omega)
      have hiT : i < T.length := by have := Hp.out.2.2.1; omega
      have hkey := Hp.out.2.1.keys i hii
      obtain ⟨ds, hds⟩ : ∃ ds, doorsAns m T cuts (getl cuts i) = (ds, 0) := ⟨_, doorsAns_ok Hp.out.1 hkey⟩
      have hlaw : ∀ q : Nat, q < (getl T i).length → hasI ds (q : Int) = decide (geti (getl T i) q = 1) := fun q hq => by
        have := design_doors Hp.out.1 hii (d := q) (by rw [← Hp.out.2.1.cols i hiT]; exact hq)
        rw [hds] at this
        exact this
      obtain ⟨bq, oq, qa, qc, rfl, _, hcq, hrow⟩ := HC.out.cell hii
      obtain ⟨L1, hL1⟩ : ∃ x, getl cuts i = x := ⟨_, rfl⟩
      rw [hL1] at hds hcq hrow
      have Hda := Lib.hid (And.intro hds hlaw); clear hds hlaw hL1 hkey
      have HRow := Lib.hid hrow.any; clear hrow
      have hbD : Below wA.heap.size wA wA.drew := (Below.refl _ _).drew
      have hkn : ¬ cuts.length ≤ i := by omega
      have hS2 : ∀ w' : World, w'.heap[w2.heap.size]? = wA.heap[w2.heap.size]? → w'.heap[bq]? = wA.heap[bq]? → (w'.cell? ⟨w2.heap.size, 0, none⟩ = some (.int .i64 m.c) ∧ w'.cell? ⟨w2.heap.size, 1, none⟩ = some (.int .i64 m.d) ∧ w'.cell? ⟨w2.heap.size, 2, none⟩ = some (.int .i64 m.s) ∧ w'.cell? ⟨w2.heap.size, 3, none⟩ = some (.int .i64 m.e) ∧ w'.cell? ⟨w2.heap.size, 4, none⟩ = some (.int .i64 m.l) ∧ w'.cell? ⟨w2.heap.size, 5, none⟩ = some (.slice (some ⟨bt, ot, none⟩) T.length uc)) ∧ w'.cell? ⟨bq, oq + i, none⟩ = some (.slice qa L1.length qc) := fun w' h1 h2 => ⟨by refine ⟨?_, ?_, ?_, ?_, ?_, ?_⟩ <;> exact cell_keep (hxb_wA _) h1, cell_keep hcq h2⟩
      go_wp2_with fail
      refine wp_region_noPanic ?_
      refine wp_region_held_drew (S := fun w' => (w'.cell? ⟨w2.heap.size, 0, none⟩ = some (.int .i64 m.c) ∧ w'.cell? ⟨w2.heap.size, 1, none⟩ = some (.int .i64 m.d) ∧ w'.cell? ⟨w2.heap.size, 2, none⟩ = some (.int .i64 m.s) ∧ w'.cell? ⟨w2.heap.size, 3, none⟩ = some (.int .i64 m.e) ∧ w'.cell? ⟨w2.heap.size, 4, none⟩ = some (.int .i64 m.l) ∧ w'.cell? ⟨w2.heap.size, 5, none⟩ = some (.slice (some ⟨bt, ot, none⟩) T.length uc)) ∧ w'.cell? ⟨bq, oq + i, none⟩ = some (.slice qa L1.length qc)) (by kernel_rfl) (hS2 wA.drew rfl rfl) (fun hHeld => ?_)
      (refine wpAnyH_take (i := 0) (v := .agg #[.int .i64 m.c, .int .i64 m.d, .int .i64 m.s, .int .i64 m.e, .int .i64 m.l, .slice (some ⟨bt, ot, none⟩) T.length uc]) rfl (by kernel_rfl) (by kernel_rfl) (by kernel_rfl) (fun _ _ _ h => h) (Or.inl ⟨by kernel_rfl, fun w hSw => by (try dsimp only at hSw); go_split_ands; go_simp⟩) (by assumption) ?_; simp only [Act.put, List.setIfInBounds_toArray, List.set_cons_zero, List.set_cons_succ])
      (refine wpAnyH_take (i := 1) (v := .slice (some ⟨bq, oq, none⟩) cuts.length cc) rfl (by kernel_rfl) (by kernel_rfl) (by kernel_rfl) (fun _ _ _ h => h) (Or.inl ⟨by kernel_rfl, fun w hSw => by (try dsimp only at hSw); go_split_ands; go_simp⟩) (by assumption) ?_; simp only [Act.put, List.setIfInBounds_toArray, List.set_cons_zero, List.set_cons_succ])
      (refine wpAnyH_take (i := 2) (v := .slice (some ⟨bq, oq, none⟩) cuts.length cc) rfl (by kernel_rfl) (by kernel_rfl) (by kernel_rfl) (fun _ _ _ h => h) (Or.inl ⟨by kernel_rfl, fun w hSw => by (try dsimp only at hSw); go_split_ands; go_simp⟩) (by assumption) ?_; simp only [Act.put, List.setIfInBounds_toArray, List.set_cons_zero, List.set_cons_succ])
      (refine wpAnyH_take (i := 3) (v := .int .i64 (i : Int)) rfl (by kernel_rfl) (by kernel_rfl) (by kernel_rfl) (fun _ _ _ h => h) (Or.inl ⟨by kernel_rfl, fun w hSw => by (try dsimp only at hSw); go_split_ands; go_simp⟩) (by assumption) ?_; simp only [Act.put, List.setIfInBounds_toArray, List.set_cons_zero, List.set_cons_succ])
      (refine wpAnyH_take (i := 4) (v := .pointer (some ⟨bq, oq + i, none⟩)) rfl (by kernel_rfl) (by kernel_rfl) (by kernel_rfl) (fun _ _ _ h => h) (Or.inl ⟨by kernel_rfl, fun w hSw => by (try dsimp only at hSw); go_split_ands; go_simp⟩) (by assumption) ?_; simp only [Act.put, List.setIfInBounds_toArray, List.set_cons_zero, List.set_cons_succ])
      (refine wpAnyH_take (i := 5) (v := .slice qa L1.length qc) rfl (by kernel_rfl) (by kernel_rfl) (by kernel_rfl) (fun _ _ _ h => h) (Or.inl ⟨by kernel_rfl, fun w hSw => by (try dsimp only at hSw); go_split_ands; go_simp⟩) (by assumption) ?_; simp only [Act.put, List.setIfInBounds_toArray, List.set_cons_zero, List.set_cons_succ])
      refine wpAnyH_ready (rs := [6]) (by kernel_rfl) (by simp) (AllReadyH.cons rfl (fun K hK => ?_) AllReadyH.nil)
      go_simp
      go_at_call 32
      refine (DoorsOpened_any m _ _ _ T cuts L1 _ (HT.out.below hbD) (HC.out.below hbD) (HRow.out.below hbD)).mono ?_
      rintro e' w3 ⟨dv, rfl, hR, hb3⟩
      rw [Hda.out.1] at hR ⊢
      have hR : F1 wA.drew.heap.size w3 dv ds := hR
      obtain ⟨da, dc, rfl, _⟩ := hR.v1.form
      have hb := hbD.trans (hb3.mono (Nat.le_refl _))
      have hbql := lt_of_cell hcq
      have hSz := hS2 w3 (hb.block _ (by omega)) (hb.block _ hbql)
      have Hb2 := Lib.hid hb
      have HDs := Lib.hid hR.v1.any; clear hR hb3 hcq
      have hxb_w3 : ∀ o, w3.cell? ⟨w2.heap.size, o, none⟩ = (#[.int .i64 m.c, .int .i64 m.d, .int .i64 m.s, .int .i64 m.e, .int .i64 m.l, .slice (some ⟨bt, ot, none⟩) T.length uc] : Array Value)[o]? := fun o => by rw [(bcell hb).1 _ _ (by omega), hxb_wA]
      have hz_w3 := hb.size
      have HVx := Lib.hid (HV.out.below hb); clear HV; have HV := HVx; clear HVx
      have HTx := Lib.hid (HT.out.below hb); clear HT; have HT := HTx; clear HTx
      have HCx := Lib.hid (HC.out.below hb); clear HC; have HC := HCx; clear HCx
      have HR1x := Lib.hid (HR1.out.below hb); clear HR1; have HR1 := HR1x; clear HR1x
      have HR2x := Lib.hid (HR2.out.below hb); clear HR2; have HR2 := HR2x; clear HR2x
      have HBx := Lib.hid (HB.out.trans (hb.mono (by omega))); clear HB; have HB := HBx; clear HBx
      clear hxb_wA
      clear hb
      dsimp only
      (refine hK.out _ _ hSz (fun hHeld => ?_); clear hK K; (try simp only [Act.put, List.setIfInBounds_toArray, List.set_cons_zero, List.set_cons_succ]))
      (refine wpAnyH_take (i := 7) (v := .tuple #[.slice da ds.length dc, .int .i64 0]) rfl (by kernel_rfl) (by kernel_rfl) (by kernel_rfl) (fun _ _ _ h => h) (Or.inl ⟨by kernel_rfl, fun w hSw => by (try dsimp only at hSw); go_split_ands; go_simp⟩) (by assumption) ?_; simp only [Act.put, List.setIfInBounds_toArray, List.set_cons_zero, List.set_cons_succ])
      (refine wpAnyH_take (i := 8) (v := .slice da ds.length dc) rfl (by kernel_rfl) (by kernel_rfl) (by kernel_rfl) (fun _ _ _ h => h) (Or.inl ⟨by kernel_rfl, fun w hSw => by (try dsimp only at hSw); go_split_ands; go_simp⟩) (by assumption) ?_; simp only [Act.put, List.setIfInBounds_toArray, List.set_cons_zero, List.set_cons_succ])
      (refine wpAnyH_take (i := 9) (v := .int .i64 0) rfl (by kernel_rfl) (by kernel_rfl) (by kernel_rfl) (fun _ _ _ h => h) (Or.inl ⟨by kernel_rfl, fun w hSw => by (try dsimp only at hSw); go_split_ands; go_simp⟩) (by assumption) ?_; simp only [Act.put, List.setIfInBounds_toArray, List.set_cons_zero, List.set_cons_succ])
      (refine wpAnyH_ready (rs := [10]) (by kernel_rfl) (by simp) (AllReadyH.cons rfl (fun K hK => ?_) AllReadyH.nil); go_simp)
      (refine hK.out _ _ hSz (fun hHeld => ?_); clear hK K; (try simp only [Act.put, List.setIfInBounds_toArray, List.set_cons_zero, List.set_cons_succ]))
      (refine wpAnyH_ready (rs := [11]) (by kernel_rfl) (by simp) (AllReadyH.cons rfl (fun K hK => ?_) AllReadyH.nil); go_simp)
      (refine hK.out _ _ hSz (fun hHeld => ?_); clear hK K; (try simp only [Act.put, List.setIfInBounds_toArray, List.set_cons_zero, List.set_cons_succ]))
      refine wpAnyH_done (by kernel_rfl) (NoPanic.normal ?_) _
      clear hHeld hSz hS2 hbD HRow
      go_wp2_with fail
      go_loopw [14] (fun kv wr => ∃ k : Nat, k ≤ (getl T i).length ∧ kv = .int .i64 (k : Int) ∧ Below w3.heap.size w3 wr) (fun kv _ => (getl T i).length - (intOf kv).toNat)
      case atStart => exact ⟨0, Nat.zero_le _, rfl, Below.refl _ _⟩
      case round =>
        obtain ⟨k, hk, rfl, hbr⟩ := hrel
        have Hbr3 := Lib.hid hbr
        obtain ⟨w4, rfl⟩ : ∃ x, x = wr := ⟨_, rfl⟩
        have hxb_w4 : ∀ o, w4.cell? ⟨w2.heap.size, o, none⟩ = (#[.int .i64 m.c, .int .i64 m.d, .int .i64 m.s, .int .i64 m.e, .int .i64 m.l, .slice (some ⟨bt, ot, none⟩) T.length uc] : Array Value)[o]? := fun o => by rw [(bcell hbr).1 _ _ (by omega), hxb_w3]
        have hz_w4 := hbr.size
        have HVx := Lib.hid (HV.out.below hbr); clear HV; have HV := HVx; clear HVx
        have HTx := Lib.hid (HT.out.below hbr); clear HT; have HT := HTx; clear HTx
        have HCx := Lib.hid (HC.out.below hbr); clear HC; have HC := HCx; clear HCx
        have HR1x := Lib.hid (HR1.out.below hbr); clear HR1; have HR1 := HR1x; clear HR1x
        have HR2x := Lib.hid (HR2.out.below hbr); clear HR2; have HR2 := HR2x; clear HR2x
        have HDsx := Lib.hid (HDs.out.below hbr); clear HDs; have HDs := HDsx; clear HDsx
        have HBx := Lib.hid (HB.out.trans (hbr.mono (by omega))); clear HB; have HB := HBx; clear HBx
        clear hxb_w3
        clear hbr
        obtain ⟨b', o', ta, tc, e, _, hct, hrt⟩ := HT.out.cell hiT
        simp only [Option.some.injEq, Addr.mk.injEq, and_true] at e
        obtain ⟨rfl, rfl⟩ := e
        have hiTn : ¬ T.length ≤ i := by omega
        obtain ⟨R, hR⟩ : ∃ R, getl T i = R := ⟨_, rfl⟩
        rw [hR] at hct hrt hk
        have hlR : ∀ q : Nat, q < R.length → hasI ds (q : Int) = decide (geti R q = 1) := by rw [← hR]; exact Hda.out.2
        have hR12 : R.length ≤ 12 := by rw [← hR, Hp.out.2.1.cols i hiT]; exact Hp.out.2.1.doors.2
        have HlR := Lib.hid (And.intro hR (And.intro hlR hR12)); clear hR hlR hR12
        by_cases hkk : k < R.length
        · skip
          have hkd : decide (k < R.length) = true := decide_eq_true hkk
          have hkd2 : decide ((k : Int) < (R.length : Int)) = true := decide_eq_true (by omega)
          have hkRn : ¬ R.length ≤ k := by omega
          obtain ⟨bx, ox, rfl, _, hcx⟩ := hrt.cell hkk
          have hq := HlR.out.2.1 k hkk
          obtain ⟨x, hx⟩ : ∃ x, geti R k = x := ⟨_, rfl⟩
          rw [hx] at hcx hq
          obtain ⟨q, hqq⟩ : ∃ q, (x == 1) = q := ⟨_, rfl⟩
          have hq2 : hasI ds (k : Int) = q := by rw [hq, ← hqq]; rfl
          have Hq := Lib.hid (And.intro hq2 hrt); clear hq hq2 hrt hx
          have hS3 : (w4.cell? ⟨w2.heap.size, 5, none⟩ = some (.slice (some ⟨bt, ot, none⟩) T.length uc) ∧ w4.cell? ⟨bt, ot + i, none⟩ = some (.slice (some ⟨bx, ox, none⟩) R.length tc)) ∧ w4.cell? ⟨bx, ox + k, none⟩ = some (.int .i64 x) := ⟨⟨hxb_w4 5, hct⟩, hcx⟩
          have hS3d : (w4.drew.cell? ⟨w2.heap.size, 5, none⟩ = some (.slice (some ⟨bt, ot, none⟩) T.length uc) ∧ w4.drew.cell? ⟨bt, ot + i, none⟩ = some (.slice (some ⟨bx, ox, none⟩) R.length tc)) ∧ w4.drew.cell? ⟨bx, ox + k, none⟩ = some (.int .i64 x) := hS3
          go_wp2_with fail
          refine wp_region_noPanic ?_
          refine wp_region_held_drew (S := fun w' => (w'.cell? ⟨w2.heap.size, 5, none⟩ = some (.slice (some ⟨bt, ot, none⟩) T.length uc) ∧ w'.cell? ⟨bt, ot + i, none⟩ = some (.slice (some ⟨bx, ox, none⟩) R.length tc)) ∧ w'.cell? ⟨bx, ox + k, none⟩ = some (.int .i64 x)) (by kernel_rfl) hS3d (fun hHeld => ?_)
          (refine wpAnyH_take (i := 0) (v := .slice da ds.length dc) rfl (by kernel_rfl) (by kernel_rfl) (by kernel_rfl) (fun _ _ _ h => h) (Or.inl ⟨by kernel_rfl, fun w hSw => by (try dsimp only at hSw); go_split_ands; go_simp⟩) (by assumption) ?_; simp only [Act.put, List.setIfInBounds_toArray, List.set_cons_zero, List.set_cons_succ])
          (refine wpAnyH_take (i := 1) (v := .int .i64 (k : Int)) rfl (by kernel_rfl) (by kernel_rfl) (by kernel_rfl) (fun _ _ _ h => h) (Or.inl ⟨by kernel_rfl, fun w hSw => by (try dsimp only at hSw); go_split_ands; go_simp⟩) (by assumption) ?_; simp only [Act.put, List.setIfInBounds_toArray, List.set_cons_zero, List.set_cons_succ])
          (refine wpAnyH_take (i := 3) (v := .pointer (some ⟨w2.heap.size, 5, none⟩)) rfl (by kernel_rfl) (by kernel_rfl) (by kernel_rfl) (fun _ _ _ h => h) (Or.inl ⟨by kernel_rfl, fun w hSw => by (try dsimp only at hSw); go_split_ands; go_simp⟩) (by assumption) ?_; simp only [Act.put, List.setIfInBounds_toArray, List.set_cons_zero, List.set_cons_succ])
          (refine wpAnyH_take (i := 4) (v := .slice (some ⟨bt, ot, none⟩) T.length uc) rfl (by kernel_rfl) (by kernel_rfl) (by kernel_rfl) (fun _ _ _ h => h) (Or.inl ⟨by kernel_rfl, fun w hSw => by (try dsimp only at hSw); go_split_ands; go_simp⟩) (by assumption) ?_; simp only [Act.put, List.setIfInBounds_toArray, List.set_cons_zero, List.set_cons_succ])
          (refine wpAnyH_take (i := 5) (v := .int .i64 (i : Int)) rfl (by kernel_rfl) (by kernel_rfl) (by kernel_rfl) (fun _ _ _ h => h) (Or.inl ⟨by kernel_rfl, fun w hSw => by (try dsimp only at hSw); go_split_ands; go_simp⟩) (by assumption) ?_; simp only [Act.put, List.setIfInBounds_toArray, List.set_cons_zero, List.set_cons_succ])
          (refine wpAnyH_take (i := 6) (v := .pointer (some ⟨bt, ot + i, none⟩)) rfl (by kernel_rfl) (by kernel_rfl) (by kernel_rfl) (fun _ _ _ h => h) (Or.inl ⟨by kernel_rfl, fun w hSw => by (try dsimp only at hSw); go_split_ands; go_simp⟩) (by assumption) ?_; simp only [Act.put, List.setIfInBounds_toArray, List.set_cons_zero, List.set_cons_succ])
          (refine wpAnyH_take (i := 7) (v := .slice (some ⟨bx, ox, none⟩) R.length tc) rfl (by kernel_rfl) (by kernel_rfl) (by kernel_rfl) (fun _ _ _ h => h) (Or.inl ⟨by kernel_rfl, fun w hSw => by (try dsimp only at hSw); go_split_ands; go_simp⟩) (by assumption) ?_; simp only [Act.put, List.setIfInBounds_toArray, List.set_cons_zero, List.set_cons_succ])
          (refine wpAnyH_take (i := 8) (v := .int .i64 (k : Int)) rfl (by kernel_rfl) (by kernel_rfl) (by kernel_rfl) (fun _ _ _ h => h) (Or.inl ⟨by kernel_rfl, fun w hSw => by (try dsimp only at hSw); go_split_ands; go_simp⟩) (by assumption) ?_; simp only [Act.put, List.setIfInBounds_toArray, List.set_cons_zero, List.set_cons_succ])
          (refine wpAnyH_take (i := 9) (v := .pointer (some ⟨bx, ox + k, none⟩)) rfl (by kernel_rfl) (by kernel_rfl) (by kernel_rfl) (fun _ _ _ h => h) (Or.inl ⟨by kernel_rfl, fun w hSw => by (try dsimp only at hSw); go_split_ands; go_simp⟩) (by assumption) ?_; simp only [Act.put, List.setIfInBounds_toArray, List.set_cons_zero, List.set_cons_succ])
          (refine wpAnyH_take (i := 10) (v := .int .i64 x) rfl (by kernel_rfl) (by kernel_rfl) (by kernel_rfl) (fun _ _ _ h => h) (Or.inl ⟨by kernel_rfl, fun w hSw => by (try dsimp only at hSw); go_split_ands; go_simp⟩) (by assumption) ?_; simp only [Act.put, List.setIfInBounds_toArray, List.set_cons_zero, List.set_cons_succ])
          (refine wpAnyH_take (i := 11) (v := .bool q) rfl (by kernel_rfl) (by kernel_rfl) (by kernel_rfl) (fun _ _ _ h => h) (Or.inl ⟨by kernel_rfl, fun w hSw => by (try dsimp only at hSw); go_split_ands; go_simp⟩) (by assumption) ?_; simp only [Act.put, List.setIfInBounds_toArray, List.set_cons_zero, List.set_cons_succ])
          refine wpAnyH_ready (rs := [2]) (by kernel_rfl) (by simp) (AllReadyH.cons rfl (fun K hK => ?_) AllReadyH.nil)
          go_simp
          go_at_call 34
          refine (hasInt_b _ ds (k : Int) _ q Hq.out.1 (HDs.out.below ((Below.refl w4.heap.size w4).drew))).mono ?_
          rintro e' w' ⟨rfl, hw⟩
          subst hw
          dsimp only
          (refine hK.out _ _ hS3d (fun hHeld => ?_); clear hK K; (try simp only [Act.put, List.setIfInBounds_toArray, List.set_cons_zero, List.set_cons_succ]))
          (refine wpAnyH_ready (rs := [12]) (by kernel_rfl) (by simp) (AllReadyH.cons rfl (fun K hK => ?_) AllReadyH.nil); go_simp)
          (refine hK.out _ _ hS3d (fun hHeld => ?_); clear hK K; (try simp only [Act.put, List.setIfInBounds_toArray, List.set_cons_zero, List.set_cons_succ]))
          refine wpAnyH_done (by kernel_rfl) (NoPanic.normal ?_) _
          clear hHeld hS3 hS3d hct hcx
          have hb : Below w4.heap.size w4 w4.drew := (Below.refl _ _).drew
          have Hb5 := Lib.hid hb
          have hR12 := HlR.out.2.2
          go_wp2_with fail
          go_roundw
          case rel => exact ⟨k + 1, by rw [HlR.out.1]; omega, by go_num, Hbr3.out.trans (Hb5.out.mono (by omega))⟩
          case measure => rw [HlR.out.1]; simp [intOf]; omega
        · skip
          have hkd : decide (k < R.length) = false := decide_eq_false hkk
          have hkd2 : decide ((k : Int) < (R.length : Int)) = false := decide_eq_false (by omega)
          go_wp2_with fail
          go_roundw
          case rel => exact ⟨i + 1, by omega, by go_num, Hbr.out.trans ((Hb2.out.mono (by omega)).trans (Hbr3.out.mono (by omega)))⟩
          case measure => simp [intOf]; omega
    · skip
      have hid : decide (i < cuts.length) = false := decide_eq_false hii
      have hid2 : decide ((i : Int) < (cuts.length : Int)) = false := decide_eq_false (by omega)
      have hL2 := Hp.out.2.2.2.1
      have hB2 := Hp.out.2.2.2.2
      go_wp2_with fail
      refine (SystemGhosts_any m _ _ T cuts 300 _ HT.out HC.out).mono ?_
      rintro e' w9 ⟨r5, rfl, hR, hb⟩
      rw [EL.out] at hR ⊢
      obtain ⟨ra5, rc5, rfl, _⟩ := hR.v2.form
      have hxb_w9 : ∀ o, w9.cell? ⟨w2.heap.size, o, none⟩ = (#[.int .i64 m.c, .int .i64 m.d, .int .i64 m.s, .int .i64 m.e, .int .i64 m.l, .slice (some ⟨bt, ot, none⟩) T.length uc] : Array Value)[o]? := fun o => by rw [(bcell hb).1 _ _ (by omega), hxb_wA]
      have hz_w9 := hb.size
      have HVx := Lib.hid (HV.out.below hb); clear HV; have HV := HVx; clear HVx
      have HTx := Lib.hid (HT.out.below hb); clear HT; have HT := HTx; clear HTx
      have HCx := Lib.hid (HC.out.below hb); clear HC; have HC := HCx; clear HCx
      have HR1x := Lib.hid (HR1.out.below hb); clear HR1; have HR1 := HR1x; clear HR1x
      have HR2x := Lib.hid (HR2.out.below hb); clear HR2; have HR2 := HR2x; clear HR2x
      have HBx := Lib.hid (HB.out.trans (hb.mono (by omega))); clear HB; have HB := HBx; clear HBx
      clear hxb_wA
      clear hb
      have HR5 := Lib.hid (hR.v2.any); clear hR
      go_wp2_with fail
      refine (CountSystemGhosts_any m _ _ T cuts _ HT.out HC.out).mono ?_
      rintro e' w10 ⟨rfl, hb⟩
      rw [EB.out]
      have hxb_w10 : ∀ o, w10.cell? ⟨w2.heap.size, o, none⟩ = (#[.int .i64 m.c, .int .i64 m.d, .int .i64 m.s, .int .i64 m.e, .int .i64 m.l, .slice (some ⟨bt, ot, none⟩) T.length uc] : Array Value)[o]? := fun o => by rw [(bcell hb).1 _ _ (by omega), hxb_w9]
      have hz_w10 := hb.size
      have HVx := Lib.hid (HV.out.below hb); clear HV; have HV := HVx; clear HVx
      have HTx := Lib.hid (HT.out.below hb); clear HT; have HT := HTx; clear HTx
      have HCx := Lib.hid (HC.out.below hb); clear HC; have HC := HCx; clear HCx
      have HR1x := Lib.hid (HR1.out.below hb); clear HR1; have HR1 := HR1x; clear HR1x
      have HR2x := Lib.hid (HR2.out.below hb); clear HR2; have HR2 := HR2x; clear HR2x
      have HR5x := Lib.hid (HR5.out.below hb); clear HR5; have HR5 := HR5x; clear HR5x
      have HBx := Lib.hid (HB.out.trans (hb.mono (by omega))); clear HB; have HB := HBx; clear HBx
      clear hxb_w9
      clear hb
      go_wp2_with fail
      refine (CountSystemGhostsR_any m _ _ T cuts _ HT.out HC.out).mono ?_
      rintro e' w11 ⟨rfl, hb⟩
      rw [EB.out]
      have hxb_w11 : ∀ o, w11.cell? ⟨w2.heap.size, o, none⟩ = (#[.int .i64 m.c, .int .i64 m.d, .int .i64 m.s, .int .i64 m.e, .int .i64 m.l, .slice (some ⟨bt, ot, none⟩) T.length uc] : Array Value)[o]? := fun o => by rw [(bcell hb).1 _ _ (by omega), hxb_w10]
      have hz_w11 := hb.size
      have HVx := Lib.hid (HV.out.below hb); clear HV; have HV := HVx; clear HVx
      have HTx := Lib.hid (HT.out.below hb); clear HT; have HT := HTx; clear HTx
      have HCx := Lib.hid (HC.out.below hb); clear HC; have HC := HCx; clear HCx
      have HR1x := Lib.hid (HR1.out.below hb); clear HR1; have HR1 := HR1x; clear HR1x
      have HR2x := Lib.hid (HR2.out.below hb); clear HR2; have HR2 := HR2x; clear HR2x
      have HR5x := Lib.hid (HR5.out.below hb); clear HR5; have HR5 := HR5x; clear HR5x
      have HBx := Lib.hid (HB.out.trans (hb.mono (by omega))); clear HB; have HB := HBx; clear HBx
      clear hxb_w10
      clear hb
      go_wp2_with fail
      obtain ⟨k0, rest0, hK0⟩ : ∃ k0 rest0, keysOf m = k0 :: rest0 := by
        cases hK : keysOf m with
        | nil => exact absurd hK (keysOf_ne Hp.out.2.1.ok)
        | cons a b => exact ⟨a, b, rfl⟩
      refine (FirstKey_any m Hp.out.2.1.ok k0 rest0 hK0 _).mono ?_
      rintro e' w12 ⟨kv0, rfl, hV0, hb⟩
      obtain ⟨ka0, kc0, rfl, _⟩ := hV0.form
      have HK0 := Lib.hid (And.intro hV0.any hK0); clear hV0 hK0
      have hxb_w12 : ∀ o, w12.cell? ⟨w2.heap.size, o, none⟩ = (#[.int .i64 m.c, .int .i64 m.d, .int .i64 m.s, .int .i64 m.e, .int .i64 m.l, .slice (some ⟨bt, ot, none⟩) T.length uc] : Array Value)[o]? := fun o => by rw [(bcell hb).1 _ _ (by omega), hxb_w11]
      have hz_w12 := hb.size
      have HVx := Lib.hid (HV.out.below hb); clear HV; have HV := HVx; clear HVx
      have HTx := Lib.hid (HT.out.below hb); clear HT; have HT := HTx; clear HTx
      have HCx := Lib.hid (HC.out.below hb); clear HC; have HC := HCx; clear HCx
      have HR1x := Lib.hid (HR1.out.below hb); clear HR1; have HR1 := HR1x; clear HR1x
      have HR2x := Lib.hid (HR2.out.below hb); clear HR2; have HR2 := HR2x; clear HR2x
      have HR5x := Lib.hid (HR5.out.below hb); clear HR5; have HR5 := HR5x; clear HR5x
      have HBx := Lib.hid (HB.out.trans (hb.mono (by omega))); clear HB; have HB := HBx; clear HBx
      clear hxb_w11
      clear hb
      go_wp2_with fail
      go_loopw [21, 23, 24, 25, 26] (fun kv _ _ _ _ wr => ∃ (done rest : List (List Int)) (k : List Int), keysOf m = done ++ k :: rest ∧ V1 (fun _ => True) wr kv k ∧ Below w12.heap.size w12 wr) (fun kv _ _ _ _ wr => toCome m wr kv (.bool true))
      case atStart => exact ⟨[], rest0, k0, HK0.out.2, HK0.out.1, Below.refl _ _⟩
      case round =>
        obtain ⟨done, rest, k, hK, hkv, hbr⟩ := hrel
        obtain ⟨xa, xc, rfl, hkx⟩ := hkv.form
        have Hbr4 := Lib.hid hbr
        obtain ⟨w8, rfl⟩ : ∃ x, x = wr := ⟨_, rfl⟩
        have HKv := Lib.hid hkv; clear hkv
        have hxb_w8 : ∀ o, w8.cell? ⟨w2.heap.size, o, none⟩ = (#[.int .i64 m.c, .int .i64 m.d, .int .i64 m.s, .int .i64 m.e, .int .i64 m.l, .slice (some ⟨bt, ot, none⟩) T.length uc] : Array Value)[o]? := fun o => by rw [(bcell hbr).1 _ _ (by omega), hxb_w12]
        have hz_w8 := hbr.size
        have HVx := Lib.hid (HV.out.below hbr); clear HV; have HV := HVx; clear HVx
        have HTx := Lib.hid (HT.out.below hbr); clear HT; have HT := HTx; clear HTx
        have HCx := Lib.hid (HC.out.below hbr); clear HC; have HC := HCx; clear HCx
        have HR1x := Lib.hid (HR1.out.below hbr); clear HR1; have HR1 := HR1x; clear HR1x
        have HR2x := Lib.hid (HR2.out.below hbr); clear HR2; have HR2 := HR2x; clear HR2x
        have HR5x := Lib.hid (HR5.out.below hbr); clear HR5; have HR5 := HR5x; clear HR5x
        have HBx := Lib.hid (HB.out.trans (hbr.mono (by omega))); clear HB; have HB := HBx; clear HBx
        clear hxb_w12
        clear hbr
        by_cases hn3 : B.1 ≤ 300
        rotate_left
        · have hnd : decide (B.1 ≤ 300) = false := decide_eq_false hn3
          go_wp2_with fail
          go_ret
          exact ⟨rfl, HB.out⟩
        have hnd : decide (B.1 ≤ 300) = true := decide_eq_true hn3
        have hm0 := Mk.ok_iff.1 Hp.out.2.1.ok
        have hkey : isKeyB m k = true := (mem_keysOf (by omega)).1 (by rw [hK]; simp)
        have hgl := ghost_law (key := k) Hp.out.1 (by rw [EB.out]; exact hn3) hkey
        obtain ⟨ds, hds⟩ : ∃ ds, doorsAns m T cuts k = (ds, 0) := ⟨_, doorsAns_ok Hp.out.1 hkey⟩
        rw [EL.out, hds] at hgl
        have hbh := keys_behind (by omega) hK
        have hmeas := toCome_more (m := m) HKv.out
        rw [hbh] at hmeas
        have hkl6 : (k.length : Int) = m.c := (isKey_iff.1 hkey).1
        have HG := Lib.hid (And.intro hds (And.intro hgl (And.intro hK hmeas))); clear hds hgl hK hmeas hkey hbh hn3 hm0
        go_wp2_with fail
        refine (DoorsOpened_any m _ _ _ T cuts k _ HT.out HC.out HKv.out).mono ?_
        rintro e' w13 ⟨dv, rfl, hR, hb⟩
        rw [HG.out.1] at hR ⊢
        obtain ⟨da, dc, rfl, _⟩ := hR.v1.form
        have Hb9 := Lib.hid hb; clear hR
        have hxb_w13 : ∀ o, w13.cell? ⟨w2.heap.size, o, none⟩ = (#[.int .i64 m.c, .int .i64 m.d, .int .i64 m.s, .int .i64 m.e, .int .i64 m.l, .slice (some ⟨bt, ot, none⟩) T.length uc] : Array Value)[o]? := fun o => by rw [(bcell hb).1 _ _ (by omega), hxb_w8]
        have hz_w13 := hb.size
        have HVx := Lib.hid (HV.out.below hb); clear HV; have HV := HVx; clear HVx
        have HTx := Lib.hid (HT.out.below hb); clear HT; have HT := HTx; clear HTx
        have HCx := Lib.hid (HC.out.below hb); clear HC; have HC := HCx; clear HCx
        have HR1x := Lib.hid (HR1.out.below hb); clear HR1; have HR1 := HR1x; clear HR1x
        have HR2x := Lib.hid (HR2.out.below hb); clear HR2; have HR2 := HR2x; clear HR2x
        have HR5x := Lib.hid (HR5.out.below hb); clear HR5; have HR5 := HR5x; clear HR5x
        have HKvx := Lib.hid (HKv.out.below hb); clear HKv; have HKv := HKvx; clear HKvx
        have HBx := Lib.hid (HB.out.trans (hb.mono (by omega))); clear HB; have HB := HBx; clear HBx
        clear hxb_w8
        clear hb
        by_cases hd0 : ds.length = 0
        · skip
          have hdn : ds = [] := List.eq_nil_of_length_eq_zero hd0
          subst hdn
          have hno := HG.out.2.1.2.2 rfl
          have Hno := Lib.hid hno; clear hno hd0
          go_wp2_with fail
          refine (hasList_w _ _ L.1 k _ false (Hno.out) HR5.out HKv.out).mono ?_
          rintro e' w14 ⟨rfl, hb⟩
          have Hc1 := Lib.hid hb
          have hxb_w14 : ∀ o, w14.cell? ⟨w2.heap.size, o, none⟩ = (#[.int .i64 m.c, .int .i64 m.d, .int .i64 m.s, .int .i64 m.e, .int .i64 m.l, .slice (some ⟨bt, ot, none⟩) T.length uc] : Array Value)[o]? := fun o => by rw [(bcell hb).1 _ _ (by omega), hxb_w13]
          have hz_w14 := hb.size
          have HVx := Lib.hid (HV.out.below hb); clear HV; have HV := HVx; clear HVx
          have HTx := Lib.hid (HT.out.below hb); clear HT; have HT := HTx; clear HTx
          have HCx := Lib.hid (HC.out.below hb); clear HC; have HC := HCx; clear HCx
          have HR1x := Lib.hid (HR1.out.below hb); clear HR1; have HR1 := HR1x; clear HR1x
          have HR2x := Lib.hid (HR2.out.below hb); clear HR2; have HR2 := HR2x; clear HR2x
          have HR5x := Lib.hid (HR5.out.below hb); clear HR5; have HR5 := HR5x; clear HR5x
          have HKvx := Lib.hid (HKv.out.below hb); clear HKv; have HKv := HKvx; clear HKvx
          have HBx := Lib.hid (HB.out.trans (hb.mono (by omega))); clear HB; have HB := HBx; clear HBx
          clear hxb_w13
          clear hb
          cases rest with
          | nil =>
            go_wp2_with fail
            refine (NextKey_any m Hp.out.2.1.ok _ k done [] HG.out.2.2.1 _ HKv.out).mono ?_
            rintro e' wz ⟨nv, rfl, _, hb⟩
            have hc4 : nextCode [] = 4 := rfl
            rw [hc4]
            clear hc4
            have hxb_wz : ∀ o, wz.cell? ⟨w2.heap.size, o, none⟩ = (#[.int .i64 m.c, .int .i64 m.d, .int .i64 m.s, .int .i64 m.e, .int .i64 m.l, .slice (some ⟨bt, ot, none⟩) T.length uc] : Array Value)[o]? := fun o => by rw [(bcell hb).1 _ _ (by omega), hxb_w14]
            have hz_wz := hb.size
            have HVx := Lib.hid (HV.out.below hb); clear HV; have HV := HVx; clear HVx
            have HTx := Lib.hid (HT.out.below hb); clear HT; have HT := HTx; clear HTx
            have HCx := Lib.hid (HC.out.below hb); clear HC; have HC := HCx; clear HCx
            have HR1x := Lib.hid (HR1.out.below hb); clear HR1; have HR1 := HR1x; clear HR1x
            have HR2x := Lib.hid (HR2.out.below hb); clear HR2; have HR2 := HR2x; clear HR2x
            have HR5x := Lib.hid (HR5.out.below hb); clear HR5; have HR5 := HR5x; clear HR5x
            have HKvx := Lib.hid (HKv.out.below hb); clear HKv; have HKv := HKvx; clear HKvx
            have HBx := Lib.hid (HB.out.trans (hb.mono (by omega))); clear HB; have HB := HBx; clear HBx
            clear hxb_w14
            clear hb
            go_wp2_with fail
            go_ret
            exact ⟨rfl, HB.out⟩
          | cons k2 rest2 =>
            go_wp2_with fail
            refine (NextKey_any m Hp.out.2.1.ok _ k done (k2 :: rest2) HG.out.2.2.1 _ HKv.out).mono ?_
            rintro e' wz ⟨nv, rfl, hnv, hb⟩
            have hc4 : nextCode (k2 :: rest2) = 0 := rfl
            rw [hc4]
            clear hc4
            have hn2 := hnv k2 rest2 rfl
            obtain ⟨na, nc, rfl, _⟩ := hn2.form
            have hK2 : keysOf m = (done ++ [k]) ++ k2 :: rest2 := by rw [HG.out.2.2.1]; simp
            have hbh2 := keys_behind (by have := Mk.ok_iff.1 Hp.out.2.1.ok; omega) hK2
            have hm2 := toCome_more (m := m) hn2
            rw [hbh2] at hm2
            have HN := Lib.hid (And.intro hn2.any (And.intro hK2 (And.intro hm2 (Hbr4.out.trans ((Hb9.out.trans (((Hc1.out.mono (by omega)).trans (hb.mono (by omega))))).mono (by omega)))))); clear hn2 hK2 hbh2 hm2 hnv
            have hxb_wz : ∀ o, wz.cell? ⟨w2.heap.size, o, none⟩ = (#[.int .i64 m.c, .int .i64 m.d, .int .i64 m.s, .int .i64 m.e, .int .i64 m.l, .slice (some ⟨bt, ot, none⟩) T.length uc] : Array Value)[o]? := fun o => by rw [(bcell hb).1 _ _ (by omega), hxb_w14]
            have hz_wz := hb.size
            have HVx := Lib.hid (HV.out.below hb); clear HV; have HV := HVx; clear HVx
            have HTx := Lib.hid (HT.out.below hb); clear HT; have HT := HTx; clear HTx
            have HCx := Lib.hid (HC.out.below hb); clear HC; have HC := HCx; clear HCx
            have HR1x := Lib.hid (HR1.out.below hb); clear HR1; have HR1 := HR1x; clear HR1x
            have HR2x := Lib.hid (HR2.out.below hb); clear HR2; have HR2 := HR2x; clear HR2x
            have HR5x := Lib.hid (HR5.out.below hb); clear HR5; have HR5 := HR5x; clear HR5x
            have HKvx := Lib.hid (HKv.out.below hb); clear HKv; have HKv := HKvx; clear HKvx
            have HBx := Lib.hid (HB.out.trans (hb.mono (by omega))); clear HB; have HB := HBx; clear HBx
            clear hxb_w14
            clear hb
            go_wp2_with fail
            go_roundw
            case rel => exact ⟨done ++ [k], rest2, k2, HN.out.2.1, HN.out.1, HN.out.2.2.2⟩
            case measure => rw [HN.out.2.2.1, HG.out.2.2.2]; simp
        · skip
          have hdp : 0 < ds.length := by omega
          have hyes := HG.out.2.1.2.1 hdp
          have hdd1 : decide ((0 : Int) < (ds.length : Int)) = true := decide_eq_true (by omega)
          have hdd2 : decide (0 < ds.length) = true := decide_eq_true hdp
          have hdd3 : ((ds.length : Int) == 0) = false := beq_eq_false_iff_ne.2 (by omega)
          have hdd4 : ¬ ds = [] := fun e => hd0 (by rw [e]; rfl)
          have Hyes := Lib.hid hyes; clear hyes hd0
          obtain ⟨qa, hqa⟩ : ∃ q, hasL L.1 k = q := ⟨_, rfl⟩
          have Hqa := Lib.hid hqa; clear hqa
          go_wp2_with fail
          cases qa
          · skip
            refine (hasList_w _ _ L.1 k _ false (Hqa.out) HR5.out HKv.out).mono ?_
            rintro e' w14 ⟨rfl, hb⟩
            have Hc1 := Lib.hid hb
            have hxb_w14 : ∀ o, w14.cell? ⟨w2.heap.size, o, none⟩ = (#[.int .i64 m.c, .int .i64 m.d, .int .i64 m.s, .int .i64 m.e, .int .i64 m.l, .slice (some ⟨bt, ot, none⟩) T.length uc] : Array Value)[o]? := fun o => by rw [(bcell hb).1 _ _ (by omega), hxb_w13]
            have hz_w14 := hb.size
            have HVx := Lib.hid (HV.out.below hb); clear HV; have HV := HVx; clear HVx
            have HTx := Lib.hid (HT.out.below hb); clear HT; have HT := HTx; clear HTx
            have HCx := Lib.hid (HC.out.below hb); clear HC; have HC := HCx; clear HCx
            have HR1x := Lib.hid (HR1.out.below hb); clear HR1; have HR1 := HR1x; clear HR1x
            have HR2x := Lib.hid (HR2.out.below hb); clear HR2; have HR2 := HR2x; clear HR2x
            have HR5x := Lib.hid (HR5.out.below hb); clear HR5; have HR5 := HR5x; clear HR5x
            have HKvx := Lib.hid (HKv.out.below hb); clear HKv; have HKv := HKvx; clear HKvx
            have HBx := Lib.hid (HB.out.trans (hb.mono (by omega))); clear HB; have HB := HBx; clear HBx
            clear hxb_w13
            clear hb
            have hck := (Hyes.out).resolve_left (by rw [Hqa.out]; decide)
            have Hck := Lib.hid hck; clear hck
            go_wp2_with fail
            refine (hasList_w _ _ cuts k _ true (Hck.out) HC.out HKv.out).mono ?_
            rintro e' w15 ⟨rfl, hb⟩
            have Hc2 := Lib.hid hb
            have hxb_w15 : ∀ o, w15.cell? ⟨w2.heap.size, o, none⟩ = (#[.int .i64 m.c, .int .i64 m.d, .int .i64 m.s, .int .i64 m.e, .int .i64 m.l, .slice (some ⟨bt, ot, none⟩) T.length uc] : Array Value)[o]? := fun o => by rw [(bcell hb).1 _ _ (by omega), hxb_w14]
            have hz_w15 := hb.size
            have HVx := Lib.hid (HV.out.below hb); clear HV; have HV := HVx; clear HVx
            have HTx := Lib.hid (HT.out.below hb); clear HT; have HT := HTx; clear HTx
            have HCx := Lib.hid (HC.out.below hb); clear HC; have HC := HCx; clear HCx
            have HR1x := Lib.hid (HR1.out.below hb); clear HR1; have HR1 := HR1x; clear HR1x
            have HR2x := Lib.hid (HR2.out.below hb); clear HR2; have HR2 := HR2x; clear HR2x
            have HR5x := Lib.hid (HR5.out.below hb); clear HR5; have HR5 := HR5x; clear HR5x
            have HKvx := Lib.hid (HKv.out.below hb); clear HKv; have HKv := HKvx; clear HKvx
            have HBx := Lib.hid (HB.out.trans (hb.mono (by omega))); clear HB; have HB := HBx; clear HBx
            clear hxb_w14
            clear hb
            cases rest with
            | nil =>
              go_wp2_with fail
              refine (NextKey_any m Hp.out.2.1.ok _ k done [] HG.out.2.2.1 _ HKv.out).mono ?_
              rintro e' wz ⟨nv, rfl, _, hb⟩
              have hc4 : nextCode [] = 4 := rfl
              rw [hc4]
              clear hc4
              have hxb_wz : ∀ o, wz.cell? ⟨w2.heap.size, o, none⟩ = (#[.int .i64 m.c, .int .i64 m.d, .int .i64 m.s, .int .i64 m.e, .int .i64 m.l, .slice (some ⟨bt, ot, none⟩) T.length uc] : Array Value)[o]? := fun o => by rw [(bcell hb).1 _ _ (by omega), hxb_w15]
              have hz_wz := hb.size
              have HVx := Lib.hid (HV.out.below hb); clear HV; have HV := HVx; clear HVx
              have HTx := Lib.hid (HT.out.below hb); clear HT; have HT := HTx; clear HTx
              have HCx := Lib.hid (HC.out.below hb); clear HC; have HC := HCx; clear HCx
              have HR1x := Lib.hid (HR1.out.below hb); clear HR1; have HR1 := HR1x; clear HR1x
              have HR2x := Lib.hid (HR2.out.below hb); clear HR2; have HR2 := HR2x; clear HR2x
              have HR5x := Lib.hid (HR5.out.below hb); clear HR5; have HR5 := HR5x; clear HR5x
              have HKvx := Lib.hid (HKv.out.below hb); clear HKv; have HKv := HKvx; clear HKvx
              have HBx := Lib.hid (HB.out.trans (hb.mono (by omega))); clear HB; have HB := HBx; clear HBx
              clear hxb_w15
              clear hb
              go_wp2_with fail
              go_ret
              exact ⟨rfl, HB.out⟩
            | cons k2 rest2 =>
              go_wp2_with fail
              refine (NextKey_any m Hp.out.2.1.ok _ k done (k2 :: rest2) HG.out.2.2.1 _ HKv.out).mono ?_
              rintro e' wz ⟨nv, rfl, hnv, hb⟩
              have hc4 : nextCode (k2 :: rest2) = 0 := rfl
              rw [hc4]
              clear hc4
              have hn2 := hnv k2 rest2 rfl
              obtain ⟨na, nc, rfl, _⟩ := hn2.form
              have hK2 : keysOf m = (done ++ [k]) ++ k2 :: rest2 := by rw [HG.out.2.2.1]; simp
              have hbh2 := keys_behind (by have := Mk.ok_iff.1 Hp.out.2.1.ok; omega) hK2
              have hm2 := toCome_more (m := m) hn2
              rw [hbh2] at hm2
              have HN := Lib.hid (And.intro hn2.any (And.intro hK2 (And.intro hm2 (Hbr4.out.trans ((Hb9.out.trans (((Hc1.out.mono (by omega)).trans (((Hc2.out.mono (by omega)).trans (hb.mono (by omega))))))).mono (by omega)))))); clear hn2 hK2 hbh2 hm2 hnv
              have hxb_wz : ∀ o, wz.cell? ⟨w2.heap.size, o, none⟩ = (#[.int .i64 m.c, .int .i64 m.d, .int .i64 m.s, .int .i64 m.e, .int .i64 m.l, .slice (some ⟨bt, ot, none⟩) T.length uc] : Array Value)[o]? := fun o => by rw [(bcell hb).1 _ _ (by omega), hxb_w15]
              have hz_wz := hb.size
              have HVx := Lib.hid (HV.out.below hb); clear HV; have HV := HVx; clear HVx
              have HTx := Lib.hid (HT.out.below hb); clear HT; have HT := HTx; clear HTx
              have HCx := Lib.hid (HC.out.below hb); clear HC; have HC := HCx; clear HCx
              have HR1x := Lib.hid (HR1.out.below hb); clear HR1; have HR1 := HR1x; clear HR1x
              have HR2x := Lib.hid (HR2.out.below hb); clear HR2; have HR2 := HR2x; clear HR2x
              have HR5x := Lib.hid (HR5.out.below hb); clear HR5; have HR5 := HR5x; clear HR5x
              have HKvx := Lib.hid (HKv.out.below hb); clear HKv; have HKv := HKvx; clear HKvx
              have HBx := Lib.hid (HB.out.trans (hb.mono (by omega))); clear HB; have HB := HBx; clear HBx
              clear hxb_w15
              clear hb
              go_wp2_with fail
              go_roundw
              case rel => exact ⟨done ++ [k], rest2, k2, HN.out.2.1, HN.out.1, HN.out.2.2.2⟩
              case measure => rw [HN.out.2.2.1, HG.out.2.2.2]; simp
          · skip
            refine (hasList_w _ _ L.1 k _ true (Hqa.out) HR5.out HKv.out).mono ?_
            rintro e' w14 ⟨rfl, hb⟩
            have Hc1 := Lib.hid hb
            have hxb_w14 : ∀ o, w14.cell? ⟨w2.heap.size, o, none⟩ = (#[.int .i64 m.c, .int .i64 m.d, .int .i64 m.s, .int .i64 m.e, .int .i64 m.l, .slice (some ⟨bt, ot, none⟩) T.length uc] : Array Value)[o]? := fun o => by rw [(bcell hb).1 _ _ (by omega), hxb_w13]
            have hz_w14 := hb.size
            have HVx := Lib.hid (HV.out.below hb); clear HV; have HV := HVx; clear HVx
            have HTx := Lib.hid (HT.out.below hb); clear HT; have HT := HTx; clear HTx
            have HCx := Lib.hid (HC.out.below hb); clear HC; have HC := HCx; clear HCx
            have HR1x := Lib.hid (HR1.out.below hb); clear HR1; have HR1 := HR1x; clear HR1x
            have HR2x := Lib.hid (HR2.out.below hb); clear HR2; have HR2 := HR2x; clear HR2x
            have HR5x := Lib.hid (HR5.out.below hb); clear HR5; have HR5 := HR5x; clear HR5x
            have HKvx := Lib.hid (HKv.out.below hb); clear HKv; have HKv := HKvx; clear HKvx
            have HBx := Lib.hid (HB.out.trans (hb.mono (by omega))); clear HB; have HB := HBx; clear HBx
            clear hxb_w13
            clear hb
            cases rest with
            | nil =>
              go_wp2_with fail
              refine (NextKey_any m Hp.out.2.1.ok _ k done [] HG.out.2.2.1 _ HKv.out).mono ?_
              rintro e' wz ⟨nv, rfl, _, hb⟩
              have hc4 : nextCode [] = 4 := rfl
              rw [hc4]
              clear hc4
              have hxb_wz : ∀ o, wz.cell? ⟨w2.heap.size, o, none⟩ = (#[.int .i64 m.c, .int .i64 m.d, .int .i64 m.s, .int .i64 m.e, .int .i64 m.l, .slice (some ⟨bt, ot, none⟩) T.length uc] : Array Value)[o]? := fun o => by rw [(bcell hb).1 _ _ (by omega), hxb_w14]
              have hz_wz := hb.size
              have HVx := Lib.hid (HV.out.below hb); clear HV; have HV := HVx; clear HVx
              have HTx := Lib.hid (HT.out.below hb); clear HT; have HT := HTx; clear HTx
              have HCx := Lib.hid (HC.out.below hb); clear HC; have HC := HCx; clear HCx
              have HR1x := Lib.hid (HR1.out.below hb); clear HR1; have HR1 := HR1x; clear HR1x
              have HR2x := Lib.hid (HR2.out.below hb); clear HR2; have HR2 := HR2x; clear HR2x
              have HR5x := Lib.hid (HR5.out.below hb); clear HR5; have HR5 := HR5x; clear HR5x
              have HKvx := Lib.hid (HKv.out.below hb); clear HKv; have HKv := HKvx; clear HKvx
              have HBx := Lib.hid (HB.out.trans (hb.mono (by omega))); clear HB; have HB := HBx; clear HBx
              clear hxb_w14
              clear hb
              go_wp2_with fail
              go_ret
              exact ⟨rfl, HB.out⟩
            | cons k2 rest2 =>
              go_wp2_with fail
              refine (NextKey_any m Hp.out.2.1.ok _ k done (k2 :: rest2) HG.out.2.2.1 _ HKv.out).mono ?_
              rintro e' wz ⟨nv, rfl, hnv, hb⟩
              have hc4 : nextCode (k2 :: rest2) = 0 := rfl
              rw [hc4]
              clear hc4
              have hn2 := hnv k2 rest2 rfl
              obtain ⟨na, nc, rfl, _⟩ := hn2.form
              have hK2 : keysOf m = (done ++ [k]) ++ k2 :: rest2 := by rw [HG.out.2.2.1]; simp
              have hbh2 := keys_behind (by have := Mk.ok_iff.1 Hp.out.2.1.ok; omega) hK2
              have hm2 := toCome_more (m := m) hn2
              rw [hbh2] at hm2
              have HN := Lib.hid (And.intro hn2.any (And.intro hK2 (And.intro hm2 (Hbr4.out.trans ((Hb9.out.trans (((Hc1.out.mono (by omega)).trans (hb.mono (by omega))))).mono (by omega)))))); clear hn2 hK2 hbh2 hm2 hnv
              have hxb_wz : ∀ o, wz.cell? ⟨w2.heap.size, o, none⟩ = (#[.int .i64 m.c, .int .i64 m.d, .int .i64 m.s, .int .i64 m.e, .int .i64 m.l, .slice (some ⟨bt, ot, none⟩) T.length uc] : Array Value)[o]? := fun o => by rw [(bcell hb).1 _ _ (by omega), hxb_w14]
              have hz_wz := hb.size
              have HVx := Lib.hid (HV.out.below hb); clear HV; have HV := HVx; clear HVx
              have HTx := Lib.hid (HT.out.below hb); clear HT; have HT := HTx; clear HTx
              have HCx := Lib.hid (HC.out.below hb); clear HC; have HC := HCx; clear HCx
              have HR1x := Lib.hid (HR1.out.below hb); clear HR1; have HR1 := HR1x; clear HR1x
              have HR2x := Lib.hid (HR2.out.below hb); clear HR2; have HR2 := HR2x; clear HR2x
              have HR5x := Lib.hid (HR5.out.below hb); clear HR5; have HR5 := HR5x; clear HR5x
              have HKvx := Lib.hid (HKv.out.below hb); clear HKv; have HKv := HKvx; clear HKvx
              have HBx := Lib.hid (HB.out.trans (hb.mono (by omega))); clear HB; have HB := HBx; clear HBx
              clear hxb_w14
              clear hb
              go_wp2_with fail
              go_roundw
              case rel => exact ⟨done ++ [k], rest2, k2, HN.out.2.1, HN.out.1, HN.out.2.2.2⟩
              case measure => rw [HN.out.2.2.1, HG.out.2.2.2]; simp
end Go.Proofs.YtmfgdoflddhngaaGreat
