/- Designs compared. No conditions. -/
import Derived.Test.YtbckginfipeibaaGreatWorst
import Derived.Test.YtbckginfipeibaaGreatCmp
namespace Go.Proofs.YtbckginfipeibaaGreat
open Go.RowKit
set_option linter.unusedVariables false
set_option linter.unusedSimpArgs false

theorem prof_code (m : Mk) (t cuts : List (List Int)) : (profAns m t cuts).2 = designC m t cuts := by
  unfold profAns
  by_cases h : designC m t cuts = 0
  · rw [if_neg (by rw [h]; decide), h]
  · rw [if_pos h]
theorem prof_len {m : Mk} {t cuts : List (List Int)} (h : designC m t cuts = 0) : (profAns m t cuts).1.length = (getl t 0).length := by
  unfold profAns
  rw [if_neg (by rw [h]; decide)]
  exact cntL_len _ _ _ _
def cmpAns (m : Mk) (t a b : List (List Int)) : Int × Int :=
  if designC m t a ≠ 0 then (0, designC m t a) else if designC m t b ≠ 0 then (0, designC m t b) else (cmpTop (profAns m t a).1 (profAns m t b).1 (getl t 0).length, 0)
set_option maxRecDepth 100000 in
set_option maxHeartbeats 1000000 in
theorem CompareDesigns_any {S S' S2 : Nat → Prop} (m : Mk) (u va vb : Value) (t la lb : List (List Int)) (W : World) (h : V2 S W u t) (ha : V2 S' W va la) (hb : V2 S2 W vb lb) :
    Calls Tryz.prog 17 #[.agg #[.int .i64 m.c, .int .i64 m.d, .int .i64 m.s, .int .i64 m.e, .int .i64 m.l, u], va, vb] W fun e' w' => e' = .returned (.tuple #[.int .i64 (cmpAns m t la lb).1, .int .i64 (cmpAns m t la lb).2]) ∧ Below W.heap.size W w' := by
  obtain ⟨a, c, rfl, hmx⟩ := h.form
  obtain ⟨aa, ca, rfl, hmxa⟩ := ha.form
  obtain ⟨ab, cb, rfl, hmxb⟩ := hb.form
  obtain ⟨W1, hW1, hB01, hz01, HZ01, hc01, hh01⟩ := box_facts W #[.int .i64 m.c, .int .i64 m.d, .int .i64 m.s, .int .i64 m.e, .int .i64 m.l, .slice a t.length c] 33
  have hV1 := (h.below hB01).any
  have hA1 := (ha.below hB01).any
  have hB1 := (hb.below hB01).any
  have hp1 := ProfileOf_any m _ _ t la W1 hV1 hA1
  rw [prof_code] at hp1
  by_cases hpa : designC m t la = 0
  · have hp2 := fun w (hbw : Below W1.heap.size W1 w) => ProfileOf_any m _ _ t lb w (hV1.below hbw) (hB1.below hbw)
    have hd := (design_fits hpa).1.doors
    have hXl := prof_len hpa
    simp only [prof_code] at hp2
    obtain ⟨X, hX⟩ : ∃ X, (profAns m t la).1 = X := ⟨_, rfl⟩
    obtain ⟨Y, hY⟩ : ∃ Y, (profAns m t lb).1 = Y := ⟨_, rfl⟩
    rw [hX] at hp1 hXl
    simp only [hY] at hp2
    rw [hpa] at hp1
    by_cases hpb : designC m t lb = 0
    · have hYl := prof_len hpb
      rw [hY] at hYl
      simp only [hpb] at hp2
      have hlex := lex_rev (x := X) (y := Y) (by omega)
      have hfin : cmpAns m t la lb = (lexC X.reverse Y.reverse, 0) := by
        unfold cmpAns; rw [if_neg (by rw [hpa]; decide), if_neg (by rw [hpb]; decide), hX, hY, hlex, hXl]
      rw [hfin]
      have H := Lib.hid (And.intro hp1 (And.intro hp2 (And.intro hlex (And.intro hX (And.intro hY (And.intro hpa (And.intro hpb hfin))))))); clear hp1 hp2 hlex hX hY hpa hpb hfin
      have hX1 : 1 ≤ X.length ∧ X.length ≤ 1000 := by omega
      have hY1 : 1 ≤ Y.length ∧ Y.length ≤ 1000 := by omega
      have hXY : X.length = Y.length := by omega
      have Hl := Lib.hid (And.intro hXl (And.intro hYl hXY)); clear hXl hYl hXY hd
      go_enter Tryz.func17, Tryz.ntmps17
      go_wp2_with fail
      rw [← hW1]
      refine H.out.1.mono ?_
      rintro e' w2 ⟨vx, rfl, ⟨bx, hx1, hbx⟩, hb2⟩
      obtain ⟨ax, cx, rfl, hcx, hcxm, _⟩ := id hx1
      have hz2 := hb2.size
      have hx2 : ∀ o, w2.cell? ⟨W.heap.size, o, none⟩ = (#[.int .i64 m.c, .int .i64 m.d, .int .i64 m.s, .int .i64 m.e, .int .i64 m.l, .slice a t.length c] : Array Value)[o]? := fun o => by rw [(bcell hb2).1 _ _ hz01, hc01]
      have Hc01 := Lib.hid hc01; clear hc01 hh01
      have hXne : X ≠ [] := by intro e; rw [e] at hX1; simp at hX1
      have hYne : Y ≠ [] := by intro e; rw [e] at hY1; simp at hY1
      go_wp2_with fail
      refine (H.out.2.1 _ hb2).mono ?_
      rintro e' w3 ⟨vy, rfl, ⟨by', hy1, hby⟩, hb3⟩
      obtain ⟨ay, cy, rfl, hcy, hcym, _⟩ := id hy1
      clear hx2
      have hxlt := hx1.lt hXne
      have hbxW := hbx hXne
      have hbyW := hby hYne
      have hylt := hy1.lt hYne
      have hx3 := hx1.keep (fun _ => hb3.block _ hxlt)
      have hb13 := hb2.trans (hb3.mono hz2)
      have Hx := Lib.hid (And.intro hx3 hy1); clear hx3 hy1 hx1
      go_wp2_with fail
      refine (slReverse_any _ X bx w3 Hx.out.1 hX1.1 hX1.2).mono ?_
      rintro e' w4 ⟨rfl, hx4, hc4⟩
      have hy4 := Hx.out.2.keep (fun _ => hc4.block _ hylt (by omega))
      have hzc4 := hc4.size
      have Hx4 := Lib.hid (And.intro hx4 hy4); clear hx4 hy4
      go_wp2_with fail
      refine (slReverse_any _ Y by' w4 Hx4.out.2 hY1.1 hY1.2).mono ?_
      rintro e' w5 ⟨rfl, hy5, hc5⟩
      have hx5 := Hx4.out.1.keep (fun _ => hc5.block _ (by omega) (by omega))
      have Hx5 := Lib.hid (And.intro hx5 hy5); clear hx5 hy5
      go_wp2_with fail
      refine (slCompare_any (S := fun _ => True) (S' := fun _ => True) _ _ X.reverse Y.reverse w5 (Hx5.out.1.v1 (fun _ => trivial)) (Hx5.out.2.v1 (fun _ => trivial)) (by rw [List.length_reverse, List.length_reverse]; exact Hl.out.2.2)).mono ?_
      rintro e' w6 ⟨rfl, rfl⟩
      go_wp2_with fail
      go_ret2
      exact ⟨rfl, hB01.trans ((hb13.trans (((hc4.then_below (Below.refl _ _)).to_below (fun i hi => by omega) hb13.size).trans (hc5.to_below (B := W1.heap.size) (fun i hi => by omega) (by omega)))).mono (by omega))⟩
    · have hfin : cmpAns m t la lb = (0, designC m t lb) := by
        unfold cmpAns; rw [if_neg (by rw [hpa]; decide), if_pos hpb]
      have e1 : (designC m t lb != 0) = true := by simp [hpb]
      rw [hfin]
      have H := Lib.hid (And.intro hpa (And.intro hpb (And.intro hfin (And.intro hX (And.intro hY hXl))))); clear hpa hpb hfin hX hY hXl hd
      generalize designC m t lb = pc at *
      have H2 := Lib.hid (And.intro hp1 hp2); clear hp1 hp2
      go_enter Tryz.func17, Tryz.ntmps17
      go_wp2_with fail
      rw [← hW1]
      refine H2.out.1.mono ?_
      rintro e' w2 ⟨vx, rfl, hF, hb2⟩
      obtain ⟨ax, cx, rfl, _⟩ := hF.v1.form
      have hx2 : ∀ o, w2.cell? ⟨W.heap.size, o, none⟩ = (#[.int .i64 m.c, .int .i64 m.d, .int .i64 m.s, .int .i64 m.e, .int .i64 m.l, .slice a t.length c] : Array Value)[o]? := fun o => by rw [(bcell hb2).1 _ _ hz01, hc01]
      have Hc01 := Lib.hid hc01; clear hc01 hh01 hF
      go_wp2_with fail
      refine (H2.out.2 _ hb2).mono ?_
      rintro e' w3 ⟨vy, rfl, hF3, hb3⟩
      obtain ⟨ay, cy, rfl, _⟩ := hF3.v1.form
      clear hx2 hF3
      go_wp2_with fail
      go_ret2
      exact ⟨rfl, hB01.trans ((hb2.trans (hb3.mono hb2.size)).mono (by omega))⟩
  · have hfin : cmpAns m t la lb = (0, designC m t la) := by
      unfold cmpAns; rw [if_pos hpa]
    have e1 : (designC m t la != 0) = true := by simp [hpa]
    rw [hfin]
    have H := Lib.hid (And.intro hpa hfin); clear hpa hfin
    generalize designC m t la = pc at *
    have H2 := Lib.hid hp1; clear hp1
    go_enter Tryz.func17, Tryz.ntmps17
    go_wp2_with fail
    rw [← hW1]
    refine H2.out.mono ?_
    rintro e' w2 ⟨vx, rfl, hF, hb2⟩
    obtain ⟨ax, cx, rfl, _⟩ := hF.v1.form
    clear hc01 hh01 hF
    go_wp2_with fail
    go_ret2
    exact ⟨rfl, hB01.trans (hb2.mono (by omega))⟩
set_option maxRecDepth 100000 in
set_option maxHeartbeats 2000000 in
theorem CompareDesignsR_any {S S' S2 : Nat → Prop} (m : Mk) (u va vb : Value) (t la lb : List (List Int)) (W : World) (h : V2 S W u t) (ha : V2 S' W va la) (hb : V2 S2 W vb lb) :
    Calls Tryz.prog 16 #[.agg #[.int .i64 m.c, .int .i64 m.d, .int .i64 m.s, .int .i64 m.e, .int .i64 m.l, u], va, vb] W fun e' w' => e' = .returned (.tuple #[.int .i64 (cmpAns m t la lb).1, .int .i64 (cmpAns m t la lb).2]) ∧ Below W.heap.size W w' := by
  obtain ⟨a, c, rfl, hmx⟩ := h.form
  obtain ⟨aa, ca, rfl, hmxa⟩ := ha.form
  obtain ⟨ab, cb, rfl, hmxb⟩ := hb.form
  obtain ⟨W1, hW1, hB01, hz01, HZ01, hc01, hh01⟩ := box_facts W #[.int .i64 m.c, .int .i64 m.d, .int .i64 m.s, .int .i64 m.e, .int .i64 m.l, .slice a t.length c] 33
  have hV1 := (h.below hB01).any
  have hA1 := (ha.below hB01).any
  have hBB1 := (hb.below hB01).any
  have hp1 := l21Code_any m _ _ t la W1 hV1 hA1
  have hp2 := fun w (hbw : Below W1.heap.size W1 w) => l21Code_any m _ _ t lb w (hV1.below hbw) (hBB1.below hbw)
  by_cases hpa : designC m t la = 0
  · rw [hpa] at hp1
    by_cases hpb : designC m t lb = 0
    · simp only [hpb] at hp2
      have hfa := (design_fits hpa).1
      have hfb := (design_fits hpb).1
      have hmc := mc_nat hfa.ok
      have hXl := prof_len hpa
      have hYl := prof_len hpb
      have hpX := fun w (hbw : Below W1.heap.size W1 w) => l22Profile_any m _ _ t la m.c.toNat w hfa hmc (hV1.below hbw) (hA1.below hbw)
      have hpY := fun w (hbw : Below W1.heap.size W1 w) => l22Profile_any m _ _ t lb m.c.toNat w hfb hmc (hV1.below hbw) (hBB1.below hbw)
      have hXe : cntL (locksTo m.c.toNat t la (getl t 0).length) (outsOf la (keysOf m)) 1 (getl t 0).length = (profAns m t la).1 := by unfold profAns; rw [if_neg (by rw [hpa]; decide)]
      have hYe : cntL (locksTo m.c.toNat t lb (getl t 0).length) (outsOf lb (keysOf m)) 1 (getl t 0).length = (profAns m t lb).1 := by unfold profAns; rw [if_neg (by rw [hpb]; decide)]
      simp only [hXe] at hpX
      simp only [hYe] at hpY
      have hfin : cmpAns m t la lb = (cmpTop (profAns m t la).1 (profAns m t lb).1 (getl t 0).length, 0) := by
        unfold cmpAns; rw [if_neg (by rw [hpa]; decide), if_neg (by rw [hpb]; decide)]
      rw [hfin]
      obtain ⟨X, hX⟩ : ∃ X, (profAns m t la).1 = X := ⟨_, rfl⟩
      obtain ⟨Y, hY⟩ : ∃ Y, (profAns m t lb).1 = Y := ⟨_, rfl⟩
      have hdoors := hfa.doors
      obtain ⟨D, hD⟩ : ∃ D, (getl t 0).length = D := ⟨_, rfl⟩
      simp only [hX, hD] at hpX hXl
      simp only [hY, hD] at hpY hYl
      rw [hX, hY, hD]
      rw [hD] at hdoors
      obtain ⟨r, hr⟩ : ∃ r, cmpTop X Y D = r := ⟨_, rfl⟩
      rw [hr]
      have Hr := Lib.hid hr
      have HL := Lib.hid (And.intro hXl hYl)
      have H := Lib.hid (And.intro hp1 (And.intro hp2 (And.intro hpX hpY))); clear hp1 hp2 hpX hpY hX hY hD hpa hpb hfin hr hXl hYl hXe hYe hfa hfb
      go_enter Tryz.func16, Tryz.ntmps16
      go_wp2_with fail
      rw [← hW1]
      refine H.out.1.mono ?_
      rintro e' w2 ⟨rfl, hb2⟩
      have hz2 := hb2.size
      have hx2 : ∀ o, w2.cell? ⟨W.heap.size, o, none⟩ = (#[.int .i64 m.c, .int .i64 m.d, .int .i64 m.s, .int .i64 m.e, .int .i64 m.l, .slice a t.length c] : Array Value)[o]? := fun o => by rw [(bcell hb2).1 _ _ hz01, hc01]
      have Hc01 := Lib.hid hc01; clear hc01 hh01
      go_wp2_with fail
      refine (H.out.2.1 _ hb2).mono ?_
      rintro e' w3 ⟨rfl, hb3⟩
      have hb23 := hb2.trans (hb3.mono hz2)
      have hzw : W.heap.size < w3.heap.size := by have := hb23.size; omega
      have hx3 : ∀ o, w3.cell? ⟨W.heap.size, o, none⟩ = (#[.int .i64 m.c, .int .i64 m.d, .int .i64 m.s, .int .i64 m.e, .int .i64 m.l, .slice a t.length c] : Array Value)[o]? := fun o => by rw [(bcell hb23).1 _ _ hz01, Hc01.out]
      clear hx2
      go_wp2_with fail
      go_region_held3 (fun w' => (∀ o, w'.cell? ⟨W.heap.size, o, none⟩ = (#[.int .i64 m.c, .int .i64 m.d, .int .i64 m.s, .int .i64 m.e, .int .i64 m.l, .slice a t.length c] : Array Value)[o]?) ∧ Below w3.heap.size w3 w') (first | exact one_keep hzw (by assumption) (by assumption) | exact ⟨hx3, (Below.refl _ _).drew⟩) (first | (go_at_call 35; with_reducible refine (H.out.2.2.1 _ (hb23.trans ((one_below (by assumption)).mono hb23.size))).mono ?_; rintro e' wA ⟨GA, rfl, hblkA, hbA⟩) | (go_at_call 35; with_reducible refine (H.out.2.2.2 _ (hb23.trans ((one_below (by assumption)).mono hb23.size))).mono ?_; rintro e' wB ⟨GB, rfl, hblkB, hbB⟩))
      all_goals have hbE := one_below (w0 := w3) (by assumption)
      · have hA2 := hblkA.keep (hbB.block _ hblkA.lt)
        have hB2 := hblkB
        have hcA := fun k (hk : k < X.length) => hA2.cell (k := k) hk
        have hcB := fun k (hk : k < Y.length) => hB2.cell (k := k) hk
        have hzz := hbE.size
        have HA := Lib.hid (And.intro hA2 hB2); clear hA2 hB2
        go_wp2_with fail
        go_loopw [11] (fun i wr => ∃ k : Nat, k ≤ D ∧ i = .int .i64 ((k : Int) - 1) ∧ cmpTop X Y k = r ∧ Below wB.heap.size wB wr) (fun i _ => (intOf i + 1).toNat)
        case atStart => exact ⟨D, Nat.le_refl _, rfl, Hr.out, Below.refl _ _⟩
        case round =>
          obtain ⟨k, hk, rfl, hrem, hB⟩ := hrel
          have Hrem := Lib.hid hrem; clear hrem
          have hzr := hB.size
          cases k with
          | zero =>
            have hr0 : (0 : Int) = r := Hrem.out
            subst hr0
            go_wp2_with fail
            go_ret2
            exact ⟨rfl, hB01.trans ((hb23.trans ((hbE.trans (hB.mono hzz)).mono hb23.size)).mono (by omega))⟩
          | succ k =>
            have hkD : k < D := by omega
            have hst : cmpTop X Y (k + 1) = if cmpI (geti X k) (geti Y k) = 0 then cmpTop X Y k else cmpI (geti X k) (geti Y k) := rfl
            rw [Hrem.out] at hst
            have hcx := cell_keep (hcA k (by rw [HL.out.1]; exact hkD)) (hB.block _ (by have := HA.out.1.lt; exact this))
            have hcy := cell_keep (hcB k (by rw [HL.out.2]; exact hkD)) (hB.block _ (by have := HA.out.2.lt; exact this))
            obtain ⟨x, hx⟩ : ∃ x, geti X k = x := ⟨_, rfl⟩
            obtain ⟨y, hy⟩ : ∃ y, geti Y k = y := ⟨_, rfl⟩
            rw [hx] at hcx hst
            rw [hy] at hcy hst
            rw [show (((k + 1 : Nat) : Int) - 1) = (k : Int) from by omega]
            have hk0 : (0 : Int) ≤ (k : Int) := by omega
            have hkl : (k : Int) < (D : Int) := by omega
            unfold cmpI at hst
            by_cases h1 : x < y
            · rw [if_pos h1] at hst
              rw [if_neg (by decide)] at hst
              subst hst
              clear hx hy
              go_wp2_with fail
              go_region
              all_goals
                go_wp2_with fail
                go_ret2
                exact ⟨rfl, hB01.trans ((hb23.trans ((hbE.trans ((hB.trans ((Below.refl _ _).drew.mono hzr)).mono hzz)).mono hb23.size)).mono (by omega))⟩
            · by_cases h2 : y < x
              · rw [if_neg h1, if_pos h2] at hst
                rw [if_neg (by decide)] at hst
                subst hst
                clear hx hy
                go_wp2_with fail
                go_region
                all_goals
                  go_wp2_with fail
                  go_region
                all_goals
                  go_wp2_with fail
                  go_ret2
                  exact ⟨rfl, hB01.trans ((hb23.trans ((hbE.trans ((hB.trans (((Below.refl _ _).drew.drew).mono hzr)).mono hzz)).mono hb23.size)).mono (by omega))⟩
              · rw [if_neg h1, if_neg h2, if_pos rfl] at hst
                have Hst := Lib.hid hst; clear hst hx hy
                go_wp2_with fail
                go_region
                all_goals
                  go_wp2_with fail
                  go_region
                all_goals
                  go_wp2_with fail
                  go_roundw
                  case rel => exact ⟨k, by omega, by go_num, Hst.out.symm, hB.trans (((Below.refl _ _).drew.drew).mono hzr)⟩
                  case measure => simp [intOf]
    · have hfin : cmpAns m t la lb = (0, designC m t lb) := by
        unfold cmpAns; rw [if_neg (by rw [hpa]; decide), if_pos hpb]
      have e1 : (designC m t lb != 0) = true := by simp [hpb]
      rw [hfin]
      have H := Lib.hid (And.intro hpa (And.intro hpb hfin)); clear hpa hpb hfin
      generalize designC m t lb = pc at *
      have H2 := Lib.hid (And.intro hp1 hp2); clear hp1 hp2
      go_enter Tryz.func16, Tryz.ntmps16
      go_wp2_with fail
      rw [← hW1]
      refine H2.out.1.mono ?_
      rintro e' w2 ⟨rfl, hb2⟩
      have hx2 : ∀ o, w2.cell? ⟨W.heap.size, o, none⟩ = (#[.int .i64 m.c, .int .i64 m.d, .int .i64 m.s, .int .i64 m.e, .int .i64 m.l, .slice a t.length c] : Array Value)[o]? := fun o => by rw [(bcell hb2).1 _ _ hz01, hc01]
      have Hc01 := Lib.hid hc01; clear hc01 hh01
      go_wp2_with fail
      refine (H2.out.2 _ hb2).mono ?_
      rintro e' w3 ⟨rfl, hb3⟩
      clear hx2
      go_wp2_with fail
      go_ret2
      exact ⟨rfl, hB01.trans ((hb2.trans (hb3.mono hb2.size)).mono (by omega))⟩
  · have hfin : cmpAns m t la lb = (0, designC m t la) := by
      unfold cmpAns; rw [if_pos hpa]
    have e1 : (designC m t la != 0) = true := by simp [hpa]
    have e0 : (designC m t la == 0) = false := by simp [hpa]
    rw [hfin]
    have H := Lib.hid (And.intro hpa hfin); clear hpa hfin
    generalize designC m t la = pc at *
    have H2 := Lib.hid hp1; clear hp1
    go_enter Tryz.func16, Tryz.ntmps16
    go_wp2_with fail
    rw [← hW1]
    refine H2.out.mono ?_
    rintro e' w2 ⟨rfl, hb2⟩
    clear hc01 hh01
    go_wp2_with fail
    go_ret2
    exact ⟨rfl, hB01.trans (hb2.mono (by omega))⟩
end Go.Proofs.YtbckginfipeibaaGreat
