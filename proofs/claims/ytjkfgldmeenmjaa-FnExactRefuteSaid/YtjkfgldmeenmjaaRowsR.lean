/- The different rows of a reason, as the reference finds them. No conditions. -/
import Derived.Test.YtjkfgldmeenmjaaRowsOf
namespace Go.Proofs.Ytjkfgldmeenmjaa
open Go.RowKit
set_option linter.unusedVariables false
set_option linter.unusedSimpArgs false

def lenOf : Value → Nat
  | .slice _ n _ => n
  | _ => 0

theorem diffI_len (l : List Int) (h : l.length ≤ 100) : (diffI l).length ≤ 100 := by
  unfold diffI Go.Lib.compact Go.Lib.compactUpTo
  rw [List.length_map]
  refine Nat.le_trans (List.length_filter_le _ _) ?_
  simpa using h

set_option maxHeartbeats 600000 in
theorem l18Different_any {S : Nat → Prop} (v : Value) (l : List Int) (W : World) (h : V1 S W v l) (hn : numB l = true) :
    Calls Try.prog 44 #[v] W fun e' w' => ∃ v', e' = .returned v' ∧ F1 W.heap.size w' v' (diffI l) ∧ Below W.heap.size W w' := by
  have hV := h
  obtain ⟨a, c, rfl, hm⟩ := h.form
  obtain ⟨hl, hr⟩ := numB_iff.1 hn
  obtain ⟨hs, hmem⟩ := diffI_sort l
  have hDl : ∀ k, k ≤ (diffI l).length → minAbove l (lowOf (diffI l) k) l.length = if k < (diffI l).length then geti (diffI l) k else -1 := fun k hk => minAbove_next hs hmem (fun x hx => (hr x hx).1) hk
  have hD0 : ∀ k, k < (diffI l).length → 0 ≤ geti (diffI l) k ∧ geti (diffI l) k ≤ 1000000000000 := fun k hk => hr _ ((hmem _).1 (geti_mem hk))
  have hDlen : (diffI l).length ≤ 100 := by
    exact diffI_len l hl
  generalize diffI l = D at *
  obtain ⟨B, hBs⟩ : ∃ B, B = W.heap.size := ⟨_, rfl⟩
  rw [← hBs]
  have hown0 := own_lit0 W B 2 1 (by omega)
  have hBle : W.heap.size ≤ B := by omega
  have hBge : B ≤ W.heap.size := by omega
  have Hnext := Lib.hid hDl
  have HD0 := Lib.hid hD0
  have Hr := Lib.hid hr
  clear hBs hs hmem hDl hD0 hr hn
  go_enter Try.func44, Try.ntmps44
  go_wp2_with fail
  go_loopw [3, 4, 5] (fun ro _ _ wr => ∃ k : Nat, k ≤ D.length ∧ wr.ownsRow B 2 1 ro k ((D.take k).map (Value.int .i64)) ∧ Below B W wr) (fun ro _ _ _ => D.length - lenOf ro)
  case atStart => exact ⟨0, Nat.zero_le _, hown0, (Below.refl _ _).alloc (by omega) _⟩
  case round =>
    obtain ⟨k, hk, hown, hB⟩ := hrel
    obtain ⟨wo, rfl⟩ : ∃ wo, wo = wr := ⟨_, rfl⟩
    have hzr := hB.size
    obtain ⟨lo, hlo⟩ : ∃ lo, lo = lowOf D k := ⟨_, rfl⟩
    have hVo := hV.below (hB.mono hBle)
    obtain ⟨ao, co, rfl, hco1, hco2⟩ := own_form hown
    unfold maxLen at hco2
    by_cases hk0 : k = 0
    · have Hlo1 : Hid (lo = -1) := Lib.hid (by rw [hlo]; unfold lowOf; rw [if_pos hk0])
      have Hlo := Lib.hid hlo; clear hlo
      have hkz : ((k : Int) == 0) = true := by simp [hk0]
      have Hk0 := Lib.hid hk0; clear hk0
      go_wp2_with fail
      go_loopw [4, 5] (fun lv iv wn => ∃ (i nq : Nat), i ≤ l.length ∧ iv = .int .i64 (i : Int) ∧ lv = .int .i64 (minAbove l lo i) ∧ wn = wo.drewN nq) (fun _ iv _ => l.length - (intOf iv).toNat)
      case atStart => exact ⟨0, 0, Nat.zero_le _, rfl, rfl, rfl⟩
      case round =>
        obtain ⟨i, nq, hi, rfl, rfl, rfl⟩ := hrel
        obtain ⟨q, hqe⟩ : ∃ q, q = minAbove l lo i := ⟨_, rfl⟩
        rw [← hqe]
        by_cases hii : i < l.length
        · obtain ⟨b1, off1, rfl, _, hc1⟩ := hVo.cell hii
          have hx := Hr.out _ (geti_mem hii)
          have Hq := Lib.hid hqe; clear hqe
          have hgt : lo < geti l i := by rw [Hlo1.out]; omega
          by_cases hq : q < 0
          · have hqd : decide (q < 0) = true := decide_eq_true hq
            go_wp2_with fail
            go_quiet (fail)
            go_wp2_with fail
            go_roundw
            case rel => exact ⟨i + 1, _, by omega, by go_num, by unfold minAbove; rw [if_pos ⟨hgt, .inl (by rw [← Hq.out]; exact hq)⟩]; try rw [← Hq.out], by first | rfl | simp only [World.drewN_drewN]⟩
            case measure => simp [intOf]; omega
          · have hqd : decide (q < 0) = false := decide_eq_false hq
            by_cases hlt : geti l i < q
            · have hld : decide (geti l i < q) = true := decide_eq_true hlt
              go_wp2_with fail
              go_quiet (fail)
              go_wp2_with fail
              go_roundw
              case rel => exact ⟨i + 1, _, by omega, by go_num, by unfold minAbove; rw [if_pos ⟨hgt, .inr (by rw [← Hq.out]; exact hlt)⟩]; try rw [← Hq.out], by first | rfl | simp only [World.drewN_drewN]⟩
              case measure => simp [intOf]; omega
            · have hld : decide (geti l i < q) = false := decide_eq_false hlt
              go_wp2_with fail
              go_quiet (fail)
              go_wp2_with fail
              go_roundw
              case rel => exact ⟨i + 1, _, by omega, by go_num, by unfold minAbove; rw [if_neg (fun hx => by rw [← Hq.out] at hx; rcases hx.2 with h | h <;> omega)]; try rw [← Hq.out], by first | rfl | simp only [World.drewN_drewN]⟩
              case measure => simp [intOf]; omega
        · have hlo := Hlo.out
          obtain rfl : i = l.length := by omega
          have hown2 := own_chg hown (Chg.of_below (F := fun _ => False) (below_drewN (Below.refl _ _) nq)) (fun _ _ h => h)
          have hB2 := below_drewN hB nq
          generalize wo.drewN nq = wz at *
          have hzz := hB2.size
          have hnx := Hnext.out k hk
          rw [← hlo] at hnx
          rw [hnx] at hqe
          by_cases hkD : k < D.length
          · rw [if_pos hkD] at hqe
            have hD0 := HD0.out k hkD
            have hst : D.take (k + 1) = D.take k ++ [geti D k] := by rw [List.take_add_one, List.getElem?_eq_getElem hkD, geti_eq hkD]; rfl
            have Hst := Lib.hid hst; clear hst
            subst hqe
            have hq0 : ¬ geti D k < 0 := by omega
            clear hnx hlo
            go_wp2_with (at_builtin; refine wp_app1 _ rfl _ _ 29 rfl B 2 (.int .i64 0) 8 Try.underlying29 inf_int rfl _ _ _ rfl hown2 (.int .i64 (geti D k)) _ rfl rfl (by omega) (by omega) (by omega) ?_; intro v1 w1 hown1 hgrow1 hblk1 hB1)
            go_roundw
            case rel => exact ⟨k + 1, by omega, by rw [Hst.out, List.map_append]; exact hown1, hB2.trans hB1⟩
            case measure =>
              obtain ⟨a1, c1, e1, _⟩ := own_form hown1
              rw [e1]; simp [lenOf]; omega
          · obtain rfl : k = D.length := by omega
            rw [if_neg hkD] at hqe
            subst hqe
            rw [List.take_length] at hown2
            clear hnx hlo
            go_wp2_with fail
            go_ret
            exact ⟨_, rfl, own_F1 hown2, hB2⟩
    · have hlo1 : lo = geti D (k - 1) := by rw [hlo]; unfold lowOf; rw [if_neg hk0]
      have hk1 : 0 < k := by omega
      have hkz : ((k : Int) == 0) = false := by simp [hk0]
      have hlk : (D.take k).length = k := by rw [List.length_take]; omega
      obtain ⟨b2, off2, rfl, _, hc2⟩ := (own_V1 hown).cell (k := k - 1) (by rw [hlk]; omega)
      rw [geti_take (by omega), ← hlo1] at hc2
      have Hlo := Lib.hid hlo; clear hlo hlo1 hlk hk0
      have Hown := Lib.hid hown; clear hown
      go_wp2_with fail
      go_loopw [4, 5] (fun lv iv wn => ∃ (i nq : Nat), i ≤ l.length ∧ iv = .int .i64 (i : Int) ∧ lv = .int .i64 (minAbove l lo i) ∧ wn = wo.drewN nq) (fun _ iv _ => l.length - (intOf iv).toNat)
      case atStart => exact ⟨0, 0, Nat.zero_le _, rfl, rfl, rfl⟩
      case round =>
        obtain ⟨i, nq, hi, rfl, rfl, rfl⟩ := hrel
        obtain ⟨q, hqe⟩ : ∃ q, q = minAbove l lo i := ⟨_, rfl⟩
        rw [← hqe]
        by_cases hii : i < l.length
        · obtain ⟨b1, off1, rfl, _, hc1⟩ := hVo.cell hii
          have hx := Hr.out _ (geti_mem hii)
          have Hq := Lib.hid hqe; clear hqe
          by_cases hgt : lo < geti l i
          · have hgd : decide (lo < geti l i) = true := decide_eq_true hgt
            have Hgt := Lib.hid hgt; clear hgt
            by_cases hq : q < 0
            · have hqd : decide (q < 0) = true := decide_eq_true hq
              go_wp2_with fail
              go_quiet (fail)
              go_wp2_with fail
              go_roundw
              case rel => exact ⟨i + 1, _, by omega, by go_num, by unfold minAbove; rw [if_pos ⟨Hgt.out, .inl (by rw [← Hq.out]; exact hq)⟩]; try rw [← Hq.out], by first | rfl | simp only [World.drewN_drewN]⟩
              case measure => simp [intOf]; omega
            · have hqd : decide (q < 0) = false := decide_eq_false hq
              by_cases hlt : geti l i < q
              · have hld : decide (geti l i < q) = true := decide_eq_true hlt
                go_wp2_with fail
                go_quiet (fail)
                go_wp2_with fail
                go_roundw
                case rel => exact ⟨i + 1, _, by omega, by go_num, by unfold minAbove; rw [if_pos ⟨Hgt.out, .inr (by rw [← Hq.out]; exact hlt)⟩]; try rw [← Hq.out], by first | rfl | simp only [World.drewN_drewN]⟩
                case measure => simp [intOf]; omega
              · have hld : decide (geti l i < q) = false := decide_eq_false hlt
                go_wp2_with fail
                go_quiet (fail)
                go_wp2_with fail
                go_roundw
                case rel => exact ⟨i + 1, _, by omega, by go_num, by unfold minAbove; rw [if_neg (fun hx => by rw [← Hq.out] at hx; rcases hx.2 with h | h <;> omega)]; try rw [← Hq.out], by first | rfl | simp only [World.drewN_drewN]⟩
                case measure => simp [intOf]; omega
          · have hgd : decide (lo < geti l i) = false := decide_eq_false hgt
            have Hgt := Lib.hid hgt; clear hgt
            go_wp2_with fail
            go_quiet (fail)
            go_wp2_with fail
            go_roundw
            case rel => exact ⟨i + 1, _, by omega, by go_num, by unfold minAbove; rw [if_neg (fun hx => by have h1 := hx.1; have h2 := Hgt.out; omega)]; try rw [← Hq.out], by first | rfl | simp only [World.drewN_drewN]⟩
            case measure => simp [intOf]; omega
        · have hlo := Hlo.out
          have hown := Hown.out
          clear hc2
          obtain rfl : i = l.length := by omega
          have hown2 := own_chg hown (Chg.of_below (F := fun _ => False) (below_drewN (Below.refl _ _) nq)) (fun _ _ h => h)
          have hB2 := below_drewN hB nq
          generalize wo.drewN nq = wz at *
          have hzz := hB2.size
          have hnx := Hnext.out k hk
          rw [← hlo] at hnx
          rw [hnx] at hqe
          by_cases hkD : k < D.length
          · rw [if_pos hkD] at hqe
            have hD0 := HD0.out k hkD
            have hst : D.take (k + 1) = D.take k ++ [geti D k] := by rw [List.take_add_one, List.getElem?_eq_getElem hkD, geti_eq hkD]; rfl
            have Hst := Lib.hid hst; clear hst
            subst hqe
            have hq0 : ¬ geti D k < 0 := by omega
            clear hnx hlo
            go_wp2_with (at_builtin; refine wp_app1 _ rfl _ _ 29 rfl B 2 (.int .i64 0) 8 Try.underlying29 inf_int rfl _ _ _ rfl hown2 (.int .i64 (geti D k)) _ rfl rfl (by omega) (by omega) (by omega) ?_; intro v1 w1 hown1 hgrow1 hblk1 hB1)
            go_roundw
            case rel => exact ⟨k + 1, by omega, by rw [Hst.out, List.map_append]; exact hown1, hB2.trans hB1⟩
            case measure =>
              obtain ⟨a1, c1, e1, _⟩ := own_form hown1
              rw [e1]; simp [lenOf]; omega
          · obtain rfl : k = D.length := by omega
            rw [if_neg hkD] at hqe
            subst hqe
            rw [List.take_length] at hown2
            clear hnx hlo
            go_wp2_with fail
            go_ret
            exact ⟨_, rfl, own_F1 hown2, hB2⟩

theorem rowsAns_len (l : List Int) : (rowsAns l).1.length ≤ 1048576 := by
  unfold rowsAns
  split
  · rename_i h
    have := diffI_len l (numB_iff.1 h).1
    simp; omega
  · simp
end Go.Proofs.Ytjkfgldmeenmjaa
