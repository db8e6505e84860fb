/- What the program and the reference answer when asked whether a list of rows is a reason. No conditions. -/
import Derived.Test.YtcdgechaehljgaaReasD
namespace Go.Proofs.Ytcdgechaehljgaa
open Go.RowKit
set_option linter.unusedVariables false
set_option linter.unusedSimpArgs false

def allHas (ls : List (List Int)) (rs : List Int) : Nat → Bool
  | 0 => true
  | k + 1 => allHas ls rs k && hasI (getl ls k) (geti rs k)
theorem allHas_false {ls : List (List Int)} {rs : List Int} {k : Nat} (h : hasI (getl ls k) (geti rs k) = false) : ∀ {n}, k < n → allHas ls rs n = false
  | 0, hk => by omega
  | n + 1, hk => by
    unfold allHas
    by_cases hkn : k = n
    · subst hkn; rw [h, Bool.and_false]
    · rw [allHas_false h (by omega), Bool.false_and]
def isReasAns (m : Mk) (t cuts : List (List Int)) (key door : Int) (rs : List Int) : Bool × Int :=
  if reasC m t cuts key door ≠ 0 then (false, reasC m t cuts key door)
  else (decide (rs.length = m.c.toNat) && allHas (reasRows t cuts key.toNat door.toNat m.c.toNat) rs rs.length, 0)

set_option maxRecDepth 100000 in
theorem IsReason_any {S S' S'' : Nat → Prop} (m : Mk) (u v x : Value) (t cuts : List (List Int)) (rs : List Int) (key door : Int) (W : World) (h : V2 S W u t) (hc : V2 S' W v cuts) (hr : V1 S'' W x rs) :
    Calls Try.prog 31 #[.agg #[.int .i64 m.c, .int .i64 m.d, .int .i64 m.s, .int .i64 m.e, .int .i64 m.l, u], v, .int .i64 key, .int .i64 door, x] W fun e' w' => e' = .returned (.tuple #[.bool (isReasAns m t cuts key door rs).1, .int .i64 (isReasAns m t cuts key door rs).2]) ∧ Below W.heap.size W w' := by
  obtain ⟨a, c, rfl, hmx⟩ := h.form
  obtain ⟨a', c', rfl, hmx'⟩ := hc.form
  obtain ⟨a'', c'', rfl, hmx''⟩ := hr.form
  obtain ⟨W1, hW1, hB01, hz01, HZ01, hc01, hh01⟩ := box_facts W #[.int .i64 m.c, .int .i64 m.d, .int .i64 m.s, .int .i64 m.e, .int .i64 m.l, .slice a t.length c] 32
  have hV1 : V2 (fun _ => True) W1 (.slice a t.length c) t := (h.below hB01).mono (fun _ _ _ => trivial) (fun _ _ _ => rfl)
  have hC1 : V2 (fun _ => True) W1 (.slice a' cuts.length c') cuts := (hc.below hB01).mono (fun _ _ _ => trivial) (fun _ _ _ => rfl)
  have hR1 : V1 (fun _ => True) W1 (.slice a'' rs.length c'') rs := (hr.below hB01).mono (fun _ _ _ => trivial) (fun _ _ _ => rfl)
  have hpart := reasonCode_any m _ _ t cuts key door W1 hV1 hC1
  by_cases hp : reasC m t cuts key door = 0
  · rw [hp] at hpart
    have hfin : isReasAns m t cuts key door rs = (decide (rs.length = m.c.toNat) && allHas (reasRows t cuts key.toNat door.toNat m.c.toNat) rs rs.length, 0) := by unfold isReasAns; rw [if_neg (by rw [hp]; decide)]
    rw [hfin]
    obtain ⟨hpc, k, d, rfl, rfl, hk, hd, _⟩ := reasC_ok hp
    have hf := fits_of hpc
    have hmk := Mk.ok_iff.1 hf.ok
    simp only [Int.toNat_natCast]
    obtain ⟨n, hn, hn6, hn0⟩ : ∃ n : Nat, m.c.toNat = n ∧ n ≤ 6 ∧ (n : Int) = m.c := ⟨_, rfl, by omega, by omega⟩
    rw [hn]
    have hlen := reasRows_len t cuts k d n
    have Hn := Lib.hid (And.intro hn hn0); clear hn hn0 hfin hp hpc hmk
    have Hf := Lib.hid hf; clear hf
    generalize hR : reasRows t cuts k d n = R at *
    have HR := Lib.hid hR; clear hR
    obtain ⟨res, hres⟩ : ∃ r, (decide (rs.length = n) && allHas R rs rs.length) = r := ⟨_, rfl⟩
    rw [hres]
    have Hres := Lib.hid hres; clear hres
    go_enter Try.func31, Try.ntmps31
    go_wp2_with fail
    rw [← hW1]
    refine hpart.mono ?_
    rintro e' w2 ⟨rfl, hb2⟩
    have hx2 : ∀ o, w2.cell? ⟨W.heap.size, o, none⟩ = (#[.int .i64 m.c, .int .i64 m.d, .int .i64 m.s, .int .i64 m.e, .int .i64 m.l, .slice a t.length c] : Array Value)[o]? := fun o => by rw [(bcell hb2).1 _ _ hz01, hc01]
    clear hc01 hh01
    have HW1 := Lib.hid hW1; clear hW1
    go_wp2_with fail
    refine (reasonRows_any m _ _ t cuts k d n _ Hf.out hk hd Hn.out.2 (hV1.below hb2) (hC1.below hb2)).mono ?_
    rintro e' w3 ⟨v3, rfl, hF, hb3⟩
    rw [HR.out] at hF
    have hV3 := hF.v2
    obtain ⟨a3, c3, rfl, hl3⟩ := hV3.form
    have hR3 := hR1.below (hb2.trans (hb3.mono hb2.size))
    have hBf := hB01.trans ((hb2.trans (hb3.mono hb2.size)).mono (by omega))
    clear hx2
    by_cases hrl : rs.length = R.length
    · go_wp2_with fail
      go_loop [14, 15, 36] (fun _ _ i => ∃ j : Nat, j ≤ rs.length ∧ i = .int .i64 (j : Int) ∧ allHas R rs j = true) (fun _ _ i => rs.length - (intOf i).toNat)
      case atStart => exact ⟨0, Nat.zero_le _, rfl, rfl⟩
      case round =>
        obtain ⟨j, hj, rfl, hal⟩ := hrel
        have Hal := Lib.hid hal; clear hal
        by_cases hjj : j < rs.length
        · obtain ⟨b1, off1, a1, c1, rfl, _, hc1, hr1⟩ := hV3.cell (show j < R.length by omega)
          obtain ⟨b2, off2, hbx2, _, hc2⟩ := hR3.cell hjj
          subst hbx2
          cases hcn : hasI (getl R j) (geti rs j)
          · have hdf : res = false := by rw [← Hres.out, allHas_false hcn hjj, Bool.and_false]
            subst hdf
            go_wp2_with fail
            refine (slContains_b _ _ _ _ false hcn hr1).mono ?_
            rintro e' w4 ⟨rfl, rfl⟩
            go_wp2_with fail
            go_ret2
            exact ⟨rfl, hBf⟩
          · go_wp2_with fail
            refine (slContains_b _ _ _ _ true hcn hr1).mono ?_
            rintro e' w4 ⟨rfl, rfl⟩
            go_wp2_with fail
            go_round
            case rel => exact ⟨j + 1, by omega, by go_num, by rw [allHas, Hal.out, hcn]; rfl⟩
            case measure => simp [intOf]; omega
        · obtain rfl : j = rs.length := by omega
          have hdf : res = true := by rw [← Hres.out, decide_eq_true (by omega), Hal.out]; rfl
          subst hdf
          go_wp2_with fail
          go_ret2
          exact ⟨rfl, hBf⟩
    · have hdf : res = false := by rw [← Hres.out, decide_eq_false (by omega), Bool.false_and]
      subst hdf
      go_wp2_with fail
      go_ret2
      exact ⟨rfl, hBf⟩
  · have hfin : isReasAns m t cuts key door rs = (false, reasC m t cuts key door) := by unfold isReasAns; rw [if_pos hp]
    have e1 : (reasC m t cuts key door != 0) = true := by simp [hp]
    rw [hfin]
    have Hp := Lib.hid hp; clear hp hfin
    generalize reasC m t cuts key door = pc at *
    go_enter Try.func31, Try.ntmps31
    go_wp2_with fail
    rw [← hW1]
    refine hpart.mono ?_
    rintro e' w2 ⟨rfl, hb2⟩
    clear hc01 hh01
    go_wp2_with fail
    go_ret2
    exact ⟨rfl, hB01.trans (hb2.mono (by omega))⟩
set_option maxRecDepth 100000 in
theorem IsReasonR_any {S S' S'' : Nat → Prop} (m : Mk) (u v x : Value) (t cuts : List (List Int)) (rs : List Int) (key door : Int) (W : World) (h : V2 S W u t) (hc : V2 S' W v cuts) (hr : V1 S'' W x rs) :
    Calls Try.prog 29 #[.agg #[.int .i64 m.c, .int .i64 m.d, .int .i64 m.s, .int .i64 m.e, .int .i64 m.l, u], v, .int .i64 key, .int .i64 door, x] W fun e' w' => e' = .returned (.tuple #[.bool (isReasAns m t cuts key door rs).1, .int .i64 (isReasAns m t cuts key door rs).2]) ∧ Below W.heap.size W w' := by
  obtain ⟨a, c, rfl, hmx⟩ := h.form
  obtain ⟨a', c', rfl, hmx'⟩ := hc.form
  obtain ⟨a'', c'', rfl, hmx''⟩ := hr.form
  obtain ⟨W1, hW1, hB01, hz01, HZ01, hc01, hh01⟩ := box_facts W #[.int .i64 m.c, .int .i64 m.d, .int .i64 m.s, .int .i64 m.e, .int .i64 m.l, .slice a t.length c] 32
  have hV1 : V2 (fun _ => True) W1 (.slice a t.length c) t := (h.below hB01).mono (fun _ _ _ => trivial) (fun _ _ _ => rfl)
  have hC1 : V2 (fun _ => True) W1 (.slice a' cuts.length c') cuts := (hc.below hB01).mono (fun _ _ _ => trivial) (fun _ _ _ => rfl)
  have hR1 : V1 (fun _ => True) W1 (.slice a'' rs.length c'') rs := (hr.below hB01).mono (fun _ _ _ => trivial) (fun _ _ _ => rfl)
  have hpart := l18Code_any m _ _ t cuts key door W1 hV1 hC1
  by_cases hp : reasC m t cuts key door = 0
  · rw [hp] at hpart
    have hfin : isReasAns m t cuts key door rs = (decide (rs.length = m.c.toNat) && allHas (reasRows t cuts key.toNat door.toNat m.c.toNat) rs rs.length, 0) := by unfold isReasAns; rw [if_neg (by rw [hp]; decide)]
    rw [hfin]
    obtain ⟨hpc, k, d, rfl, rfl, hk, hd, _⟩ := reasC_ok hp
    have hf := fits_of hpc
    have hmk := Mk.ok_iff.1 hf.ok
    simp only [Int.toNat_natCast]
    obtain ⟨n, hn, hn6, hn0⟩ : ∃ n : Nat, m.c.toNat = n ∧ n ≤ 6 ∧ (n : Int) = m.c := ⟨_, rfl, by omega, by omega⟩
    rw [hn]
    have hlen := reasRows_len t cuts k d n
    have Hn := Lib.hid (And.intro hn hn0); clear hn hn0 hfin hp hpc hmk
    have Hf := Lib.hid hf; clear hf
    generalize hR : reasRows t cuts k d n = R at *
    have HR := Lib.hid hR; clear hR
    obtain ⟨res, hres⟩ : ∃ r, (decide (rs.length = n) && allHas R rs rs.length) = r := ⟨_, rfl⟩
    rw [hres]
    have Hres := Lib.hid hres; clear hres
    go_enter Try.func29, Try.ntmps29
    go_wp2_with fail
    rw [← hW1]
    refine hpart.mono ?_
    rintro e' w2 ⟨rfl, hb2⟩
    have hx2 : ∀ o, w2.cell? ⟨W.heap.size, o, none⟩ = (#[.int .i64 m.c, .int .i64 m.d, .int .i64 m.s, .int .i64 m.e, .int .i64 m.l, .slice a t.length c] : Array Value)[o]? := fun o => by rw [(bcell hb2).1 _ _ hz01, hc01]
    clear hc01 hh01
    have HW1 := Lib.hid hW1; clear hW1
    go_wp2_with fail
    refine (l18Rows_any m _ _ t cuts k d n _ Hf.out hk hd Hn.out.2 (hV1.below hb2) (hC1.below hb2)).mono ?_
    rintro e' w3 ⟨v3, rfl, hF, hb3⟩
    rw [HR.out] at hF
    have hV3 := hF.v2
    obtain ⟨a3, c3, rfl, hl3⟩ := hV3.form
    have hR3 := hR1.below (hb2.trans (hb3.mono hb2.size))
    have hBf := hB01.trans ((hb2.trans (hb3.mono hb2.size)).mono (by omega))
    clear hx2
    by_cases hrl : rs.length = R.length
    · go_wp2_with fail
      go_loopw [14] (fun i wr => ∃ (j nq : Nat), j ≤ rs.length ∧ i = .int .i64 (j : Int) ∧ allHas R rs j = true ∧ wr = w3.drewN nq) (fun i _ => rs.length - (intOf i).toNat)
      case atStart => exact ⟨0, 0, Nat.zero_le _, rfl, rfl, rfl⟩
      case round =>
        obtain ⟨j, nq, hj, rfl, hal, rfl⟩ := hrel
        have Hal := Lib.hid hal; clear hal
        by_cases hjj : j < rs.length
        · have hjR : j < R.length := by omega
          obtain ⟨b1, off1, a1, c1, rfl, _, hc1, hr1⟩ := hV3.cell hjR
          obtain ⟨b2, off2, hbx2, _, hc2⟩ := hR3.cell hjj
          subst hbx2
          cases hcn : hasI (getl R j) (geti rs j)
          · have hdf : res = false := by rw [← Hres.out, allHas_false hcn hjj, Bool.and_false]
            subst hdf
            go_wp2_with fail
            go_quiet ((go_at_call 70; first | exact quiet_same (l01Has_b _ _ _ _ false hcn (V1.drewN hr1)) | exact quiet_same0 (l01Has_b _ _ _ _ false hcn hr1)))
            go_wp2_with fail
            go_ret2
            exact ⟨rfl, by repeat' first | refine below_drewN ?_ _ | exact hBf⟩
          · go_wp2_with fail
            go_quiet ((go_at_call 70; first | exact quiet_same (l01Has_b _ _ _ _ true hcn (V1.drewN hr1)) | exact quiet_same0 (l01Has_b _ _ _ _ true hcn hr1)))
            go_wp2_with fail
            go_roundw
            case rel => exact ⟨j + 1, _, by omega, by go_num, by rw [allHas, Hal.out, hcn]; rfl, by first | rfl | simp only [World.drewN_drewN]⟩
            case measure => simp [intOf]; omega
        · obtain rfl : j = rs.length := by omega
          have hdf : res = true := by rw [← Hres.out, decide_eq_true (by omega), Hal.out]; rfl
          subst hdf
          go_wp2_with fail
          go_ret2
          exact ⟨rfl, below_drewN hBf _⟩
    · have hdf : res = false := by rw [← Hres.out, decide_eq_false (by omega), Bool.false_and]
      subst hdf
      go_wp2_with fail
      go_ret2
      exact ⟨rfl, hBf⟩
  · have hfin : isReasAns m t cuts key door rs = (false, reasC m t cuts key door) := by unfold isReasAns; rw [if_pos hp]
    have e1 : (reasC m t cuts key door != 0) = true := by simp [hp]
    rw [hfin]
    have Hp := Lib.hid hp; clear hp hfin
    generalize reasC m t cuts key door = pc at *
    go_enter Try.func29, Try.ntmps29
    go_wp2_with fail
    rw [← hW1]
    refine hpart.mono ?_
    rintro e' w2 ⟨rfl, hb2⟩
    clear hc01 hh01
    go_wp2_with fail
    go_ret2
    exact ⟨rfl, hB01.trans (hb2.mono (by omega))⟩
end Go.Proofs.Ytcdgechaehljgaa
