/- Lists that rise: the program's test. No conditions. -/
import Derived.Test.YtbckginfipeibaaMSys
namespace Go.Proofs.Ytbckginfipeibaa
open Go.RowKit
set_option linter.unusedVariables false
set_option linter.unusedSimpArgs false

/-- The first k numbers lie from 0 to below n, each greater than the one before it. -/
def riseTo (l : List Int) (n : Int) : Nat → Bool
  | 0 => true
  | k + 1 => riseTo l n k && (decide (0 ≤ geti l k) && decide (geti l k < n) && (decide (k = 0) || decide (geti l (k - 1) < geti l k)))
def riseB (l : List Int) (n : Int) : Bool := riseTo l n l.length
theorem riseTo_false {l : List Int} {n : Int} {k : Nat} (h : riseTo l n (k + 1) = false) : ∀ {m}, k < m → riseTo l n m = false
  | 0, hk => by omega
  | m + 1, hk => by
    by_cases e : k = m
    · subst e; exact h
    · unfold riseTo; rw [riseTo_false h (by omega), Bool.false_and]

theorem IsRising_any {S : Nat → Prop} (v : Value) (l : List Int) (n : Int) (W : World) (h : V1 S W v l) :
    Calls Try.prog 91 #[v, .int .i64 n] W fun e' w' => e' = .returned (.bool (riseB l n)) ∧ W = w' := by
  have hV := h
  obtain ⟨a, c, rfl, hm⟩ := h.form
  obtain ⟨r, hr⟩ : ∃ r, riseB l n = r := ⟨_, rfl⟩
  rw [hr]
  have Hr := Lib.hid hr; clear hr
  go_enter Try.func91, Try.ntmps91
  go_wp2_with fail
  go_loop [5, 6, 9] (fun _ _ i => ∃ k : Nat, k ≤ l.length ∧ i = .int .i64 k ∧ riseTo l n k = true) (fun _ _ i => l.length - (intOf i).toNat)
  case atStart => exact ⟨0, Nat.zero_le _, rfl, rfl⟩
  case round =>
    obtain ⟨k, hk, rfl, hal⟩ := hrel
    have Hal := Lib.hid hal; clear hal
    by_cases hkk : k < l.length
    · obtain ⟨b1, off1, rfl, _, hc1⟩ := hV.cell hkk
      have hk1 : k ≠ 0 → ∃ b2 off2, some (⟨b1, off1, none⟩ : Addr) = some ⟨b2, off2, none⟩ ∧ True ∧ W.cell? ⟨b2, off2 + (k - 1), none⟩ = some (.int .i64 (geti l (k - 1))) := fun hk0 => by
        obtain ⟨b2, off2, e, _, hc⟩ := hV.cell (k := k - 1) (by omega)
        exact ⟨b2, off2, e, trivial, hc⟩
      by_cases h1 : geti l k < 0
      · skip
        have hfin : r = false := by rw [← Hr.out]; exact riseTo_false (k := k) (by unfold riseTo; simp; intros; omega) hkk
        subst hfin
        go_wp2_with fail
        go_ret
        exact ⟨rfl, rfl⟩
      · by_cases h2 : n ≤ geti l k
        · skip
          have hfin : r = false := by rw [← Hr.out]; exact riseTo_false (k := k) (by unfold riseTo; simp; intros; omega) hkk
          subst hfin
          go_wp2_with fail
          go_ret
          exact ⟨rfl, rfl⟩
        · by_cases hk0 : k = 0
          · subst hk0
            rw [Nat.add_zero] at hc1
            clear hk1
            go_wp2_with fail
            go_round
            case rel => exact ⟨1, by omega, by go_num, by simp [riseTo]; omega⟩
            case measure => simp [intOf]; omega
          · obtain ⟨b2, off2, e, _, hc2⟩ := hk1 hk0
            simp only [Option.some.injEq, Addr.mk.injEq, and_true] at e
            obtain ⟨rfl, rfl⟩ := e
            have hpos : 0 < k := by omega
            have hlen := hV.len
            unfold maxLen at hlen
            by_cases h3 : geti l k ≤ geti l (k - 1)
            · skip
              have hfin : r = false := by rw [← Hr.out]; exact riseTo_false (k := k) (by unfold riseTo; simp; intros; omega) hkk
              subst hfin
              go_wp2_with fail
              go_ret
              exact ⟨rfl, rfl⟩
            · go_wp2_with fail
              go_round
              case rel => exact ⟨k + 1, by omega, by go_num, by unfold riseTo; rw [Hal.out]; simp; omega⟩
              case measure => simp [intOf]; omega
    · obtain rfl : k = l.length := by omega
      have hfin : r = true := by rw [← Hr.out]; exact Hal.out
      subst hfin
      go_wp2_with fail
      go_ret
      exact ⟨rfl, rfl⟩

set_option maxHeartbeats 400000 in
theorem l01Rises_q {S : Nat → Prop} (v : Value) (l : List Int) (n : Int) (W : World) (h : V1 S W v l) :
    Calls Try.prog 89 #[v, .int .i64 n] W fun e' w' => e' = .returned (.bool (riseB l n)) ∧ ∃ m, w' = W.drewN m := by
  have hV := h
  obtain ⟨a, c, rfl, hm⟩ := h.form
  obtain ⟨r, hr⟩ : ∃ r, riseB l n = r := ⟨_, rfl⟩
  rw [hr]
  have Hr := Lib.hid hr; clear hr
  go_enter Try.func89, Try.ntmps89
  go_wp2_with fail
  go_loopw [5] (fun i wr => ∃ k q : Nat, k ≤ l.length ∧ i = .int .i64 k ∧ riseTo l n k = true ∧ wr = W.drewN q) (fun i _ => l.length - (intOf i).toNat)
  case atStart => exact ⟨0, 0, Nat.zero_le _, rfl, rfl, rfl⟩
  case round =>
    obtain ⟨k, q, hk, rfl, hal, rfl⟩ := hrel
    have Hal := Lib.hid hal; clear hal
    by_cases hkk : k < l.length
    · obtain ⟨b1, off1, rfl, _, hc1⟩ := hV.cell hkk
      by_cases h1 : geti l k < 0
      · have d1 : decide (geti l k < 0) = true := decide_eq_true h1
        have hfin : r = false := by rw [← Hr.out]; exact riseTo_false (k := k) (by unfold riseTo; simp; intros; omega) hkk
        subst hfin
        go_wp2_with fail
        go_quiet (fail)
        go_wp2_with fail
        go_ret
        exact ⟨rfl, _, by first | rfl | rw [World.drewN_drewN]⟩
      · have d1 : decide (geti l k < 0) = false := decide_eq_false h1
        by_cases h2 : n ≤ geti l k
        · have d2 : decide (n ≤ geti l k) = true := decide_eq_true h2
          have hfin : r = false := by rw [← Hr.out]; exact riseTo_false (k := k) (by unfold riseTo; simp; intros; omega) hkk
          subst hfin
          go_wp2_with fail
          go_quiet (fail)
          go_wp2_with fail
          go_ret
          exact ⟨rfl, _, by first | rfl | rw [World.drewN_drewN]⟩
        · have d2 : decide (n ≤ geti l k) = false := decide_eq_false h2
          by_cases hk0 : k = 0
          · subst hk0
            rw [Nat.add_zero] at hc1
            go_wp2_with fail
            go_quiet (fail)
            go_wp2_with fail
            go_roundw
            case rel => exact ⟨1, _, by omega, by go_num, by simp [riseTo]; omega, by first | rfl | rw [World.drewN_drewN]⟩
            case measure => simp [intOf]; omega
          · obtain ⟨b2, off2, e, _, hc2⟩ := hV.cell (k := k - 1) (by omega)
            simp only [Option.some.injEq, Addr.mk.injEq, and_true] at e
            obtain ⟨rfl, rfl⟩ := e
            have hpos : 0 < k := by omega
            have hlen := hV.len
            unfold maxLen at hlen
            by_cases h3 : geti l k ≤ geti l (k - 1)
            · have d3 : decide (geti l k ≤ geti l (k - 1)) = true := decide_eq_true h3
              have hfin : r = false := by rw [← Hr.out]; exact riseTo_false (k := k) (by unfold riseTo; simp; intros; omega) hkk
              subst hfin
              go_wp2_with fail
              go_quiet (fail)
              go_wp2_with fail
              go_ret
              exact ⟨rfl, _, by first | rfl | rw [World.drewN_drewN]⟩
            · have d3 : decide (geti l k ≤ geti l (k - 1)) = false := decide_eq_false h3
              have h4 := riseTo l n k
              go_wp2_with fail
              go_quiet (fail)
              go_wp2_with fail
              go_roundw
              case rel => exact ⟨k + 1, _, by omega, by go_num, by unfold riseTo; rw [Hal.out]; simp; omega, by first | rfl | rw [World.drewN_drewN]⟩
              case measure => simp [intOf]; omega
    · obtain rfl : k = l.length := by omega
      have hfin : r = true := by rw [← Hr.out]; exact Hal.out
      subst hfin
      go_wp2_with fail
      go_ret
      exact ⟨rfl, _, rfl⟩
end Go.Proofs.Ytbckginfipeibaa
