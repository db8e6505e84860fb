/- Sums of lists; how many outsiders open some door. No conditions. -/
import Derived.Test.YtbckginfipeibaaProf
import Derived.Test.YtbckginfipeibaaGhosts
namespace Go.Proofs.Ytbckginfipeibaa
open Go.RowKit
set_option linter.unusedVariables false
set_option linter.unusedSimpArgs false

def Few (l : List Int) : Prop := l.length ≤ 1000 ∧ ∀ x ∈ l, 0 ≤ x ∧ x ≤ 1000000
theorem sum_take_bd {l : List Int} (h : Few l) (k : Nat) : 0 ≤ (l.take k).sum ∧ (l.take k).sum ≤ 1000000 * 1000 := by
  have := sum_bd (l := l.take k) (B := 1000000) fun x hx => h.2 x (List.mem_of_mem_take hx)
  have h2 : (l.take k).length ≤ 1000 := Nat.le_trans (List.length_take_le' _ _) h.1
  omega
theorem sum_any {S : Nat → Prop} (v : Value) (l : List Int) (W : World) (r : Int) (hr : l.sum = r) (h : V1 S W v l) (hs : Few l) :
    Calls Try.prog 63 #[v] W fun e' w' => e' = .returned (.int .i64 r) ∧ W = w' := by
  have hV := h
  obtain ⟨a, c, rfl, hm⟩ := h.form
  have Hr := Lib.hid hr; clear hr
  have Hs := Lib.hid hs; clear hs
  go_enter Try.func63, Try.ntmps63
  go_wp2_with fail
  go_loop [3, 5, 8] (fun s _ i => ∃ k : Nat, k ≤ l.length ∧ i = .int .i64 (k : Int) ∧ s = .int .i64 (l.take k).sum) (fun _ _ i => l.length - (intOf i).toNat)
  case atStart => exact ⟨0, Nat.zero_le _, rfl, rfl⟩
  case round =>
    obtain ⟨k, hk, rfl, rfl⟩ := hrel
    have hbd := sum_take_bd Hs.out k
    obtain ⟨q, hq⟩ : ∃ q, (l.take k).sum = q := ⟨_, rfl⟩
    rw [hq] at hbd ⊢
    have Hq := Lib.hid hq; clear hq
    by_cases hkk : k < l.length
    · obtain ⟨b2, off2, rfl, _, hc2⟩ := hV.cell hkk
      have hx := Hs.out.2 _ (geti_mem hkk)
      have hst := sum_take hkk
      have Hst := Lib.hid hst; clear hst
      go_wp2_with fail
      go_round
      case rel => exact ⟨k + 1, by omega, by go_num, by rw [Hst.out, Hq.out]⟩
      case measure => simp [intOf]; omega
    · obtain rfl : k = l.length := by omega
      go_wp2_with fail
      go_ret
      exact ⟨ret_int (by rw [← Hr.out, ← Hq.out, List.take_length]), rfl⟩
theorem l01Sum_any {S : Nat → Prop} (v : Value) (l : List Int) (W : World) (r : Int) (hr : l.sum = r) (h : V1 S W v l) (hs : Few l) :
    Calls Try.prog 62 #[v] W fun e' w' => e' = .returned (.int .i64 r) ∧ W = w' := by
  have hV := h
  obtain ⟨a, c, rfl, hm⟩ := h.form
  have Hr := Lib.hid hr; clear hr
  have Hs := Lib.hid hs; clear hs
  go_enter Try.func62, Try.ntmps62
  go_wp2_with fail
  go_loop [3, 4] (fun s i => ∃ k : Nat, k ≤ l.length ∧ i = .int .i64 (k : Int) ∧ s = .int .i64 (l.take k).sum) (fun _ i => l.length - (intOf i).toNat)
  case atStart => exact ⟨0, Nat.zero_le _, rfl, rfl⟩
  case round =>
    obtain ⟨k, hk, rfl, rfl⟩ := hrel
    have hbd := sum_take_bd Hs.out k
    obtain ⟨q, hq⟩ : ∃ q, (l.take k).sum = q := ⟨_, rfl⟩
    rw [hq] at hbd ⊢
    have Hq := Lib.hid hq; clear hq
    by_cases hkk : k < l.length
    · obtain ⟨b2, off2, rfl, _, hc2⟩ := hV.cell hkk
      have hx := Hs.out.2 _ (geti_mem hkk)
      have hst := sum_take hkk
      have Hst := Lib.hid hst; clear hst
      go_wp2_with fail
      go_round
      case rel => exact ⟨k + 1, by omega, by go_num, by rw [Hst.out, Hq.out]⟩
      case measure => simp [intOf]; omega
    · obtain rfl : k = l.length := by omega
      go_wp2_with fail
      go_ret
      exact ⟨ret_int (by rw [← Hr.out, ← Hq.out, List.take_length]), rfl⟩

theorem cntL_drop (locks : List (List (List Int))) (ks : List (List Int)) (n : Nat) : (cntL locks ks 0 (n + 1)).drop 1 = cntL locks ks 1 n := by
  apply List.ext_getElem (by simp [cntL])
  intro i h1 h2
  simp [cntL, Nat.add_comm]
theorem cntL_few {locks : List (List (List Int))} {ks : List (List Int)} {lo n : Nat} (hn : n ≤ 1000) (hk : ks.length ≤ 1000000) : Few (cntL locks ks lo n) := by
  refine ⟨by rw [cntL_len]; exact hn, fun x hx => ?_⟩
  unfold cntL at hx
  rw [List.mem_map] at hx
  obtain ⟨j, _, rfl⟩ := hx
  have := cntN_le locks ks (lo + j)
  omega
/-- The outsiders that open some door, counted. -/
theorem ghosts_sum {locks : List (List (List Int))} {cuts ks : List (List Int)} {D : Nat} (hD : locks.length = D) : (cntL locks (outsOf cuts ks) 1 D).sum = ((selL locks cuts true ks).length : Int) := by
  rw [cnt_sum]
  congr 1
  unfold outsOf selL
  rw [List.countP_filter, List.countP_eq_length_filter]
  congr 1
  apply List.filter_congr
  intro k _
  unfold selK
  have := ndoors_le locks k
  have e : decide (1 ≤ ndoors locks k ∧ ndoors locks k < 1 + D) = decide (0 < ndoors locks k) := by rw [decide_eq_decide]; omega
  rw [e]
  cases decide (0 < ndoors locks k) <;> rfl

/-- The number of ghosts of a system. -/
def sysGhostAns (m : Mk) (t cuts : List (List Int)) : Int × Int :=
  if designC m t cuts ≠ 0 then (0, designC m t cuts) else (((selL (locksTo m.c.toNat t cuts (getl t 0).length) cuts true (keysOf m)).length : Nat), 0)
end Go.Proofs.Ytbckginfipeibaa
