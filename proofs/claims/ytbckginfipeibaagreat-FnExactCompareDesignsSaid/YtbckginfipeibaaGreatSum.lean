/- Sums of lists; how many outsiders open some door. No conditions. -/
import Derived.Test.YtbckginfipeibaaGreatProf
import Derived.Test.YtbckginfipeibaaGreatGhosts
namespace Go.Proofs.YtbckginfipeibaaGreat
open Go.RowKit
set_option linter.unusedVariables false
set_option linter.unusedSimpArgs false

def Few (l : List Int) : Prop := l.length ≤ 1000 ∧ ∀ x ∈ l, 0 ≤ x ∧ x ≤ 1000000
theorem sum_take_bd {l : List Int} (h : Few l) (k : Nat) : 0 ≤ (l.take k).sum ∧ (l.take k).sum ≤ 1000000 * 1000 := by
  have := sum_bd (l := l.take k) (B := 1000000) fun x hx => h.2 x (List.mem_of_mem_take hx)
  have h2 : (l.take k).length ≤ 1000 := Nat.le_trans (List.length_take_le' _ _) h.1
  omega
theorem cntL_drop (locks : List (List (List Int))) (ks : List (List Int)) (n : Nat) : (cntL locks ks 0 (n + 1)).drop 1 = cntL locks ks 1 n := by
  apply List.ext_getElem (by simp [cntL])
  intro i h1 h2
  simp [cntL, Nat.add_comm]
theorem cntL_few {locks : List (List (List Int))} {ks : List (List Int)} {lo n : Nat} (hn : n ≤ 1000) (hk : ks.length ≤ 1000000) : Few (cntL locks ks lo n) := by
  refine ⟨by rw [cntL_len]; exact hn, fun x hx => ?_⟩
  unfold cntL at hx
  rw [List.mem_map] at hx
  obtain ⟨j, _, rfl⟩ := hx
  have := cntN_le locks ks (lo + j)
  omega
/-- The outsiders that open some door, counted. -/
theorem ghosts_sum {locks : List (List (List Int))} {cuts ks : List (List Int)} {D : Nat} (hD : locks.length = D) : (cntL locks (outsOf cuts ks) 1 D).sum = ((selL locks cuts true ks).length : Int) := by
  rw [cnt_sum]
  congr 1
  unfold outsOf selL
  rw [List.countP_filter, List.countP_eq_length_filter]
  congr 1
  apply List.filter_congr
  intro k _
  unfold selK
  have := ndoors_le locks k
  have e : decide (1 ≤ ndoors locks k ∧ ndoors locks k < 1 + D) = decide (0 < ndoors locks k) := by rw [decide_eq_decide]; omega
  rw [e]
  cases decide (0 < ndoors locks k) <;> rfl

/-- The number of ghosts of a system. -/
def sysGhostAns (m : Mk) (t cuts : List (List Int)) : Int × Int :=
  if designC m t cuts ≠ 0 then (0, designC m t cuts) else (((selL (locksTo m.c.toNat t cuts (getl t 0).length) cuts true (keysOf m)).length : Nat), 0)
end Go.Proofs.YtbckginfipeibaaGreat
