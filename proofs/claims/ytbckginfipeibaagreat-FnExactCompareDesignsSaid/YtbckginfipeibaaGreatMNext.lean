/- Plain lists: the first of a list of keys and the one behind it; what a slice of integers reads as. No program here. No conditions. -/
import Derived.Test.YtbckginfipeibaaGreatGen
import Derived.Test.YtbckginfipeibaaGreatOwn
import Derived.Test.YtbckginfipeibaaGreatDoors
namespace Go.Proofs.YtbckginfipeibaaGreat
open Go.RowKit
set_option linter.unusedVariables false
set_option linter.unusedSimpArgs false

/-- The first of a list, and whether there is one. -/
def nextAns : List (List Int) → List Int × Bool
  | [] => ([], false)
  | k :: _ => (k, true)
theorem nextAns_append (a b : List (List Int)) : nextAns (a ++ b) = if (nextAns a).2 = true then nextAns a else nextAns b := by
  cases a <;> simp [nextAns]
theorem nextAns_true {l : List (List Int)} (h : (nextAns l).2 = true) : ∃ k r, l = k :: r := by
  cases l with
  | nil => cases h
  | cons k r => exact ⟨k, r, rfl⟩
theorem nextAns_false {l : List (List Int)} (h : (nextAns l).2 = false) : l = [] := by
  cases l with
  | nil => rfl
  | cons k r => cases h
/-- What the cells of a slice read as. -/
def readI (w : World) : Value → List Int
  | .slice (some ⟨b, off, none⟩) n _ => (List.range n).map fun k => match w.cell? ⟨b, off + k, none⟩ with
    | some (.int _ x) => x
    | _ => 0
  | _ => []
theorem V1.read {S : Nat → Prop} {w : World} {v : Value} {l : List Int} (h : V1 S w v l) : readI w v = l := by
  obtain ⟨a, c, rfl, h1, h2, h⟩ := h
  by_cases hn : l.length = 0
  · obtain rfl := List.eq_nil_of_length_eq_zero hn
    cases a with
    | none => rfl
    | some a => obtain ⟨b, off, s⟩ := a; cases s <;> rfl
  · obtain ⟨b, off, ev, rfl, _, _, _⟩ := h 0 (by omega)
    unfold readI
    apply List.ext_getElem (by simp)
    intro k g1 g2
    obtain ⟨b', off', ev, e, _, hc, hr⟩ := h k g2
    simp only [Option.some.injEq, Addr.mk.injEq, and_true] at e
    obtain ⟨rfl, rfl⟩ := e
    rw [show ev = .int .i64 (geti l k) from hr] at hc
    simp only [List.getElem_map, List.getElem_range, hc]
    exact geti_eq g2
/-- How many keys are still to come: for the measure of a loop over keys. -/
def isOk : Value → Bool
  | .bool b => b
  | _ => false
def toCome (m : Mk) (w : World) (kv okv : Value) : Nat := if isOk okv = true then (behind m (readI w kv)).length + 1 else 0
theorem toCome_last {m : Mk} {w : World} {kv : Value} : toCome m w kv (.bool false) = 0 := by unfold toCome; rw [if_neg (by simp [isOk])]
theorem toCome_more {m : Mk} {w : World} {kv : Value} {S : Nat → Prop} {l : List Int} (h : V1 S w kv l) : toCome m w kv (.bool true) = (behind m l).length + 1 := by unfold toCome; simp [isOk, h.read]
end Go.Proofs.YtbckginfipeibaaGreat

namespace Go.Proofs.YtbckginfipeibaaGreat
open Go.RowKit
set_option linter.unusedVariables false
set_option linter.unusedSimpArgs false

/-- The outsiders among some keys. -/
def outsOf (cuts ks : List (List Int)) : List (List Int) := ks.filter fun k => !hasL cuts k
theorem outsOf_snoc (cuts ks : List (List Int)) (k : List Int) : outsOf cuts (ks ++ [k]) = if hasL cuts k = true then outsOf cuts ks else outsOf cuts ks ++ [k] := by
  unfold outsOf
  rw [List.filter_append]
  cases h : hasL cuts k <;> simp [h]
/-- How many doors a key opens. -/
def ndoors (locks : List (List (List Int))) (k : List Int) : Nat := (doorsOf locks k).length
theorem ndoors_le (locks : List (List (List Int))) (k : List Int) : ndoors locks k ≤ locks.length := doorsOf_len _ _
/-- How many of some keys open j doors. -/
def cntN (locks : List (List (List Int))) (ks : List (List Int)) (j : Nat) : Nat := ks.countP fun k => decide (ndoors locks k = j)
theorem cntN_snoc (locks : List (List (List Int))) (ks : List (List Int)) (k : List Int) (j : Nat) : cntN locks (ks ++ [k]) j = cntN locks ks j + if ndoors locks k = j then 1 else 0 := by
  unfold cntN
  rw [List.countP_append]
  congr 1
  simp [List.countP_cons]
theorem cntN_le (locks : List (List (List Int))) (ks : List (List Int)) (j : Nat) : cntN locks ks j ≤ ks.length := List.countP_le_length
/-- The counts from lo on, n of them. -/
def cntL (locks : List (List (List Int))) (ks : List (List Int)) (lo n : Nat) : List Int := (List.range n).map fun j => ((cntN locks ks (lo + j) : Nat) : Int)
theorem cntL_len (locks : List (List (List Int))) (ks : List (List Int)) (lo n : Nat) : (cntL locks ks lo n).length = n := by simp [cntL]
theorem cntL_get {locks : List (List (List Int))} {ks : List (List Int)} {lo n j : Nat} (h : j < n) : geti (cntL locks ks lo n) j = ((cntN locks ks (lo + j) : Nat) : Int) := by
  rw [geti_eq (by rw [cntL_len]; exact h)]; simp [cntL]
theorem cntL_nil (locks : List (List (List Int))) (lo n : Nat) : cntL locks [] lo n = List.replicate n 0 := by
  apply List.ext_getElem (by simp [cntL])
  intro i h1 h2
  simp [cntL, cntN]
/-- The sum of a list from its k-th number on. -/
def sumFrom (l : List Int) (k : Nat) : Int := (l.drop k).sum
theorem sum_bd {l : List Int} {B : Int} (h : ∀ x ∈ l, 0 ≤ x ∧ x ≤ B) : 0 ≤ l.sum ∧ l.sum ≤ B * l.length := by
  induction l with
  | nil => simp
  | cons x l ih =>
    have h1 := h x (List.mem_cons_self ..)
    have h2 := ih fun y hy => h y (List.mem_cons_of_mem _ hy)
    simp only [List.sum_cons, List.length_cons, Int.natCast_add, Int.mul_add]
    omega
theorem sum_take {l : List Int} {k : Nat} (h : k < l.length) : (l.take (k + 1)).sum = (l.take k).sum + geti l k := by
  rw [take_geti h, List.sum_append]; simp
/-- Keys that open some door, counted by how many. -/
theorem cnt_ghosts (locks : List (List (List Int))) (cuts ks : List (List Int)) (j : Nat) :
    cntN locks ((outsOf cuts ks).filter fun k => decide (0 < ndoors locks k)) (j + 1) = cntN locks (outsOf cuts ks) (j + 1) := by
  unfold cntN
  rw [List.countP_filter]
  congr 1
  funext k
  by_cases h : ndoors locks k = j + 1
  · simp [h]
  · simp [h]
/-- All counts together. -/
theorem cnt_sum (locks : List (List (List Int))) (ks : List (List Int)) (lo : Nat) : ∀ n, ((cntL locks ks lo n).sum : Int) = ((ks.countP fun k => decide (lo ≤ ndoors locks k ∧ ndoors locks k < lo + n) : Nat) : Int)
  | 0 => by
    have : (ks.countP fun k => decide (lo ≤ ndoors locks k ∧ ndoors locks k < lo + 0)) = 0 := by
      rw [List.countP_eq_zero]; intro k _; simp
    rw [this]; simp [cntL]
  | n + 1 => by
    have ih := cnt_sum locks ks lo n
    have h1 : cntL locks ks lo (n + 1) = cntL locks ks lo n ++ [((cntN locks ks (lo + n) : Nat) : Int)] := by
      simp [cntL, List.range_succ]
    rw [h1, List.sum_append, ih]
    simp only [List.sum_cons, List.sum_nil, Int.add_zero]
    rw [← Int.natCast_add]
    congr 1
    unfold cntN
    clear ih h1
    induction ks with
    | nil => rfl
    | cons k ks ih =>
      simp only [List.countP_cons]
      by_cases h1 : ndoors locks k = lo + n
      · simp only [h1, decide_true, if_true]
        rw [show decide (lo ≤ lo + n ∧ lo + n < lo + n) = false by simp, show decide (lo ≤ lo + n ∧ lo + n < lo + (n + 1)) = true by simp]
        simp only [Bool.false_eq_true, if_false, if_true]
        omega
      · have e : decide (lo ≤ ndoors locks k ∧ ndoors locks k < lo + (n + 1)) = decide (lo ≤ ndoors locks k ∧ ndoors locks k < lo + n) := by
          rw [decide_eq_decide]; omega
        rw [e]
        simp only [h1, decide_false]
        simp only [Bool.false_eq_true, if_false]
        omega
end Go.Proofs.YtbckginfipeibaaGreat
