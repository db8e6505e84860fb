/- Plain lists: the first of a list of keys and the one behind it; what a slice of integers reads as. No program here. No conditions. -/
import Derived.Test.YtikdbjaimcciiaaGreatGen
import Derived.Test.YtikdbjaimcciiaaGreatMLib
namespace Go.Proofs.YtikdbjaimcciiaaGreat
open Go.RowKit
set_option linter.unusedVariables false
set_option linter.unusedSimpArgs false

/-- The first of a list, and whether there is one. -/
def nextAns : List (List Int) → List Int × Bool
  | [] => ([], false)
  | k :: _ => (k, true)
theorem nextAns_append (a b : List (List Int)) : nextAns (a ++ b) = if (nextAns a).2 = true then nextAns a else nextAns b := by
  cases a <;> simp [nextAns]
theorem nextAns_true {l : List (List Int)} (h : (nextAns l).2 = true) : ∃ k r, l = k :: r := by
  cases l with
  | nil => cases h
  | cons k r => exact ⟨k, r, rfl⟩
theorem nextAns_false {l : List (List Int)} (h : (nextAns l).2 = false) : l = [] := by
  cases l with
  | nil => rfl
  | cons k r => cases h
/-- What the cells of a slice read as. -/
def readI (w : World) : Value → List Int
  | .slice (some ⟨b, off, none⟩) n _ => (List.range n).map fun k => match w.cell? ⟨b, off + k, none⟩ with
    | some (.int _ x) => x
    | _ => 0
  | _ => []
theorem V1.read {S : Nat → Prop} {w : World} {v : Value} {l : List Int} (h : V1 S w v l) : readI w v = l := by
  obtain ⟨a, c, rfl, h1, h2, h⟩ := h
  by_cases hn : l.length = 0
  · obtain rfl := List.eq_nil_of_length_eq_zero hn
    cases a with
    | none => rfl
    | some a => obtain ⟨b, off, s⟩ := a; cases s <;> rfl
  · obtain ⟨b, off, ev, rfl, _, _, _⟩ := h 0 (by omega)
    unfold readI
    apply List.ext_getElem (by simp)
    intro k g1 g2
    obtain ⟨b', off', ev, e, _, hc, hr⟩ := h k g2
    simp only [Option.some.injEq, Addr.mk.injEq, and_true] at e
    obtain ⟨rfl, rfl⟩ := e
    rw [show ev = .int .i64 (geti l k) from hr] at hc
    simp only [List.getElem_map, List.getElem_range, hc]
    exact geti_eq g2
/-- How many keys are still to come: for the measure of a loop over keys. -/
def isOk : Value → Bool
  | .bool b => b
  | _ => false
def toCome (m : Mk) (w : World) (kv okv : Value) : Nat := if isOk okv = true then (behind m (readI w kv)).length + 1 else 0
theorem toCome_last {m : Mk} {w : World} {kv : Value} : toCome m w kv (.bool false) = 0 := by unfold toCome; rw [if_neg (by simp [isOk])]
theorem toCome_more {m : Mk} {w : World} {kv : Value} {S : Nat → Prop} {l : List Int} (h : V1 S w kv l) : toCome m w kv (.bool true) = (behind m l).length + 1 := by unfold toCome; simp [isOk, h.read]
end Go.Proofs.YtikdbjaimcciiaaGreat
