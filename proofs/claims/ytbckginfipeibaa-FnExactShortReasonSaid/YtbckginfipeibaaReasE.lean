/- What the program and the reference answer when asked whether a list of rows is a reason. No conditions. -/
import Derived.Test.YtbckginfipeibaaReasD
namespace Go.Proofs.Ytbckginfipeibaa
open Go.RowKit
set_option linter.unusedVariables false
set_option linter.unusedSimpArgs false

def allHas (ls : List (List Int)) (rs : List Int) : Nat → Bool
  | 0 => true
  | k + 1 => allHas ls rs k && hasI (getl ls k) (geti rs k)
theorem allHas_false {ls : List (List Int)} {rs : List Int} {k : Nat} (h : hasI (getl ls k) (geti rs k) = false) : ∀ {n}, k < n → allHas ls rs n = false
  | 0, hk => by omega
  | n + 1, hk => by
    unfold allHas
    by_cases hkn : k = n
    · subst hkn; rw [h, Bool.and_false]
    · rw [allHas_false h (by omega), Bool.false_and]
def isReasAns (m : Mk) (t cuts : List (List Int)) (key door : Int) (rs : List Int) : Bool × Int :=
  if reasC m t cuts key door ≠ 0 then (false, reasC m t cuts key door)
  else (decide (rs.length = m.c.toNat) && allHas (reasRows t cuts key.toNat door.toNat m.c.toNat) rs rs.length, 0)

end Go.Proofs.Ytbckginfipeibaa
