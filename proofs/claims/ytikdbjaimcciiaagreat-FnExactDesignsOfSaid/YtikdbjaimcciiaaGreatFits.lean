/- What is known of systems and partial cuts that fit. No conditions. -/
import Derived.Test.YtikdbjaimcciiaaGreatMSys
namespace Go.Proofs.YtikdbjaimcciiaaGreat
open Go.RowKit
set_option linter.unusedVariables false
set_option linter.unusedSimpArgs false

/-- What is known of tables and cuts that fit. -/
structure Fits (m : Mk) (t cuts : List (List Int)) : Prop where
  ok : m.ok = true
  rows : 1 ≤ t.length ∧ t.length ≤ 10
  cols : ∀ k, k < t.length → (getl t k).length = (getl t 0).length
  doors : 1 ≤ (getl t 0).length ∧ (getl t 0).length ≤ 12
  bits : ∀ k, k < t.length → ∀ x ∈ getl t k, 0 ≤ x ∧ x ≤ 1
  few : cuts.length ≤ t.length
  keys : ∀ k, k < cuts.length → isKeyB m (getl cuts k) = true
  lens : ∀ k, k < cuts.length → ((getl cuts k).length : Int) = m.c
  deps : ∀ k, k < cuts.length → ∀ c, c < (getl cuts k).length → 0 ≤ geti (getl cuts k) c ∧ geti (getl cuts k) c ≤ m.d - 1
end Go.Proofs.YtikdbjaimcciiaaGreat
