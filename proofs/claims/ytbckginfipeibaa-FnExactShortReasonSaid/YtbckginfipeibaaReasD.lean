/- What the program and the reference answer on reasons: how many there are, and whether one is a reason. No conditions. -/
import Derived.Test.YtbckginfipeibaaReasC
namespace Go.Proofs.Ytbckginfipeibaa
open Go.RowKit
set_option linter.unusedVariables false
set_option linter.unusedSimpArgs false

def prodTo (ls : List (List Int)) : Nat → Nat
  | 0 => 1
  | k + 1 => prodTo ls k * (getl ls k).length
theorem prodTo_le {ls : List (List Int)} (h : ∀ k, k < ls.length → (getl ls k).length ≤ 10) : ∀ k, k ≤ ls.length → prodTo ls k ≤ 10 ^ k
  | 0, _ => Nat.le_refl _
  | k + 1, hk => by
    unfold prodTo
    rw [Nat.pow_succ]
    exact Nat.mul_le_mul (prodTo_le h k (by omega)) (h k (by omega))
theorem prodTo_small {ls : List (List Int)} (h : ∀ k, k < ls.length → (getl ls k).length ≤ 10) (hl : ls.length ≤ 6) {k : Nat} (hk : k ≤ ls.length) : prodTo ls k ≤ 1000000 :=
  Nat.le_trans (prodTo_le h k hk) (Nat.le_trans (Nat.pow_le_pow_right (by decide) (by omega : k ≤ 6)) (by decide))
theorem reasRows_small {t cuts : List (List Int)} {key door n : Nat} (hc : cuts.length ≤ 10) : ∀ k, k < (reasRows t cuts key door n).length → (getl (reasRows t cuts key door n) k).length ≤ 10 := fun k hk => by
  rw [reasRows_len] at hk
  rw [reasRows_get hk]
  exact Nat.le_trans (reasRow_len _ _ _ _ _ _) hc

def cntReasAns (m : Mk) (t cuts : List (List Int)) (key door : Int) : Int × Int :=
  if reasC m t cuts key door ≠ 0 then (0, reasC m t cuts key door) else ((prodTo (reasRows t cuts key.toNat door.toNat m.c.toNat) m.c.toNat : Nat), 0)

end Go.Proofs.Ytbckginfipeibaa
