/- All outsiders that open some door, or none: as the reference finds them. No conditions. -/
import Derived.Test.YtbckginfipeibaaMNext
import Derived.Test.YtbckginfipeibaaRefFirst
namespace Go.Proofs.Ytbckginfipeibaa
open Go.RowKit
set_option linter.unusedVariables false
set_option linter.unusedSimpArgs false

theorem RowVs.mono {S S' : Nat → Prop} {w : World} {vs : List Value} {ls : List (List Int)} (h : RowVs S w vs ls) (hS : ∀ b, S b → b < w.heap.size → S' b) : RowVs S' w vs ls :=
  ⟨h.1, fun k hk => by obtain ⟨ev, h1, h2⟩ := h.2 k hk; exact ⟨ev, h1, V1.mono h2 hS (fun _ _ _ => rfl)⟩⟩
def openTo (locks : List (List (List Int))) (key : List Int) : Nat → Bool
  | 0 => false
  | k + 1 => openTo locks key k || opensB (getll locks k) key
theorem openTo_iff {locks : List (List (List Int))} {key : List Int} : ∀ {k}, openTo locks key k = true ↔ 0 < (doorsTo locks key k).length
  | 0 => by simp [openTo, doorsTo]
  | k + 1 => by
    rw [openTo, Bool.or_eq_true, openTo_iff (k := k), doorsTo]
    by_cases h : opensB (getll locks k) key = true
    · simp [h]
    · simp [h]
theorem openTo_all (locks : List (List (List Int))) (key : List Int) : openTo locks key locks.length = decide (0 < ndoors locks key) := by
  rw [Bool.eq_iff_iff, openTo_iff, decide_eq_true_eq]; rfl
/-- An outsider that opens some door, or none. -/
def selK (locks : List (List (List Int))) (cuts : List (List Int)) (g : Bool) (k : List Int) : Bool := (decide (0 < ndoors locks k) == g) && !hasL cuts k
def selL (locks : List (List (List Int))) (cuts : List (List Int)) (g : Bool) (ks : List (List Int)) : List (List Int) := ks.filter (selK locks cuts g)
theorem selL_snoc (locks : List (List (List Int))) (cuts : List (List Int)) (g : Bool) (ks : List (List Int)) (k : List Int) : selL locks cuts g (ks ++ [k]) = if selK locks cuts g k = true then selL locks cuts g ks ++ [k] else selL locks cuts g ks := by
  unfold selL
  rw [List.filter_append]
  cases h : selK locks cuts g k <;> simp [h]
theorem selL_length (locks : List (List (List Int))) (cuts : List (List Int)) (g : Bool) (ks : List (List Int)) : (selL locks cuts g ks).length ≤ ks.length := List.length_filter_le _ _

theorem toCome_next {m : Mk} {w : World} {kv : Value} {S : Nat → Prop} {L r : List (List Int)} (hc : 0 ≤ m.c) (h : (nextAns r).2 = true → V1 S w kv (nextAns r).1) (hL : keysOf m = L ++ r) : toCome m w kv (.bool (nextAns r).2) ≤ r.length := by
  cases r with
  | nil => rw [show (nextAns []).2 = false from rfl, toCome_last]; exact Nat.zero_le _
  | cons k r =>
    have h1 : V1 S w kv k := h rfl
    rw [show (nextAns (k :: r)).2 = true from rfl, toCome_more h1, keys_behind hc hL]
    exact Nat.le_refl _
theorem key_far {S : Nat → Prop} {w w' : World} {ou kv : Value} {base n : Nat} {e : TypeId} {xs : List Value} {k : List Int} (hown : w.ownsRow base e 1 ou n xs) (h : V1 (fun b => S b ∨ w.heap.size ≤ b) w' kv k) (hS : ∀ b, ¬ S b) : V1 (fun b => ou.ownBlock ≠ some b) w' kv k :=
  h.mono (fun b h1 _ e => by
    have := (hown.lt b e).2
    rcases h1 with h2 | h2
    · exact hS b h2
    · omega) (fun _ _ _ => rfl)
theorem V1.far {w w1 : World} {ou v1 kv : Value} {k : List Int} (h : V1 (fun b => ou.ownBlock ≠ some b) w kv k) (hg : w.grownBy w1 ou.ownBlock) (hblk : v1.ownBlock = ou.ownBlock ∨ ∃ g, v1.ownBlock = some g ∧ w.heap.size ≤ g) : V1 (fun b => v1.ownBlock ≠ some b) w1 kv k :=
  h.mono (fun b h1 h2 e => by
    rcases hblk with e1 | ⟨g, e1, hge⟩
    · exact h1 (e1.symm.trans e)
    · rw [e] at e1; cases e1; omega) (grow_keep hg fun g hgg hS => hS hgg)
theorem RowVs.far {w w1 : World} {ou v1 : Value} {vs : List Value} {ls : List (List Int)} (h : RowVs (fun b => ou.ownBlock ≠ some b) w vs ls) (hg : w.grownBy w1 ou.ownBlock) (hblk : v1.ownBlock = ou.ownBlock ∨ ∃ g, v1.ownBlock = some g ∧ w.heap.size ≤ g) : RowVs (fun b => v1.ownBlock ≠ some b) w1 vs ls :=
  ⟨h.1, fun k hk => by obtain ⟨ev, h1, h2⟩ := h.2 k hk; exact ⟨ev, h1, V1.far h2 hg hblk⟩⟩
end Go.Proofs.Ytbckginfipeibaa
