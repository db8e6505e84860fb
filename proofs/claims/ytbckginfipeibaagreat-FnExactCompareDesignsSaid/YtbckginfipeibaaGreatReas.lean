/- What the program and the reference answer on reasons: the rows that a reason may have. No conditions. -/
import Derived.Test.YtbckginfipeibaaGreatParts
import Derived.Test.YtbckginfipeibaaGreatOut
import Derived.Test.YtbckginfipeibaaGreatFits
namespace Go.Proofs.YtbckginfipeibaaGreat
open Go.RowKit
set_option linter.unusedVariables false
set_option linter.unusedSimpArgs false

/-- The rows among the first k that open the door and have the cut of the row key in chamber c. -/
def reasRow (t cuts : List (List Int)) (key door c : Nat) : Nat → List Int
  | 0 => []
  | k + 1 => if geti (getl t k) door = 1 ∧ geti (getl cuts k) c = geti (getl cuts key) c then reasRow t cuts key door c k ++ [(k : Int)] else reasRow t cuts key door c k
def reasRows (t cuts : List (List Int)) (key door : Nat) (n : Nat) : List (List Int) := (List.range n).map fun c => reasRow t cuts key door c cuts.length
theorem reasRow_len (t cuts : List (List Int)) (key door c : Nat) : ∀ k, (reasRow t cuts key door c k).length ≤ k
  | 0 => Nat.le_refl _
  | k + 1 => by have := reasRow_len t cuts key door c k; unfold reasRow; split <;> simp <;> omega
theorem mem_reasRow {t cuts : List (List Int)} {key door c : Nat} {x : Int} : ∀ {k}, x ∈ reasRow t cuts key door c k ↔ ∃ i : Nat, i < k ∧ x = i ∧ geti (getl t i) door = 1 ∧ geti (getl cuts i) c = geti (getl cuts key) c
  | 0 => by simp [reasRow]
  | k + 1 => by
    unfold reasRow
    split
    · rename_i h
      rw [List.mem_append, mem_reasRow]
      constructor
      · rintro (⟨i, h1, h2, h3⟩ | h1)
        · exact ⟨i, by omega, h2, h3⟩
        · simp at h1; exact ⟨k, by omega, h1, h⟩
      · rintro ⟨i, h1, h2, h3⟩
        by_cases e : i = k
        · subst e; right; simp [h2]
        · exact .inl ⟨i, by omega, h2, h3⟩
    · rename_i h
      rw [mem_reasRow]
      constructor
      · rintro ⟨i, h1, h2, h3⟩; exact ⟨i, by omega, h2, h3⟩
      · rintro ⟨i, h1, h2, h3⟩
        refine ⟨i, ?_, h2, h3⟩
        by_cases e : i = k
        · subst e; exact absurd h3 h
        · omega
theorem reasRows_succ (t cuts : List (List Int)) (key door n : Nat) : reasRows t cuts key door (n + 1) = reasRows t cuts key door n ++ [reasRow t cuts key door n cuts.length] := by
  unfold reasRows; rw [List.range_succ, List.map_append]; rfl
theorem reasRows_len (t cuts : List (List Int)) (key door n : Nat) : (reasRows t cuts key door n).length = n := by simp [reasRows]
theorem reasRows_get {t cuts : List (List Int)} {key door n c : Nat} (h : c < n) : getl (reasRows t cuts key door n) c = reasRow t cuts key door c cuts.length := by
  rw [getl_eq (by rw [reasRows_len]; exact h)]; simp [reasRows]

theorem fits_of {m : Mk} {t cuts : List (List Int)} (h : partC m t cuts = 0) : Fits m t cuts := by
  obtain ⟨h1, h2, h3⟩ := partC_ok.1 h
  obtain ⟨hok, htab, _⟩ := isSys_parts h1
  obtain ⟨htl, htr⟩ := isTab_iff.1 htab
  have hk := allKeys_iff.1 h3
  exact ⟨hok, htl, fun k hk => (htr k hk).1, (htr 0 (by omega)).2.1, fun k hk => (htr k hk).2.2, h2, hk, fun k hkk => (isKey_iff.1 (hk k hkk)).1, fun k hkk c hc => (isKey_iff.1 (hk k hkk)).2.1 _ (geti_mem hc)⟩

end Go.Proofs.YtbckginfipeibaaGreat
