/- The different numbers of a list in increasing order, as the program and as the reference find them. No conditions. -/
import Derived.Lib.SlicesCompact
import Derived.Test.YtjkfgldmeenmjaaLib
namespace Go.Proofs.Ytjkfgldmeenmjaa
open Go.RowKit
set_option linter.unusedVariables false
set_option linter.unusedSimpArgs false

theorem compact_sorted (d : Array Int) (hs : ∀ i j, i ≤ j → j < d.size → d[i]! ≤ d[j]!) : ∀ m, m ≤ d.size →
    (Go.Lib.compactUpTo d m).Pairwise (· < ·) ∧ (∀ x ∈ Go.Lib.compactUpTo d m, ∃ j, j < m ∧ x = d[j]!) ∧ ∀ j, j < m → d[j]! ∈ Go.Lib.compactUpTo d m
  | 0, _ => by
    have : Go.Lib.compactUpTo d 0 = [] := by simp [Go.Lib.compactUpTo]
    rw [this]
    exact ⟨List.Pairwise.nil, by simp, fun j hj => by omega⟩
  | m + 1, hm => by
    obtain ⟨h1, h2, h3⟩ := compact_sorted d hs m (by omega)
    rw [Go.Lib.compactUpTo_succ]
    by_cases hk : Go.Lib.keeps d m = true
    · rw [if_pos hk]
      refine ⟨?_, ?_, ?_⟩
      · rw [List.pairwise_append]
        refine ⟨h1, List.pairwise_singleton _ _, fun x hx y hy => ?_⟩
        obtain rfl := List.mem_singleton.1 hy
        obtain ⟨j, hj, rfl⟩ := h2 x hx
        have hne : d[m]! ≠ d[m - 1]! := by
          intro e
          rw [Go.Lib.keeps_neg (by omega) e] at hk
          cases hk
        have ha := hs j (m - 1) (by omega) (by omega)
        have hb := hs (m - 1) m (by omega) (by omega)
        omega
      · intro x hx
        rcases List.mem_append.1 hx with hx | hx
        · obtain ⟨j, hj, e⟩ := h2 x hx; exact ⟨j, by omega, e⟩
        · exact ⟨m, by omega, List.mem_singleton.1 hx⟩
      · intro j hj
        by_cases e : j = m
        · subst e; exact List.mem_append.2 (.inr (List.mem_singleton.2 rfl))
        · exact List.mem_append.2 (.inl (h3 j (by omega)))
    · rw [if_neg hk, List.append_nil]
      have hm0 : m ≠ 0 := fun e => hk (by subst e; exact Go.Lib.keeps_lt_one d 0 (by omega))
      have he : d[m]! = d[m - 1]! := Classical.byContradiction fun hne => hk (Go.Lib.keeps_pos hne)
      refine ⟨h1, fun x hx => ?_, fun j hj => ?_⟩
      · obtain ⟨j, hj, e⟩ := h2 x hx; exact ⟨j, by omega, e⟩
      · by_cases e : j = m
        · subst e; rw [he]; exact h3 _ (by omega)
        · exact h3 j (by omega)

def diffI (l : List Int) : List Int := Go.Lib.compact (l.mergeSort fun x y => decide (x ≤ y))
theorem diffI_sort (l : List Int) : (diffI l).Pairwise (· < ·) ∧ ∀ x, x ∈ diffI l ↔ x ∈ l := by
  have hp := List.pairwise_mergeSort (le := fun x y : Int => decide (x ≤ y)) (fun a b c h1 h2 => by simp at *; omega) (fun a b => by simp; omega) l
  have hm : ∀ x, x ∈ (l.mergeSort fun x y => decide (x ≤ y)) ↔ x ∈ l := fun x => List.mem_mergeSort
  unfold diffI Go.Lib.compact
  generalize (l.mergeSort fun x y => decide (x ≤ y)) = z at hp hm
  have hs : ∀ i j, i ≤ j → j < z.toArray.size → z.toArray[i]! ≤ z.toArray[j]! := fun i j hij hj => by
    have hj' : j < z.length := by simpa using hj
    rw [getElem!_pos _ i (by simpa using (show i < z.length by omega)), getElem!_pos _ j hj]
    simp only [List.getElem_toArray]
    by_cases e : i = j
    · subst e; exact Int.le_refl _
    · have := List.pairwise_iff_getElem.1 hp i j (by omega) hj' (by omega)
      simpa using this
  obtain ⟨h1, h2, h3⟩ := compact_sorted z.toArray hs z.length (by simp)
  refine ⟨h1, fun x => ?_⟩
  rw [← hm]
  constructor
  · intro hx
    obtain ⟨j, hj, rfl⟩ := h2 x hx
    rw [getElem!_pos _ j (by simpa using hj)]
    simp
  · intro hx
    obtain ⟨j, hj, rfl⟩ := List.getElem_of_mem hx
    have := h3 j hj
    rw [getElem!_pos _ j (by simpa using hj)] at this
    simpa using this

def minAbove (l : List Int) (lo : Int) : Nat → Int
  | 0 => -1
  | i + 1 => if lo < geti l i ∧ (minAbove l lo i < 0 ∨ geti l i < minAbove l lo i) then geti l i else minAbove l lo i
theorem minAbove_spec {l : List Int} {lo : Int} (h0 : ∀ x ∈ l, 0 ≤ x) : ∀ i, i ≤ l.length →
    (minAbove l lo i = -1 ∧ ∀ j, j < i → geti l j ≤ lo) ∨ (0 ≤ minAbove l lo i ∧ lo < minAbove l lo i ∧ (∃ j, j < i ∧ minAbove l lo i = geti l j) ∧ ∀ j, j < i → lo < geti l j → minAbove l lo i ≤ geti l j)
  | 0, _ => .inl ⟨rfl, fun j hj => by omega⟩
  | i + 1, hi => by
    have ih := minAbove_spec (lo := lo) h0 i (by omega)
    have hx := h0 _ (geti_mem (show i < l.length by omega))
    unfold minAbove
    by_cases hc : lo < geti l i ∧ (minAbove l lo i < 0 ∨ geti l i < minAbove l lo i)
    · rw [if_pos hc]
      right
      refine ⟨hx, hc.1, ⟨i, by omega, rfl⟩, fun j hj hlt => ?_⟩
      by_cases e : j = i
      · subst e; exact Int.le_refl _
      · rcases ih with ⟨e1, h1⟩ | ⟨g0, g1, g2, g3⟩
        · have := h1 j (by omega); omega
        · have := g3 j (by omega) hlt
          rcases hc.2 with h | h <;> omega
    · rw [if_neg hc]
      rcases ih with ⟨e1, h1⟩ | ⟨g0, g1, ⟨j0, hj0, e0⟩, g3⟩
      · left
        refine ⟨e1, fun j hj => ?_⟩
        by_cases e : j = i
        · subst e
          by_cases hl : lo < geti l j
          · exact absurd ⟨hl, .inl (by omega)⟩ hc
          · omega
        · exact h1 j (by omega)
      · right
        refine ⟨g0, g1, ⟨j0, by omega, e0⟩, fun j hj hlt => ?_⟩
        by_cases e : j = i
        · subst e
          by_cases hl : geti l j < minAbove l lo j
          · exact absurd ⟨hlt, .inr hl⟩ hc
          · omega
        · exact g3 j (by omega) hlt
theorem geti_sorted {D : List Int} (h : D.Pairwise (· < ·)) {i j : Nat} (hij : i < j) (hj : j < D.length) : geti D i < geti D j := by
  have := List.pairwise_iff_getElem.1 h i j (by omega) hj hij
  rw [geti_eq (by omega : i < D.length), geti_eq hj] at *
  exact this
def lowOf (D : List Int) (k : Nat) : Int := if k = 0 then -1 else geti D (k - 1)
theorem minAbove_next {l D : List Int} (hs : D.Pairwise (· < ·)) (hm : ∀ x, x ∈ D ↔ x ∈ l) (h0 : ∀ x ∈ l, 0 ≤ x) {k : Nat} (hk : k ≤ D.length) :
    minAbove l (lowOf D k) l.length = if k < D.length then geti D k else -1 := by
  have hsp := minAbove_spec (lo := lowOf D k) h0 l.length (Nat.le_refl _)
  have hlow : ∀ i, i < D.length → (lowOf D k < geti D i ↔ k ≤ i) := fun i hi => by
    have hi0 := h0 _ ((hm _).1 (geti_mem hi))
    unfold lowOf
    by_cases hk0 : k = 0
    · rw [if_pos hk0]; constructor <;> intro <;> omega
    · rw [if_neg hk0]
      by_cases hlt : k - 1 < i
      · have := geti_sorted hs hlt hi
        constructor <;> intro <;> omega
      · have : geti D i ≤ geti D (k - 1) := by
          by_cases e : i = k - 1
          · rw [e]; exact Int.le_refl _
          · exact Int.le_of_lt (geti_sorted hs (by omega) (by omega))
        constructor <;> intro <;> omega
  by_cases hkl : k < D.length
  · rw [if_pos hkl]
    have hkm := (hm _).1 (geti_mem hkl)
    obtain ⟨jk, hjk, ejk⟩ := List.getElem_of_mem hkm
    rw [← geti_eq hjk] at ejk
    have hgt := (hlow k hkl).2 (Nat.le_refl _)
    rcases hsp with ⟨e1, h1⟩ | ⟨g0, g1, ⟨j0, hj0, e0⟩, g3⟩
    · have := h1 jk hjk; omega
    · have ha := g3 jk hjk (by omega)
      have hmm := (hm _).2 (geti_mem hj0)
      rw [← e0] at hmm
      obtain ⟨i0, hi0, ei0⟩ := List.getElem_of_mem hmm
      rw [← geti_eq hi0] at ei0
      have hki := (hlow i0 hi0).1 (by omega)
      by_cases e : k = i0
      · subst e; omega
      · have := geti_sorted hs (show k < i0 by omega) hi0; omega
  · rw [if_neg hkl]
    rcases hsp with ⟨e1, h1⟩ | ⟨g0, g1, ⟨j0, hj0, e0⟩, g3⟩
    · exact e1
    · have hmm := (hm _).2 (geti_mem hj0)
      rw [← e0] at hmm
      obtain ⟨i0, hi0, ei0⟩ := List.getElem_of_mem hmm
      rw [← geti_eq hi0] at ei0
      have := (hlow i0 hi0).1 (by omega)
      omega
end Go.Proofs.Ytjkfgldmeenmjaa
