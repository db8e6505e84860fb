/- The different numbers of a list in increasing order, as the program and as the reference find them. No conditions. -/
import Derived.Lib.SlicesCompact
import Derived.Test.YtikdbjaimcciiaaGreatMLib
import Derived.Test.YtikdbjaimcciiaaGreatRowv
namespace Go.Proofs.YtikdbjaimcciiaaGreat
open Go.RowKit
set_option linter.unusedVariables false
set_option linter.unusedSimpArgs false

theorem compact_sorted (d : Array Int) (hs : ∀ i j, i ≤ j → j < d.size → d[i]! ≤ d[j]!) : ∀ m, m ≤ d.size →
    (Go.Lib.compactUpTo d m).Pairwise (· < ·) ∧ (∀ x ∈ Go.Lib.compactUpTo d m, ∃ j, j < m ∧ x = d[j]!) ∧ ∀ j, j < m → d[j]! ∈ Go.Lib.compactUpTo d m
  | 0, _ => by
    have : Go.Lib.compactUpTo d 0 = [] := by simp [Go.Lib.compactUpTo]
    rw [this]
    exact ⟨List.Pairwise.nil, by simp, fun j hj => by omega⟩
  | m + 1, hm => by
    obtain ⟨h1, h2, h3⟩ := compact_sorted d hs m (by omega)
    rw [Go.Lib.compactUpTo_succ]
    by_cases hk : Go.Lib.keeps d m = true
    · rw [if_pos hk]
      refine ⟨?_, ?_, ?_⟩
      · rw [List.pairwise_append]
        refine ⟨h1, List.pairwise_singleton _ _, fun x hx y hy => ?_⟩
        obtain rfl := List.mem_singleton.1 hy
        obtain ⟨j, hj, rfl⟩ := h2 x hx
        have hne : d[m]! ≠ d[m - 1]! := by
          intro e
          rw [Go.Lib.keeps_neg (by omega) e] at hk
          cases hk
        have ha := hs j (m - 1) (by omega) (by omega)
        have hb := hs (m - 1) m (by omega) (by omega)
        omega
      · intro x hx
        rcases List.mem_append.1 hx with hx | hx
        · obtain ⟨j, hj, e⟩ := h2 x hx; exact ⟨j, by omega, e⟩
        · exact ⟨m, by omega, List.mem_singleton.1 hx⟩
      · intro j hj
        by_cases e : j = m
        · subst e; exact List.mem_append.2 (.inr (List.mem_singleton.2 rfl))
        · exact List.mem_append.2 (.inl (h3 j (by omega)))
    · rw [if_neg hk, List.append_nil]
      have hm0 : m ≠ 0 := fun e => hk (by subst e; exact Go.Lib.keeps_lt_one d 0 (by omega))
      have he : d[m]! = d[m - 1]! := Classical.byContradiction fun hne => hk (Go.Lib.keeps_pos hne)
      refine ⟨h1, fun x hx => ?_, fun j hj => ?_⟩
      · obtain ⟨j, hj, e⟩ := h2 x hx; exact ⟨j, by omega, e⟩
      · by_cases e : j = m
        · subst e; rw [he]; exact h3 _ (by omega)
        · exact h3 j (by omega)

def diffI (l : List Int) : List Int := Go.Lib.compact (l.mergeSort fun x y => decide (x ≤ y))
theorem diffI_sort (l : List Int) : (diffI l).Pairwise (· < ·) ∧ ∀ x, x ∈ diffI l ↔ x ∈ l := by
  have hp := List.pairwise_mergeSort (le := fun x y : Int => decide (x ≤ y)) (fun a b c h1 h2 => by simp at *; omega) (fun a b => by simp; omega) l
  have hm : ∀ x, x ∈ (l.mergeSort fun x y => decide (x ≤ y)) ↔ x ∈ l := fun x => List.mem_mergeSort
  unfold diffI Go.Lib.compact
  generalize (l.mergeSort fun x y => decide (x ≤ y)) = z at hp hm
  have hs : ∀ i j, i ≤ j → j < z.toArray.size → z.toArray[i]! ≤ z.toArray[j]! := fun i j hij hj => by
    have hj' : j < z.length := by simpa using hj
    rw [getElem!_pos _ i (by simpa using (show i < z.length by omega)), getElem!_pos _ j hj]
    simp only [List.getElem_toArray]
    by_cases e : i = j
    · subst e; exact Int.le_refl _
    · have := List.pairwise_iff_getElem.1 hp i j (by omega) hj' (by omega)
      simpa using this
  obtain ⟨h1, h2, h3⟩ := compact_sorted z.toArray hs z.length (by simp)
  refine ⟨h1, fun x => ?_⟩
  rw [← hm]
  constructor
  · intro hx
    obtain ⟨j, hj, rfl⟩ := h2 x hx
    rw [getElem!_pos _ j (by simpa using hj)]
    simp
  · intro hx
    obtain ⟨j, hj, rfl⟩ := List.getElem_of_mem hx
    have := h3 j hj
    rw [getElem!_pos _ j (by simpa using hj)] at this
    simpa using this

def minAbove (l : List Int) (lo : Int) : Nat → Int
  | 0 => -1
  | i + 1 => if lo < geti l i ∧ (minAbove l lo i < 0 ∨ geti l i < minAbove l lo i) then geti l i else minAbove l lo i
theorem minAbove_spec {l : List Int} {lo : Int} (h0 : ∀ x ∈ l, 0 ≤ x) : ∀ i, i ≤ l.length →
    (minAbove l lo i = -1 ∧ ∀ j, j < i → geti l j ≤ lo) ∨ (0 ≤ minAbove l lo i ∧ lo < minAbove l lo i ∧ (∃ j, j < i ∧ minAbove l lo i = geti l j) ∧ ∀ j, j < i → lo < geti l j → minAbove l lo i ≤ geti l j)
  | 0, _ => .inl ⟨rfl, fun j hj => by omega⟩
  | i + 1, hi => by
    have ih := minAbove_spec (lo := lo) h0 i (by omega)
    have hx := h0 _ (geti_mem (show i < l.length by omega))
    unfold minAbove
    by_cases hc : lo < geti l i ∧ (minAbove l lo i < 0 ∨ geti l i < minAbove l lo i)
    · rw [if_pos hc]
      right
      refine ⟨hx, hc.1, ⟨i, by omega, rfl⟩, fun j hj hlt => ?_⟩
      by_cases e : j = i
      · subst e; exact Int.le_refl _
      · rcases ih with ⟨e1, h1⟩ | ⟨g0, g1, g2, g3⟩
        · have := h1 j (by omega); omega
        · have := g3 j (by omega) hlt
          rcases hc.2 with h | h <;> omega
    · rw [if_neg hc]
      rcases ih with ⟨e1, h1⟩ | ⟨g0, g1, ⟨j0, hj0, e0⟩, g3⟩
      · left
        refine ⟨e1, fun j hj => ?_⟩
        by_cases e : j = i
        · subst e
          by_cases hl : lo < geti l j
          · exact absurd ⟨hl, .inl (by omega)⟩ hc
          · omega
        · exact h1 j (by omega)
      · right
        refine ⟨g0, g1, ⟨j0, by omega, e0⟩, fun j hj hlt => ?_⟩
        by_cases e : j = i
        · subst e
          by_cases hl : geti l j < minAbove l lo j
          · exact absurd ⟨hlt, .inr hl⟩ hc
          · omega
        · exact g3 j (by omega) hlt
theorem geti_sorted {D : List Int} (h : D.Pairwise (· < ·)) {i j : Nat} (hij : i < j) (hj : j < D.length) : geti D i < geti D j := by
  have := List.pairwise_iff_getElem.1 h i j (by omega) hj hij
  rw [geti_eq (by omega : i < D.length), geti_eq hj] at *
  exact this
def lowOf (D : List Int) (k : Nat) : Int := if k = 0 then -1 else geti D (k - 1)
theorem minAbove_next {l D : List Int} (hs : D.Pairwise (· < ·)) (hm : ∀ x, x ∈ D ↔ x ∈ l) (h0 : ∀ x ∈ l, 0 ≤ x) {k : Nat} (hk : k ≤ D.length) :
    minAbove l (lowOf D k) l.length = if k < D.length then geti D k else -1 := by
  have hsp := minAbove_spec (lo := lowOf D k) h0 l.length (Nat.le_refl _)
  have hlow : ∀ i, i < D.length → (lowOf D k < geti D i ↔ k ≤ i) := fun i hi => by
    have hi0 := h0 _ ((hm _).1 (geti_mem hi))
    unfold lowOf
    by_cases hk0 : k = 0
    · rw [if_pos hk0]; constructor <;> intro <;> omega
    · rw [if_neg hk0]
      by_cases hlt : k - 1 < i
      · have := geti_sorted hs hlt hi
        constructor <;> intro <;> omega
      · have : geti D i ≤ geti D (k - 1) := by
          by_cases e : i = k - 1
          · rw [e]; exact Int.le_refl _
          · exact Int.le_of_lt (geti_sorted hs (by omega) (by omega))
        constructor <;> intro <;> omega
  by_cases hkl : k < D.length
  · rw [if_pos hkl]
    have hkm := (hm _).1 (geti_mem hkl)
    obtain ⟨jk, hjk, ejk⟩ := List.getElem_of_mem hkm
    rw [← geti_eq hjk] at ejk
    have hgt := (hlow k hkl).2 (Nat.le_refl _)
    rcases hsp with ⟨e1, h1⟩ | ⟨g0, g1, ⟨j0, hj0, e0⟩, g3⟩
    · have := h1 jk hjk; omega
    · have ha := g3 jk hjk (by omega)
      have hmm := (hm _).2 (geti_mem hj0)
      rw [← e0] at hmm
      obtain ⟨i0, hi0, ei0⟩ := List.getElem_of_mem hmm
      rw [← geti_eq hi0] at ei0
      have hki := (hlow i0 hi0).1 (by omega)
      by_cases e : k = i0
      · subst e; omega
      · have := geti_sorted hs (show k < i0 by omega) hi0; omega
  · rw [if_neg hkl]
    rcases hsp with ⟨e1, h1⟩ | ⟨g0, g1, ⟨j0, hj0, e0⟩, g3⟩
    · exact e1
    · have hmm := (hm _).2 (geti_mem hj0)
      rw [← e0] at hmm
      obtain ⟨i0, hi0, ei0⟩ := List.getElem_of_mem hmm
      rw [← geti_eq hi0] at ei0
      have := (hlow i0 hi0).1 (by omega)
      omega
end Go.Proofs.YtikdbjaimcciiaaGreat

namespace Go.Proofs.YtikdbjaimcciiaaGreat
open Go.RowKit
set_option linter.unusedVariables false
set_option linter.unusedSimpArgs false

theorem sorted_ext : ∀ {a b : List Int}, a.Pairwise (· < ·) → b.Pairwise (· < ·) → (∀ x, x ∈ a ↔ x ∈ b) → a = b
  | [], [], _, _, _ => rfl
  | [], y :: b, _, _, h => by have := (h y).2 (List.mem_cons_self ..); cases this
  | x :: a, [], _, _, h => by have := (h x).1 (List.mem_cons_self ..); cases this
  | x :: a, y :: b, ha, hb, h => by
    rw [List.pairwise_cons] at ha hb
    have hxy : x = y := by
      rcases List.mem_cons.1 ((h x).1 (List.mem_cons_self ..)) with e | e
      · exact e
      · rcases List.mem_cons.1 ((h y).2 (List.mem_cons_self ..)) with e2 | e2
        · exact e2.symm
        · have := ha.1 y e2; have := hb.1 x e; omega
    subst hxy
    congr 1
    refine sorted_ext ha.2 hb.2 fun z => ⟨fun hz => ?_, fun hz => ?_⟩
    · rcases List.mem_cons.1 ((h z).1 (List.mem_cons_of_mem _ hz)) with e | e
      · subst e; have := ha.1 z hz; omega
      · exact e
    · rcases List.mem_cons.1 ((h z).2 (List.mem_cons_of_mem _ hz)) with e | e
      · subst e; have := hb.1 z hz; omega
      · exact e

/-- Cut i of each key. -/
def colOf (keys : List (List Int)) (i : Nat) : List Int := keys.map fun k => geti k i
theorem colOf_len (keys : List (List Int)) (i : Nat) : (colOf keys i).length = keys.length := by simp [colOf]
theorem colOf_take {keys : List (List Int)} {i k : Nat} (h : k < keys.length) : (colOf keys i).take (k + 1) = (colOf keys i).take k ++ [geti (getl keys k) i] := by
  rw [take_geti (by rw [colOf_len]; exact h)]
  congr 2
  rw [geti_eq (by rw [colOf_len]; exact h)]
  simp [colOf, getl_eq h]
/-- The sets of the first n chambers. -/
def hullR (keys : List (List Int)) : Nat → List (List Int)
  | 0 => []
  | n + 1 => hullR keys n ++ [diffI (colOf keys n)]
theorem hullR_len (keys : List (List Int)) : ∀ n, (hullR keys n).length = n
  | 0 => rfl
  | n + 1 => by simp [hullR, hullR_len keys n]
theorem hullR_get {keys : List (List Int)} : ∀ {n i : Nat}, i < n → getl (hullR keys n) i = diffI (colOf keys i)
  | n + 1, i, h => by
    by_cases e : i = n
    · subst e
      have := hullR_len keys i
      rw [hullR]
      conv => lhs; rw [show i = (hullR keys i).length from this.symm]
      rw [hullR_len]
      unfold getl
      rw [List.getD_eq_getElem?_getD, List.getElem?_append_right (by omega)]
      simp [this]
    · rw [hullR, getl_append1 (by rw [hullR_len]; omega)]
      exact hullR_get (by omega)
/-- One of the first k keys has cut d in chamber i. -/
def isCut (keys : List (List Int)) (i : Nat) (d : Int) : Nat → Bool
  | 0 => false
  | k + 1 => isCut keys i d k || decide (geti (getl keys k) i = d)
theorem isCut_iff {keys : List (List Int)} {i : Nat} {d : Int} : ∀ {k}, isCut keys i d k = true ↔ ∃ j, j < k ∧ geti (getl keys j) i = d
  | 0 => by simp [isCut]
  | k + 1 => by
    simp only [isCut, Bool.or_eq_true, decide_eq_true_eq, isCut_iff (k := k)]
    constructor
    · rintro (⟨j, h1, h2⟩ | h)
      · exact ⟨j, by omega, h2⟩
      · exact ⟨k, by omega, h⟩
    · rintro ⟨j, h1, h2⟩
      by_cases e : j = k
      · subst e; exact .inr h2
      · exact .inl ⟨j, by omega, h2⟩
/-- The depths below D that some key has in chamber i. -/
def dset (keys : List (List Int)) (i : Nat) : Nat → List Int
  | 0 => []
  | d + 1 => if isCut keys i d keys.length = true then dset keys i d ++ [(d : Int)] else dset keys i d
theorem dset_len (keys : List (List Int)) (i : Nat) : ∀ d, (dset keys i d).length ≤ d
  | 0 => Nat.le_refl _
  | d + 1 => by have := dset_len keys i d; unfold dset; split <;> simp <;> omega
theorem mem_dset {keys : List (List Int)} {i : Nat} {x : Int} : ∀ {D}, x ∈ dset keys i D ↔ 0 ≤ x ∧ x < D ∧ ∃ j, j < keys.length ∧ geti (getl keys j) i = x
  | 0 => by simp [dset]; intros; omega
  | D + 1 => by
    unfold dset
    split
    · rename_i h
      rw [List.mem_append, mem_dset]
      constructor
      · rintro (⟨h1, h2, h3⟩ | h1)
        · exact ⟨h1, by omega, h3⟩
        · simp at h1; subst h1; exact ⟨by omega, by omega, isCut_iff.1 h⟩
      · rintro ⟨h1, h2, h3⟩
        by_cases e : x = D
        · subst e; right; simp
        · exact .inl ⟨h1, by omega, h3⟩
    · rename_i h
      rw [mem_dset]
      constructor
      · rintro ⟨h1, h2, h3⟩; exact ⟨h1, by omega, h3⟩
      · rintro ⟨h1, h2, h3⟩
        refine ⟨h1, ?_, h3⟩
        by_cases e : x = D
        · subst e; exact absurd (isCut_iff.2 h3) h
        · omega
theorem dset_sorted (keys : List (List Int)) (i : Nat) : ∀ D, (dset keys i D).Pairwise (· < ·)
  | 0 => List.Pairwise.nil
  | D + 1 => by
    unfold dset
    split
    · rw [List.pairwise_append]
      refine ⟨dset_sorted keys i D, List.pairwise_singleton _ _, fun x hx y hy => ?_⟩
      obtain rfl := List.mem_singleton.1 hy
      exact (mem_dset.1 hx).2.1
    · exact dset_sorted keys i D
theorem dset_eq {keys : List (List Int)} {i D : Nat} (h : ∀ j, j < keys.length → 0 ≤ geti (getl keys j) i ∧ geti (getl keys j) i < D) : dset keys i D = diffI (colOf keys i) := by
  obtain ⟨h1, h2⟩ := diffI_sort (colOf keys i)
  refine sorted_ext (dset_sorted _ _ _) h1 fun x => ?_
  rw [h2, mem_dset]
  unfold colOf
  rw [List.mem_map]
  constructor
  · rintro ⟨_, _, j, hj, rfl⟩; exact ⟨_, getl_mem hj, rfl⟩
  · rintro ⟨k, hk, rfl⟩
    obtain ⟨j, hj, rfl⟩ := List.getElem_of_mem hk
    rw [← getl_eq hj]
    exact ⟨(h j hj).1, (h j hj).2, j, hj, rfl⟩

/-- The cuts among the first k rows that open door d. -/
def doorCuts (t cuts : List (List Int)) (d : Nat) : Nat → List (List Int)
  | 0 => []
  | k + 1 => if geti (getl t k) d = 1 then doorCuts t cuts d k ++ [getl cuts k] else doorCuts t cuts d k
theorem doorCuts_len (t cuts : List (List Int)) (d : Nat) : ∀ k, (doorCuts t cuts d k).length ≤ k
  | 0 => Nat.le_refl _
  | k + 1 => by have := doorCuts_len t cuts d k; unfold doorCuts; split <;> simp <;> omega
theorem doorCuts_map (t cuts : List (List Int)) (d : Nat) : ∀ k, doorCuts t cuts d k = (rowsF t d k).map fun x => getl cuts x.toNat
  | 0 => rfl
  | k + 1 => by
    rw [doorCuts, rowsF, doorCuts_map t cuts d k]
    split
    · simp
    · rfl
theorem mem_doorCuts {t cuts : List (List Int)} {d k : Nat} {x : List Int} (h : x ∈ doorCuts t cuts d k) : ∃ i, i < k ∧ x = getl cuts i ∧ geti (getl t i) d = 1 := by
  rw [doorCuts_map, List.mem_map] at h
  obtain ⟨y, hy, rfl⟩ := h
  obtain ⟨i, h1, rfl, h2⟩ := mem_rowsF.1 hy
  exact ⟨i, h1, by simp, h2⟩
/-- Of the rows rs, the cuts of those below n. -/
def cutsAt (cuts : List (List Int)) (n : Nat) (rs : List Int) : List (List Int) := (rs.filter fun x => decide (x < (n : Int))).map fun x => getl cuts x.toNat
theorem cutsAt_len (cuts : List (List Int)) (n : Nat) (rs : List Int) : (cutsAt cuts n rs).length ≤ rs.length := by
  unfold cutsAt; rw [List.length_map]; exact List.length_filter_le _ _
theorem cutsAt_step {cuts : List (List Int)} {n j : Nat} {rs : List Int} (h : j < rs.length) : cutsAt cuts n (rs.take (j + 1)) = cutsAt cuts n (rs.take j) ++ if geti rs j < n then [getl cuts (geti rs j).toNat] else [] := by
  unfold cutsAt
  rw [take_geti h, List.filter_append, List.map_append]
  congr 1
  split <;> simp_all
theorem cutsAt_all {t cuts : List (List Int)} {d n : Nat} : ∀ {k}, cutsAt cuts n (rowsF t d k) = doorCuts t cuts d (min k n)
  | 0 => by simp [cutsAt, rowsF, doorCuts]
  | k + 1 => by
    have ih := cutsAt_all (t := t) (cuts := cuts) (d := d) (n := n) (k := k)
    unfold cutsAt at ih ⊢
    rw [rowsF]
    by_cases hk : k < n
    · rw [show min (k + 1) n = min k n + 1 from by omega, doorCuts, ← ih, show min k n = k from by omega]
      split
      · rw [List.filter_append, List.map_append]; simp [hk]
      · rfl
    · rw [show min (k + 1) n = min k n from by omega, ← ih]
      split
      · rw [List.filter_append, List.map_append]; simp; omega
      · rfl
/-- The lock of door d, and all locks. -/
def lockR (n : Nat) (t cuts : List (List Int)) (d : Nat) : List (List Int) := hullR (doorCuts t cuts d cuts.length) n
def locksTo (n : Nat) (t cuts : List (List Int)) : Nat → List (List (List Int))
  | 0 => []
  | d + 1 => locksTo n t cuts d ++ [lockR n t cuts d]
theorem locksTo_len (n : Nat) (t cuts : List (List Int)) : ∀ d, (locksTo n t cuts d).length = d
  | 0 => rfl
  | d + 1 => by simp [locksTo, locksTo_len n t cuts d]
theorem getll_append1 {ls : List (List (List Int))} {l : List (List Int)} {k : Nat} (h : k < ls.length) : getll (ls ++ [l]) k = getll ls k := by
  simp [getll, List.getElem?_append_left h]
theorem getll_last {ls : List (List (List Int))} {l : List (List Int)} : getll (ls ++ [l]) ls.length = l := by
  unfold getll; simp
theorem locksTo_get {n : Nat} {t cuts : List (List Int)} : ∀ {D d : Nat}, d < D → getll (locksTo n t cuts D) d = lockR n t cuts d
  | D + 1, d, h => by
    have hl := locksTo_len n t cuts D
    by_cases e : d = D
    · subst e
      rw [locksTo]
      unfold getll
      rw [List.getD_eq_getElem?_getD, List.getElem?_append_right (by omega)]
      simp [hl]
    · rw [locksTo, getll_append1 (by omega)]
      exact locksTo_get (by omega)
/-- A lock of sets l is opened by cuts. -/
def opensB (l : List (List Int)) (cuts : List Int) : Bool := upAll (fun i => hasI (getl l i) (geti cuts i)) cuts.length 0
theorem opensB_iff {l : List (List Int)} {cuts : List Int} : opensB l cuts = true ↔ ∀ i, i < cuts.length → geti cuts i ∈ getl l i := by
  unfold opensB; rw [upAll_iff]
  simp only [hasI_iff]
end Go.Proofs.YtikdbjaimcciiaaGreat
