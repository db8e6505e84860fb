/- Plain lists: the hull of keys, the locks of doors, what opens them. No program here. No conditions. -/
import Derived.Test.YtjkfgldmeenmjaaDiff
import Derived.Test.YtjkfgldmeenmjaaRowv
namespace Go.Proofs.Ytjkfgldmeenmjaa
open Go.RowKit
set_option linter.unusedVariables false
set_option linter.unusedSimpArgs false

theorem sorted_ext : ∀ {a b : List Int}, a.Pairwise (· < ·) → b.Pairwise (· < ·) → (∀ x, x ∈ a ↔ x ∈ b) → a = b
  | [], [], _, _, _ => rfl
  | [], y :: b, _, _, h => by have := (h y).2 (List.mem_cons_self ..); cases this
  | x :: a, [], _, _, h => by have := (h x).1 (List.mem_cons_self ..); cases this
  | x :: a, y :: b, ha, hb, h => by
    rw [List.pairwise_cons] at ha hb
    have hxy : x = y := by
      rcases List.mem_cons.1 ((h x).1 (List.mem_cons_self ..)) with e | e
      · exact e
      · rcases List.mem_cons.1 ((h y).2 (List.mem_cons_self ..)) with e2 | e2
        · exact e2.symm
        · have := ha.1 y e2; have := hb.1 x e; omega
    subst hxy
    congr 1
    refine sorted_ext ha.2 hb.2 fun z => ⟨fun hz => ?_, fun hz => ?_⟩
    · rcases List.mem_cons.1 ((h z).1 (List.mem_cons_of_mem _ hz)) with e | e
      · subst e; have := ha.1 z hz; omega
      · exact e
    · rcases List.mem_cons.1 ((h z).2 (List.mem_cons_of_mem _ hz)) with e | e
      · subst e; have := hb.1 z hz; omega
      · exact e

/-- Cut i of each key. -/
def colOf (keys : List (List Int)) (i : Nat) : List Int := keys.map fun k => geti k i
theorem colOf_len (keys : List (List Int)) (i : Nat) : (colOf keys i).length = keys.length := by simp [colOf]
theorem colOf_take {keys : List (List Int)} {i k : Nat} (h : k < keys.length) : (colOf keys i).take (k + 1) = (colOf keys i).take k ++ [geti (getl keys k) i] := by
  rw [take_geti (by rw [colOf_len]; exact h)]
  congr 2
  rw [geti_eq (by rw [colOf_len]; exact h)]
  simp [colOf, getl_eq h]
/-- The sets of the first n chambers. -/
def hullR (keys : List (List Int)) : Nat → List (List Int)
  | 0 => []
  | n + 1 => hullR keys n ++ [diffI (colOf keys n)]
theorem hullR_len (keys : List (List Int)) : ∀ n, (hullR keys n).length = n
  | 0 => rfl
  | n + 1 => by simp [hullR, hullR_len keys n]
theorem hullR_get {keys : List (List Int)} : ∀ {n i : Nat}, i < n → getl (hullR keys n) i = diffI (colOf keys i)
  | n + 1, i, h => by
    by_cases e : i = n
    · subst e
      have := hullR_len keys i
      rw [hullR]
      conv => lhs; rw [show i = (hullR keys i).length from this.symm]
      rw [hullR_len]
      unfold getl
      rw [List.getD_eq_getElem?_getD, List.getElem?_append_right (by omega)]
      simp [this]
    · rw [hullR, getl_append1 (by rw [hullR_len]; omega)]
      exact hullR_get (by omega)
/-- One of the first k keys has cut d in chamber i. -/
def isCut (keys : List (List Int)) (i : Nat) (d : Int) : Nat → Bool
  | 0 => false
  | k + 1 => isCut keys i d k || decide (geti (getl keys k) i = d)
theorem isCut_iff {keys : List (List Int)} {i : Nat} {d : Int} : ∀ {k}, isCut keys i d k = true ↔ ∃ j, j < k ∧ geti (getl keys j) i = d
  | 0 => by simp [isCut]
  | k + 1 => by
    simp only [isCut, Bool.or_eq_true, decide_eq_true_eq, isCut_iff (k := k)]
    constructor
    · rintro (⟨j, h1, h2⟩ | h)
      · exact ⟨j, by omega, h2⟩
      · exact ⟨k, by omega, h⟩
    · rintro ⟨j, h1, h2⟩
      by_cases e : j = k
      · subst e; exact .inr h2
      · exact .inl ⟨j, by omega, h2⟩
/-- The depths below D that some key has in chamber i. -/
def dset (keys : List (List Int)) (i : Nat) : Nat → List Int
  | 0 => []
  | d + 1 => if isCut keys i d keys.length = true then dset keys i d ++ [(d : Int)] else dset keys i d
theorem dset_len (keys : List (List Int)) (i : Nat) : ∀ d, (dset keys i d).length ≤ d
  | 0 => Nat.le_refl _
  | d + 1 => by have := dset_len keys i d; unfold dset; split <;> simp <;> omega
theorem mem_dset {keys : List (List Int)} {i : Nat} {x : Int} : ∀ {D}, x ∈ dset keys i D ↔ 0 ≤ x ∧ x < D ∧ ∃ j, j < keys.length ∧ geti (getl keys j) i = x
  | 0 => by simp [dset]; intros; omega
  | D + 1 => by
    unfold dset
    split
    · rename_i h
      rw [List.mem_append, mem_dset]
      constructor
      · rintro (⟨h1, h2, h3⟩ | h1)
        · exact ⟨h1, by omega, h3⟩
        · simp at h1; subst h1; exact ⟨by omega, by omega, isCut_iff.1 h⟩
      · rintro ⟨h1, h2, h3⟩
        by_cases e : x = D
        · subst e; right; simp
        · exact .inl ⟨h1, by omega, h3⟩
    · rename_i h
      rw [mem_dset]
      constructor
      · rintro ⟨h1, h2, h3⟩; exact ⟨h1, by omega, h3⟩
      · rintro ⟨h1, h2, h3⟩
        refine ⟨h1, ?_, h3⟩
        by_cases e : x = D
        · subst e; exact absurd (isCut_iff.2 h3) h
        · omega
theorem dset_sorted (keys : List (List Int)) (i : Nat) : ∀ D, (dset keys i D).Pairwise (· < ·)
  | 0 => List.Pairwise.nil
  | D + 1 => by
    unfold dset
    split
    · rw [List.pairwise_append]
      refine ⟨dset_sorted keys i D, List.pairwise_singleton _ _, fun x hx y hy => ?_⟩
      obtain rfl := List.mem_singleton.1 hy
      exact (mem_dset.1 hx).2.1
    · exact dset_sorted keys i D
theorem dset_eq {keys : List (List Int)} {i D : Nat} (h : ∀ j, j < keys.length → 0 ≤ geti (getl keys j) i ∧ geti (getl keys j) i < D) : dset keys i D = diffI (colOf keys i) := by
  obtain ⟨h1, h2⟩ := diffI_sort (colOf keys i)
  refine sorted_ext (dset_sorted _ _ _) h1 fun x => ?_
  rw [h2, mem_dset]
  unfold colOf
  rw [List.mem_map]
  constructor
  · rintro ⟨_, _, j, hj, rfl⟩; exact ⟨_, getl_mem hj, rfl⟩
  · rintro ⟨k, hk, rfl⟩
    obtain ⟨j, hj, rfl⟩ := List.getElem_of_mem hk
    rw [← getl_eq hj]
    exact ⟨(h j hj).1, (h j hj).2, j, hj, rfl⟩

/-- The cuts among the first k rows that open door d. -/
def doorCuts (t cuts : List (List Int)) (d : Nat) : Nat → List (List Int)
  | 0 => []
  | k + 1 => if geti (getl t k) d = 1 then doorCuts t cuts d k ++ [getl cuts k] else doorCuts t cuts d k
theorem doorCuts_len (t cuts : List (List Int)) (d : Nat) : ∀ k, (doorCuts t cuts d k).length ≤ k
  | 0 => Nat.le_refl _
  | k + 1 => by have := doorCuts_len t cuts d k; unfold doorCuts; split <;> simp <;> omega
theorem doorCuts_map (t cuts : List (List Int)) (d : Nat) : ∀ k, doorCuts t cuts d k = (rowsF t d k).map fun x => getl cuts x.toNat
  | 0 => rfl
  | k + 1 => by
    rw [doorCuts, rowsF, doorCuts_map t cuts d k]
    split
    · simp
    · rfl
theorem mem_doorCuts {t cuts : List (List Int)} {d k : Nat} {x : List Int} (h : x ∈ doorCuts t cuts d k) : ∃ i, i < k ∧ x = getl cuts i ∧ geti (getl t i) d = 1 := by
  rw [doorCuts_map, List.mem_map] at h
  obtain ⟨y, hy, rfl⟩ := h
  obtain ⟨i, h1, rfl, h2⟩ := mem_rowsF.1 hy
  exact ⟨i, h1, by simp, h2⟩
/-- Of the rows rs, the cuts of those below n. -/
def cutsAt (cuts : List (List Int)) (n : Nat) (rs : List Int) : List (List Int) := (rs.filter fun x => decide (x < (n : Int))).map fun x => getl cuts x.toNat
theorem cutsAt_len (cuts : List (List Int)) (n : Nat) (rs : List Int) : (cutsAt cuts n rs).length ≤ rs.length := by
  unfold cutsAt; rw [List.length_map]; exact List.length_filter_le _ _
theorem cutsAt_step {cuts : List (List Int)} {n j : Nat} {rs : List Int} (h : j < rs.length) : cutsAt cuts n (rs.take (j + 1)) = cutsAt cuts n (rs.take j) ++ if geti rs j < n then [getl cuts (geti rs j).toNat] else [] := by
  unfold cutsAt
  rw [take_geti h, List.filter_append, List.map_append]
  congr 1
  split <;> simp_all
theorem cutsAt_all {t cuts : List (List Int)} {d n : Nat} : ∀ {k}, cutsAt cuts n (rowsF t d k) = doorCuts t cuts d (min k n)
  | 0 => by simp [cutsAt, rowsF, doorCuts]
  | k + 1 => by
    have ih := cutsAt_all (t := t) (cuts := cuts) (d := d) (n := n) (k := k)
    unfold cutsAt at ih ⊢
    rw [rowsF]
    by_cases hk : k < n
    · rw [show min (k + 1) n = min k n + 1 from by omega, doorCuts, ← ih, show min k n = k from by omega]
      split
      · rw [List.filter_append, List.map_append]; simp [hk]
      · rfl
    · rw [show min (k + 1) n = min k n from by omega, ← ih]
      split
      · rw [List.filter_append, List.map_append]; simp; omega
      · rfl
/-- The lock of door d, and all locks. -/
def lockR (n : Nat) (t cuts : List (List Int)) (d : Nat) : List (List Int) := hullR (doorCuts t cuts d cuts.length) n
def locksTo (n : Nat) (t cuts : List (List Int)) : Nat → List (List (List Int))
  | 0 => []
  | d + 1 => locksTo n t cuts d ++ [lockR n t cuts d]
theorem locksTo_len (n : Nat) (t cuts : List (List Int)) : ∀ d, (locksTo n t cuts d).length = d
  | 0 => rfl
  | d + 1 => by simp [locksTo, locksTo_len n t cuts d]
theorem getll_append1 {ls : List (List (List Int))} {l : List (List Int)} {k : Nat} (h : k < ls.length) : getll (ls ++ [l]) k = getll ls k := by
  simp [getll, List.getElem?_append_left h]
theorem getll_last {ls : List (List (List Int))} {l : List (List Int)} : getll (ls ++ [l]) ls.length = l := by
  unfold getll; simp
theorem locksTo_get {n : Nat} {t cuts : List (List Int)} : ∀ {D d : Nat}, d < D → getll (locksTo n t cuts D) d = lockR n t cuts d
  | D + 1, d, h => by
    have hl := locksTo_len n t cuts D
    by_cases e : d = D
    · subst e
      rw [locksTo]
      unfold getll
      rw [List.getD_eq_getElem?_getD, List.getElem?_append_right (by omega)]
      simp [hl]
    · rw [locksTo, getll_append1 (by omega)]
      exact locksTo_get (by omega)
/-- A lock of sets l is opened by cuts. -/
def opensB (l : List (List Int)) (cuts : List Int) : Bool := upAll (fun i => hasI (getl l i) (geti cuts i)) cuts.length 0
theorem opensB_iff {l : List (List Int)} {cuts : List Int} : opensB l cuts = true ↔ ∀ i, i < cuts.length → geti cuts i ∈ getl l i := by
  unfold opensB; rw [upAll_iff]
  simp only [hasI_iff]
end Go.Proofs.Ytjkfgldmeenmjaa
