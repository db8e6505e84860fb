/- The first false opening of partial cuts: plain facts. No conditions. -/
import Derived.Test.YtjkfgldmeenmjaaShortO
import Derived.Test.YtjkfgldmeenmjaaMLocks
import Derived.Test.YtjkfgldmeenmjaaRowsR
namespace Go.Proofs.Ytjkfgldmeenmjaa
open Go.RowKit
set_option linter.unusedVariables false
set_option linter.unusedSimpArgs false

/-- The first false opening, or 4. -/
def firstPair (L : List (List Int)) : Int × Int × Int := if L.length = 0 then (0, 0, 4) else (geti (getl L 0) 0, geti (getl L 0) 1, 0)
def pfAns (m : Mk) (t cuts : List (List Int)) : Int × Int × Int := if partC m t cuts ≠ 0 then (0, 0, partC m t cuts) else firstPair (falseL m.c.toNat t cuts)
theorem falseL_get {n : Nat} {t cuts : List (List Int)} {k : Nat} (hk : k < (falseL n t cuts).length) : ∃ i d : Nat, i < cuts.length ∧ d < (getl t 0).length ∧ getl (falseL n t cuts) k = [(i : Int), (d : Int)] ∧ geti (getl t i) d = 0 ∧ opensB (lockR n t cuts d) (getl cuts i) = true := by
  obtain ⟨i, d, h1, h2, h3, h4, h5⟩ := mem_falseRows.1 (getl_mem hk)
  rw [locksTo_get h2] at h5
  exact ⟨i, d, h1, h2, h3, h4, h5⟩
/-- A false opening has a reason. -/
theorem false_reason {n : Nat} {t cuts : List (List Int)} {i d : Nat} (hlen : (getl cuts i).length = n) (ho : opensB (lockR n t cuts d) (getl cuts i) = true) : allR (reasRows t cuts i d n) ≠ [] := by
  have hne : ∀ c, c < n → 0 < (reasRow t cuts i d c cuts.length).length := fun c hc => by
    have h1 := opensB_iff.1 ho c (by omega)
    rw [lockR, hullR_get hc] at h1
    have h2 := ((diffI_sort _).2 _).1 h1
    unfold colOf at h2
    obtain ⟨k, hk, e⟩ := List.mem_map.1 h2
    obtain ⟨j, hj, rfl, hj1⟩ := mem_doorCuts hk
    exact List.length_pos_of_mem (mem_reasRow.2 ⟨j, hj, rfl, hj1, e⟩)
  intro hnil
  have : ((List.range n).map fun c => geti (reasRow t cuts i d c cuts.length) 0) ∈ allR (reasRows t cuts i d n) := by
    refine mem_allR.2 ⟨by simp [reasRows_len], fun k hk => ?_⟩
    rw [reasRows_len] at hk
    rw [reasRows_get hk, geti_eq (by simpa using hk)]
    simp only [List.getElem_map, List.getElem_range]
    exact geti_mem (hne k hk)
  rw [hnil] at this
  cases this
theorem false_best {n : Nat} {t cuts : List (List Int)} {i d N : Nat} (hlen : (getl cuts i).length = n) (ho : opensB (lockR n t cuts d) (getl cuts i) = true) : ∃ b, bestW N (allR (reasRows t cuts i d n)) = some b := by
  cases h : bestW N (allR (reasRows t cuts i d n)) with
  | none => exact absurd (bestW_none.1 h) (false_reason hlen ho)
  | some b => exact ⟨b, rfl⟩
/-- The blamed rows. -/
def blameAns (m : Mk) (t cuts : List (List Int)) : List Int × Int :=
  if (pfAns m t cuts).2.2 ≠ 0 then ([], (pfAns m t cuts).2.2) else
    (diffI ((bestW (reasRows t cuts (pfAns m t cuts).1.toNat (pfAns m t cuts).2.1.toNat m.c.toNat).length (allR (reasRows t cuts (pfAns m t cuts).1.toNat (pfAns m t cuts).2.1.toNat m.c.toNat))).getD [] ++ [(pfAns m t cuts).1]), 0)
/-- What is known where there is a false opening. -/
theorem pf_ok {m : Mk} {t cuts : List (List Int)} (h : (pfAns m t cuts).2.2 = 0) : partC m t cuts = 0 ∧ ∃ i d : Nat, i < cuts.length ∧ d < (getl t 0).length ∧ pfAns m t cuts = ((i : Int), (d : Int), 0) ∧ opensB (lockR m.c.toNat t cuts d) (getl cuts i) = true := by
  unfold pfAns at h ⊢
  by_cases hp : partC m t cuts = 0
  · rw [if_neg (by rw [hp]; decide)] at h ⊢
    refine ⟨hp, ?_⟩
    unfold firstPair at h ⊢
    by_cases hl : (falseL m.c.toNat t cuts).length = 0
    · rw [if_pos hl] at h; exact absurd h (by decide)
    · rw [if_neg hl]
      obtain ⟨i, d, h1, h2, h3, h4, h5⟩ := falseL_get (k := 0) (Nat.pos_of_ne_zero hl)
      exact ⟨i, d, h1, h2, by rw [h3]; rfl, h5⟩
  · rw [if_pos hp] at h; exact absurd h hp
theorem blameAns_len (m : Mk) (t cuts : List (List Int)) : (blameAns m t cuts).1.length ≤ 1048576 := by
  unfold blameAns
  split
  · simp
  · rename_i hp
    obtain ⟨hpc, i, d, hi, hd, he, ho⟩ := pf_ok (Classical.not_not.1 hp)
    have hf := fits_of hpc
    have hmk := Mk.ok_iff.1 hf.ok
    rw [he]
    simp only [Int.toNat_natCast]
    have hR := reasRows_ok (t := t) (cuts := cuts) (key := i) (door := d) (n := m.c.toNat) (by have := hf.few; have := hf.rows; omega)
    obtain ⟨b, hb⟩ := false_best (N := (reasRows t cuts i d m.c.toNat).length) (by have := hf.lens i hi; omega) ho
    rw [hb]
    have h2 := (allR_dig hR (bestW_some hb).1).2
    rw [reasRows_len] at h2
    exact Nat.le_trans (diffI_len _ (by simp; omega)) (by omega)
end Go.Proofs.Ytjkfgldmeenmjaa
