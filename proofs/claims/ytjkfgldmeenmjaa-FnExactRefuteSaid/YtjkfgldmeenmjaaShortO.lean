/- The short reason: what the program answers. No conditions. -/
import Derived.Test.YtjkfgldmeenmjaaShortI
namespace Go.Proofs.Ytjkfgldmeenmjaa
open Go.RowKit
set_option linter.unusedVariables false
set_option linter.unusedSimpArgs false

theorem reasRow_up (t cuts : List (List Int)) (key door c : Nat) : ∀ k, (reasRow t cuts key door c k).Pairwise (· < ·)
  | 0 => List.Pairwise.nil
  | k + 1 => by
    unfold reasRow
    split
    · rw [List.pairwise_append]
      refine ⟨reasRow_up t cuts key door c k, List.pairwise_singleton _ _, fun x hx y hy => ?_⟩
      obtain rfl := List.mem_singleton.1 hy
      obtain ⟨i, h1, h2, _⟩ := mem_reasRow.1 hx
      omega
    · exact reasRow_up t cuts key door c k
theorem reasRows_ok {t cuts : List (List Int)} {key door n : Nat} (hc : cuts.length ≤ 16) : RowsOk cuts.length (reasRows t cuts key door n) := by
  have he : ∀ k, ¬ k < n → getl (reasRows t cuts key door n) k = [] := fun k hk => by
    unfold getl
    rw [List.getD_eq_getElem?_getD, List.getElem?_eq_none (by rw [reasRows_len]; omega)]
    rfl
  refine ⟨fun k => ?_, fun k x hx => ?_, hc⟩
  · by_cases hk : k < n
    · rw [reasRows_get hk]; exact reasRow_up _ _ _ _ _ _
    · rw [he k hk]; exact List.Pairwise.nil
  · by_cases hk : k < n
    · rw [reasRows_get hk] at hx
      obtain ⟨i, h1, h2, _⟩ := mem_reasRow.1 hx
      omega
    · rw [he k hk] at hx; cases hx
def shortOf (rows : List (List Int)) : List Int × Int := match bestW rows.length (allR rows) with
  | none => ([], 4)
  | some b => (b, 0)
def shortAns (m : Mk) (t cuts : List (List Int)) (key door : Int) : List Int × Int :=
  if reasC m t cuts key door ≠ 0 then ([], reasC m t cuts key door) else shortOf (reasRows t cuts key.toNat door.toNat m.c.toNat)
theorem shortAns_len (m : Mk) (t cuts : List (List Int)) (key door : Int) : (shortAns m t cuts key door).1.length ≤ 1048576 := by
  unfold shortAns
  split
  · simp
  · rename_i hp
    obtain ⟨hpc, k, d, rfl, rfl, hk, hd, _⟩ := reasC_ok (Classical.not_not.1 hp)
    have hf := fits_of hpc
    have hmk := Mk.ok_iff.1 hf.ok
    have hR := reasRows_ok (t := t) (cuts := cuts) (key := ((k : Nat) : Int).toNat) (door := ((d : Nat) : Int).toNat) (n := m.c.toNat) (by have := hf.few; have := hf.rows; omega)
    unfold shortOf
    cases hb : bestW (reasRows t cuts ((k : Nat) : Int).toNat ((d : Nat) : Int).toNat m.c.toNat).length (allR (reasRows t cuts ((k : Nat) : Int).toNat ((d : Nat) : Int).toNat m.c.toNat)) with
    | none => simp
    | some b =>
      have := (allR_dig hR (bestW_some hb).1).2
      rw [reasRows_len] at this
      show b.length ≤ _
      omega
theorem F1.nil4 {B : Nat} {w : World} : F1 B w (.slice none 0 0) [] := ⟨0, ⟨none, 0, rfl, Nat.le_refl _, Nat.zero_le _, fun hn => absurd rfl hn⟩, fun hn => absurd rfl hn⟩
end Go.Proofs.Ytjkfgldmeenmjaa
