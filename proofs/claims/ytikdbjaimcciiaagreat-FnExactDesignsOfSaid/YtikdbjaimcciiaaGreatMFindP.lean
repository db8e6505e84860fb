/- What the searches for designs answer. No program here. No conditions. -/
import Derived.Test.YtikdbjaimcciiaaGreatMGoP
import Derived.Test.YtikdbjaimcciiaaGreatReadQ
namespace Go.Proofs.YtikdbjaimcciiaaGreat
open Go.RowKit
set_option linter.unusedVariables false
set_option linter.unusedSimpArgs false

abbrev DSt := GSt (List (List (List Int)))
/-- The code of a system, partial cuts and a limit. -/
def searchC (m : Mk) (t cuts : List (List Int)) (limit : Int) : Int :=
  if partC m t cuts ≠ 0 then partC m t cuts else if ¬ (0 ≤ limit ∧ limit ≤ 4000) then 2 else if (falseL m.c.toNat t cuts).length ≠ 0 then 5 else 0
theorem searchC_ok {m : Mk} {t cuts : List (List Int)} {limit : Int} : searchC m t cuts limit = 0 ↔ PartOk m t cuts ∧ (0 ≤ limit ∧ limit ≤ 4000) ∧ falseL m.c.toNat t cuts = [] := by
  unfold searchC
  constructor
  · intro h
    by_cases h1 : partC m t cuts ≠ 0
    · rw [if_pos h1] at h; exact absurd h h1
    · rw [if_neg h1] at h
      have h1' := partC_ok.1 (Decidable.not_not.1 h1)
      by_cases h2 : 0 ≤ limit ∧ limit ≤ 4000
      · rw [if_neg (by simpa using h2)] at h
        by_cases h3 : (falseL m.c.toNat t cuts).length ≠ 0
        · rw [if_pos h3] at h; cases h
        · exact ⟨⟨h1'.1, h1'.2.1, h1'.2.2⟩, h2, List.length_eq_zero_iff.1 (Decidable.not_not.1 h3)⟩
      · rw [if_pos h2] at h; cases h
  · rintro ⟨h1, h2, h3⟩
    rw [if_neg (by rw [h1.c]; simp), if_neg (by simpa using h2), if_neg (by rw [h3]; simp)]
def pickA (s : DSt) : List (List Int) × Int × Int :=
  match s.2.2 with
  | d :: _ => (d, (s.1 : Int), 0)
  | [] => if s.2.1 = true then ([], 0, 3) else ([], 0, 4)
def findAns (m : Mk) (t cuts : List (List Int)) (limit : Int) : List (List Int) × Int × Int :=
  if searchC m t cuts limit ≠ 0 then ([], 0, searchC m t cuts limit) else pickA (firstF m.c.toNat t (keysOf m) cuts 1 limit.toNat)
/-- A design of the search: cuts for all rows. -/
structure DesOk (m : Mk) (t ds : List (List Int)) : Prop where
  part : PartOk m t ds
  full : ds.length ≤ t.length
theorem DesOk.few {m : Mk} {t ds : List (List Int)} (h : DesOk m t ds) : ds.length ≤ 10 ∧ ∀ k, k < ds.length → (getl ds k).length ≤ 6 ∧ getl ds k ≠ [] := by
  have hf := h.part.fits
  have hr := hf.rows
  have hm := Mk.ok_iff.1 hf.ok
  refine ⟨by have := h.full; omega, fun k hk => ?_⟩
  have := hf.lens k hk
  exact ⟨by omega, fun e => by rw [e] at this; simp at this; omega⟩
theorem goF_des {limit n : Nat} {m : Mk} {t : List (List Int)} {most : Int} (hc : 0 ≤ m.c) : ∀ {d : Nat} {cuts : List (List Int)} {s : DSt}, cuts.length + d = t.length →
    DesOk m t cuts → (∀ x ∈ s.2.2, DesOk m t x) → ∀ x ∈ (goF limit (stayP n t) (visK most) (keysOf m) d cuts s).1.2.2, DesOk m t x
  | 0, cuts, s, _, hc, hs => by
    intro x hx
    simp only [goF, visK, List.mem_append, List.mem_singleton] at hx
    rcases hx with hx | rfl
    · exact hs x hx
    · exact hc
  | d + 1, cuts, s, hl, hcu, hs => by
    show ∀ x ∈ (runL (goStep limit (stayP n t) (goF limit (stayP n t) (visK most) (keysOf m) d) cuts) s (keysOf m)).1.2.2, DesOk m t x
    exact goL_des hc hl hcu (keysOf m) (fun k hk => (mem_keysOf hc).1 hk) (fun key s hk hs => goF_des hc (by simp; omega) ⟨hcu.part.more (by omega) hk, by simp; omega⟩ hs) s hs
where
  goL_des {limit n : Nat} {m : Mk} {t : List (List Int)} {most : Int} (hc : 0 ≤ m.c) {d : Nat} {cuts : List (List Int)} (hl : cuts.length + (d + 1) = t.length) (hcu : DesOk m t cuts) (l : List (List Int)) (hk : ∀ k ∈ l, isKeyB m k = true)
      (ih : ∀ key (s : DSt), isKeyB m key = true → (∀ x ∈ s.2.2, DesOk m t x) → ∀ x ∈ (goF limit (stayP n t) (visK most) (keysOf m) d (cuts ++ [key]) s).1.2.2, DesOk m t x) (s : DSt) (hs : ∀ x ∈ s.2.2, DesOk m t x) :
      ∀ x ∈ (runL (goStep limit (stayP n t) (goF limit (stayP n t) (visK most) (keysOf m) d) cuts) s l).1.2.2, DesOk m t x := by
    induction l generalizing s with
    | nil => exact hs
    | cons k l ihl =>
      have h1 : ∀ x ∈ (goStep limit (stayP n t) (goF limit (stayP n t) (visK most) (keysOf m) d) cuts s k).1.2.2, DesOk m t x := by
        unfold goStep
        split
        · exact hs
        · split
          · exact ih k _ (hk k (List.mem_cons_self ..)) hs
          · exact hs
      unfold runL
      split
      · exact ihl (fun k hk' => hk k (List.mem_cons_of_mem _ hk')) _ h1
      · exact h1
theorem firstF_des {m : Mk} {n : Nat} {t cuts : List (List Int)} {most : Int} {limit : Nat} (h : PartOk m t cuts) : ∀ x ∈ (firstF n t (keysOf m) cuts most limit).2.2, DesOk m t x := by
  have hm := Mk.ok_iff.1 h.fits.ok
  have hfew := h.few
  unfold firstF
  split
  · exact goF_des (by omega) (by omega) ⟨h, h.few⟩ (fun x hx => by cases hx)
  · intro x hx; cases hx
theorem findAns_len (m : Mk) (t cuts : List (List Int)) (limit : Int) : (findAns m t cuts limit).1.length ≤ 1048576 ∧ ∀ r ∈ (findAns m t cuts limit).1, r.length ≤ 1048576 := by
  unfold findAns
  split
  · exact ⟨Nat.zero_le _, fun r hr => by cases hr⟩
  · rename_i h
    have hok := searchC_ok.1 (Decidable.not_not.1 h)
    unfold pickA
    split
    · rename_i d ds hd
      have hdo := (firstF_des hok.1 d (by rw [hd]; exact List.mem_cons_self ..)).few
      exact ⟨by have := hdo.1; show d.length ≤ 1048576; omega, fun r hr => by
        have hr : r ∈ d := hr
        obtain ⟨k, hk, rfl⟩ := List.getElem_of_mem hr
        have := (hdo.2 k hk).1
        rw [getl_eq hk] at this
        omega⟩
    · split <;> exact ⟨Nat.zero_le _, fun r hr => by cases hr⟩
end Go.Proofs.YtikdbjaimcciiaaGreat
