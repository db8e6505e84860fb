/- Runs that keep their last answer; partial cuts with one more key. No program here. No conditions. -/
import Derived.Test.YtikdbjaimcciiaaGreatClone2
import Derived.Test.YtikdbjaimcciiaaGreatMReas
namespace Go.Proofs.YtikdbjaimcciiaaGreat
open Go.RowKit
set_option linter.unusedVariables false
set_option linter.unusedSimpArgs false

theorem runL_inv {σ α : Type} {f : σ → α → σ × Bool} {P : σ → Prop} (h : ∀ s k, P s → P (f s k).1) : ∀ (l : List α) (s : σ), P s → P (runL f s l).1
  | [], s, hs => hs
  | k :: l, s, hs => by
    unfold runL
    split
    · exact runL_inv h l _ (h s k hs)
    · exact h s k hs
/-- The run with the last answer kept. -/
def flag {σ α : Type} (f : σ → α → σ × Bool) (s : σ × Bool) (k : α) : (σ × Bool) × Bool := (f s.1 k, (f s.1 k).2)
theorem runL_flag {σ α : Type} {f : σ → α → σ × Bool} : ∀ (l : List α) (s : σ), runL (flag f) (s, true) l = (runL f s l, (runL f s l).2)
  | [], s => rfl
  | k :: l, s => by
    unfold runL
    by_cases h : (f s k).2 = true
    · rw [if_pos (show (flag f (s, true) k).2 = true from h), if_pos h]
      have : (flag f (s, true) k).1 = ((f s k).1, true) := by show f s k = _; rw [← h]
      rw [this]
      exact runL_flag l _
    · rw [if_neg (show ¬ (flag f (s, true) k).2 = true from h), if_neg h]
      have : (flag f (s, true) k).1 = ((f s k).1, false) := by show f s k = _; rw [Bool.not_eq_true] at h; rw [← h]
      rw [this]
/-- Cuts, one more. -/
structure PartOk (m : Mk) (t cuts : List (List Int)) : Prop where
  sys : isSys m t = true
  few : cuts.length ≤ t.length
  keys : allKeys m cuts = true
theorem PartOk.c {m : Mk} {t cuts : List (List Int)} (h : PartOk m t cuts) : partC m t cuts = 0 := partC_ok.2 ⟨h.sys, h.few, h.keys⟩
theorem PartOk.fits {m : Mk} {t cuts : List (List Int)} (h : PartOk m t cuts) : Fits m t cuts := fits_of h.c
theorem PartOk.more {m : Mk} {t cuts : List (List Int)} (h : PartOk m t cuts) (hl : cuts.length < t.length) {key : List Int} (hk : isKeyB m key = true) : PartOk m t (cuts ++ [key]) := by
  refine ⟨h.sys, by simp; omega, allKeys_iff.2 fun k hkl => ?_⟩
  by_cases e : k < cuts.length
  · rw [getl_append1 e]; exact allKeys_iff.1 h.keys k e
  · have e2 : k = cuts.length := by simp at hkl; omega
    subst e2
    rw [getl_last]; exact hk
theorem PartOk.nil {m : Mk} {t : List (List Int)} (h : isSys m t = true) : PartOk m t [] := ⟨h, Nat.zero_le _, allKeys_iff.2 fun k hk => by simp at hk⟩
theorem own_V2S {S : Nat → Prop} {w : World} {B : Nat} {e : TypeId} {v : Value} {n : Nat} {vs : List Value} {ls : List (List Int)} (h : w.ownsRow B e 1 v n vs) (hr : RowVs S w vs ls) : V2 (fun b => S b ∨ B ≤ b) w v ls := by
  obtain ⟨hl, h⟩ := h
  have hn : n = ls.length := by have := hr.1; omega
  subst hn
  rcases h with ⟨rfl, h0⟩ | ⟨g, cap, cur, rfl, hb, hh, hc, hm, hs, ht⟩
  · exact ⟨none, 0, by rw [h0], by omega, Nat.zero_le _, fun k hk => by omega⟩
  · refine ⟨_, _, rfl, hc, hm, fun k hk => ?_⟩
    obtain ⟨ev, h1, h2⟩ := hr.2 k hk
    refine ⟨g, 0, ev, rfl, .inr hb, ?_, h2.mono (fun b hb _ => .inl hb) (fun _ _ _ => rfl)⟩
    have h3 : (cur.toList.take (ls.length * 1))[k]? = vs[k]? := by rw [ht]
    rw [List.getElem?_take, if_pos (by omega), h1] at h3
    rw [cell_of_block hh, Nat.zero_add, ← Array.getElem?_toList, h3]
end Go.Proofs.YtikdbjaimcciiaaGreat
