/- Reading steps that refute partial cuts: a plain model. No program here. No conditions. -/
import Derived.Test.YtjkfgldmeenmjaaMBlameP
import Derived.Test.YtjkfgldmeenmjaaMSteps
import Derived.Test.YtjkfgldmeenmjaaClone2
namespace Go.Proofs.Ytjkfgldmeenmjaa
open Go.RowKit
set_option linter.unusedVariables false
set_option linter.unusedSimpArgs false

/-- What a reader has read, and the greatest steps for these. -/
abbrev RSt := Nat × List (Int × Int)
def lastStep (L : List (List Int)) : Int × Int := (geti (getl L (L.length - 1)) 0, geti (getl L (L.length - 1)) 1)
def rdStep (n : Nat) (t : List (List Int)) (steps : List (Int × Int)) (rec : List (List Int) → RSt → RSt × Bool) (cuts : List (List Int)) (s : RSt) (key : List Int) : RSt × Bool :=
  if s.1 = steps.length then (s, false)
  else if openS (gets steps s.1) = true then (if cuts.length + 1 < t.length then rec (cuts ++ [key]) (s.1 + 1, s.2 ++ [gets steps s.1]) else (s, false))
  else if hasL (falseL n t (cuts ++ [key])) [(gets steps s.1).1, (gets steps s.1).2] = true then ((s.1 + 1, s.2 ++ [lastStep (falseL n t (cuts ++ [key]))]), true) else (s, false)
def readF (n : Nat) (t keys : List (List Int)) (steps : List (Int × Int)) : Nat → List (List Int) → RSt → RSt × Bool
  | 0 => fun _ s => (s, false)
  | d + 1 => fun cuts s => runL (rdStep n t steps (readF n t keys steps d) cuts) s keys
/-- What a reader keeps. -/
def RdOk (steps : List (Int × Int)) (s : RSt) : Prop := s.1 ≤ steps.length ∧ s.2.length = s.1
theorem runL_inv {σ α : Type} {f : σ → α → σ × Bool} {P : σ → Prop} (h : ∀ s k, P s → P (f s k).1) : ∀ (l : List α) (s : σ), P s → P (runL f s l).1
  | [], s, hs => hs
  | k :: l, s, hs => by
    unfold runL
    split
    · exact runL_inv h l _ (h s k hs)
    · exact h s k hs
theorem rdStep_ok {n : Nat} {t : List (List Int)} {steps : List (Int × Int)} {rec : List (List Int) → RSt → RSt × Bool} (hr : ∀ c s, RdOk steps s → RdOk steps (rec c s).1) {cuts : List (List Int)} {s : RSt} {key : List Int} (h : RdOk steps s) : RdOk steps (rdStep n t steps rec cuts s key).1 := by
  unfold rdStep
  obtain ⟨h1, h2⟩ := h
  split
  · exact ⟨h1, h2⟩
  · split
    · split
      · exact hr _ _ ⟨by show s.1 + 1 ≤ _; omega, by simp [h2]⟩
      · exact ⟨h1, h2⟩
    · split
      · exact ⟨by show s.1 + 1 ≤ _; omega, by simp [h2]⟩
      · exact ⟨h1, h2⟩
theorem readF_ok {n : Nat} {t keys : List (List Int)} {steps : List (Int × Int)} : ∀ {d : Nat} {cuts : List (List Int)} {s : RSt}, RdOk steps s → RdOk steps (readF n t keys steps d cuts s).1
  | 0, _, _, h => h
  | d + 1, cuts, s, h => runL_inv (P := RdOk steps) (fun s k hs => rdStep_ok (fun c s hs => readF_ok hs) hs) keys s h
/-- The run with the last answer kept. -/
def flag {σ α : Type} (f : σ → α → σ × Bool) (s : σ × Bool) (k : α) : (σ × Bool) × Bool := (f s.1 k, (f s.1 k).2)
theorem runL_flag {σ α : Type} {f : σ → α → σ × Bool} : ∀ (l : List α) (s : σ), runL (flag f) (s, true) l = (runL f s l, (runL f s l).2)
  | [], s => rfl
  | k :: l, s => by
    unfold runL
    by_cases h : (f s k).2 = true
    · rw [if_pos (show (flag f (s, true) k).2 = true from h), if_pos h]
      have : (flag f (s, true) k).1 = ((f s k).1, true) := by show f s k = _; rw [← h]
      rw [this]
      exact runL_flag l _
    · rw [if_neg (show ¬ (flag f (s, true) k).2 = true from h), if_neg h]
      have : (flag f (s, true) k).1 = ((f s k).1, false) := by show f s k = _; rw [Bool.not_eq_true] at h; rw [← h]
      rw [this]
/-- Cuts, one more. -/
structure PartOk (m : Mk) (t cuts : List (List Int)) : Prop where
  sys : isSys m t = true
  few : cuts.length ≤ t.length
  keys : allKeys m cuts = true
theorem PartOk.c {m : Mk} {t cuts : List (List Int)} (h : PartOk m t cuts) : partC m t cuts = 0 := partC_ok.2 ⟨h.sys, h.few, h.keys⟩
theorem PartOk.fits {m : Mk} {t cuts : List (List Int)} (h : PartOk m t cuts) : Fits m t cuts := fits_of h.c
theorem PartOk.more {m : Mk} {t cuts : List (List Int)} (h : PartOk m t cuts) (hl : cuts.length < t.length) {key : List Int} (hk : isKeyB m key = true) : PartOk m t (cuts ++ [key]) := by
  refine ⟨h.sys, by simp; omega, allKeys_iff.2 fun k hkl => ?_⟩
  by_cases e : k < cuts.length
  · rw [getl_append1 e]; exact allKeys_iff.1 h.keys k e
  · have e2 : k = cuts.length := by simp at hkl; omega
    subst e2
    rw [getl_last]; exact hk
theorem PartOk.nil {m : Mk} {t : List (List Int)} (h : isSys m t = true) : PartOk m t [] := ⟨h, Nat.zero_le _, allKeys_iff.2 fun k hk => by simp at hk⟩
/-- The numbers of steps, one behind the other. -/
def flatS (l : List (Int × Int)) : List Value := l.flatMap fun x => [.int .i64 x.1, .int .i64 x.2]
theorem flatS_len (l : List (Int × Int)) : (flatS l).length = l.length * 2 := by
  unfold flatS
  induction l with
  | nil => rfl
  | cons x l ih => simp only [List.flatMap_cons, List.length_append, ih, List.length_cons, List.length_nil]; omega
theorem flatS_snoc (l : List (Int × Int)) (x : Int × Int) : flatS (l ++ [x]) = flatS l ++ [.int .i64 x.1, .int .i64 x.2] := by simp [flatS]
end Go.Proofs.Ytjkfgldmeenmjaa
