/- Chains of rows, each contained in the next one: plain laws. No conditions. -/
import Derived.Test.YtcdgechaehljgaaLib
namespace Go.Proofs.Ytcdgechaehljgaa
open Go.RowKit
set_option linter.unusedVariables false
set_option linter.unusedSimpArgs false

def sumTo (l : List Int) : Nat → Int
  | 0 => 0
  | k + 1 => sumTo l k + geti l k
def comTo (a b : List Int) : Nat → Nat
  | 0 => 0
  | k + 1 => if geti a k = 1 ∧ geti b k = 1 then comTo a b k + 1 else comTo a b k
def inTo (a b : List Int) : Nat → Bool
  | 0 => true
  | k + 1 => inTo a b k && decide (geti a k ≤ geti b k)
def inR (a b : List Int) : Bool := inTo a b a.length
def Bits (l : List Int) : Prop := ∀ j, j < l.length → geti l j = 0 ∨ geti l j = 1
theorem sumTo_bits {l : List Int} (h : Bits l) : ∀ k, k ≤ l.length → 0 ≤ sumTo l k ∧ sumTo l k ≤ k
  | 0, _ => by simp [sumTo]
  | k + 1, hk => by
    have := sumTo_bits h k (by omega)
    have := h k (by omega)
    unfold sumTo
    omega
theorem comTo_le (a b : List Int) : ∀ k, comTo a b k ≤ k
  | 0 => by simp [comTo]
  | k + 1 => by
    have := comTo_le a b k
    unfold comTo
    split <;> omega
theorem com_sum {a b : List Int} (ha : Bits a) (hb : Bits b) (hl : a.length = b.length) : ∀ k, k ≤ a.length → (comTo a b k : Int) ≤ sumTo a k ∧ ((comTo a b k : Int) = sumTo a k ↔ inTo a b k = true)
  | 0, _ => by simp [comTo, sumTo, inTo]
  | k + 1, hk => by
    obtain ⟨h1, h2⟩ := com_sum ha hb hl k (by omega)
    have hx := ha k (by omega)
    have hy := hb k (by omega)
    unfold comTo sumTo inTo
    rw [Bool.and_eq_true, decide_eq_true_iff]
    by_cases hc : geti a k = 1 ∧ geti b k = 1
    · rw [if_pos hc, hc.1, hc.2]
      refine ⟨by omega, ?_⟩
      rw [← h2]
      omega
    · rw [if_neg hc]
      refine ⟨by omega, ?_⟩
      rw [← h2]
      constructor
      · intro he; omega
      · rintro ⟨he, hle⟩; omega
theorem in_sum {a b : List Int} : ∀ k, inTo a b k = true → sumTo a k ≤ sumTo b k ∧ (sumTo a k = sumTo b k → ∀ j, j < k → geti a j = geti b j)
  | 0, _ => ⟨by simp [sumTo], fun _ j hj => by omega⟩
  | k + 1, h => by
    unfold inTo at h
    rw [Bool.and_eq_true, decide_eq_true_iff] at h
    obtain ⟨h1, h2⟩ := in_sum k h.1
    unfold sumTo
    refine ⟨by omega, fun he j hj => ?_⟩
    by_cases e : j = k
    · subst e; omega
    · exact h2 (by omega) j (by omega)
theorem list_ext {a b : List Int} (hl : a.length = b.length) (h : ∀ j, j < a.length → geti a j = geti b j) : a = b := by
  apply List.ext_getElem hl
  intro i h1 h2
  have := h i h1
  rwa [geti_eq h1, geti_eq h2] at this
theorem in_strict {a b : List Int} (hl : a.length = b.length) (h : inR a b = true) (hn : a ≠ b) : sumTo a a.length < sumTo b b.length := by
  obtain ⟨h1, h2⟩ := in_sum a.length h
  rw [← hl]
  by_cases e : sumTo a a.length = sumTo b a.length
  · exact absurd (list_ext hl (h2 e)) hn
  · omega

def mxTo (p : Nat → Bool) (g : Nat → Int) : Nat → Int
  | 0 => 0
  | k + 1 => if p k = true then max (mxTo p g k) (g k) else mxTo p g k
theorem mxTo_congr {p : Nat → Bool} {g g' : Nat → Int} : ∀ k, (∀ i, i < k → p i = true → g i = g' i) → mxTo p g k = mxTo p g' k
  | 0, _ => rfl
  | k + 1, h => by
    unfold mxTo
    rw [mxTo_congr k (fun i hi => h i (by omega))]
    by_cases hp : p k = true
    · rw [if_pos hp, if_pos hp, h k (by omega) hp]
    · rw [if_neg hp, if_neg hp]
theorem mxTo_char {p : Nat → Bool} {g : Nat → Int} : ∀ k, 0 ≤ mxTo p g k ∧ (∀ i, i < k → p i = true → g i ≤ mxTo p g k) ∧ (mxTo p g k = 0 ∨ ∃ i, i < k ∧ p i = true ∧ mxTo p g k = g i)
  | 0 => ⟨by simp [mxTo], fun i hi => by omega, .inl rfl⟩
  | k + 1 => by
    obtain ⟨h0, h1, h2⟩ := mxTo_char (p := p) (g := g) k
    unfold mxTo
    by_cases hp : p k = true
    · rw [if_pos hp]
      refine ⟨by omega, fun i hi hpi => ?_, ?_⟩
      · by_cases e : i = k
        · subst e; omega
        · have := h1 i (by omega) hpi; omega
      · by_cases hm : mxTo p g k ≤ g k
        · exact .inr ⟨k, by omega, hp, by omega⟩
        · rcases h2 with h2 | ⟨i, hi, hpi, e⟩
          · exact .inl (by omega)
          · exact .inr ⟨i, by omega, hpi, by omega⟩
    · rw [if_neg hp]
      refine ⟨h0, fun i hi hpi => ?_, ?_⟩
      · by_cases e : i = k
        · subst e; exact absurd hpi hp
        · exact h1 i (by omega) hpi
      · rcases h2 with h2 | ⟨i, hi, hpi, e⟩
        · exact .inl h2
        · exact .inr ⟨i, by omega, hpi, e⟩

def strictB (t : List (List Int)) (r i : Nat) : Bool := inR (getl t i) (getl t r) && !decide (getl t i = getl t r)
def chF (t : List (List Int)) : Nat → Nat → Int
  | 0, _ => 1
  | f + 1, r => mxTo (strictB t r) (chF t f) t.length + 1
/-- All rows are as long as the first one, at most 12, and hold 0 and 1. -/
structure Tab (t : List (List Int)) : Prop where
  len : ∀ k, k < t.length → (getl t k).length = (getl t 0).length
  few : (getl t 0).length ≤ 12
  bits : ∀ k, k < t.length → Bits (getl t k)
def ones (t : List (List Int)) (r : Nat) : Nat := (sumTo (getl t r) (getl t r).length).toNat
theorem ones_le {t : List (List Int)} (T : Tab t) {r : Nat} (hr : r < t.length) : ones t r ≤ 12 ∧ (ones t r : Int) = sumTo (getl t r) (getl t r).length := by
  have := sumTo_bits (T.bits r hr) _ (Nat.le_refl _)
  have := T.len r hr
  have := T.few
  unfold ones
  omega
theorem strict_ones {t : List (List Int)} (T : Tab t) {r i : Nat} (hr : r < t.length) (hi : i < t.length) (h : strictB t r i = true) : ones t i < ones t r := by
  unfold strictB at h
  rw [Bool.and_eq_true, Bool.not_eq_true', decide_eq_false_iff_not] at h
  have := in_strict (by rw [T.len i hi, T.len r hr]) h.1 h.2
  have := (ones_le T hr).2
  have := (ones_le T hi).2
  omega
theorem chF_enough {t : List (List Int)} (T : Tab t) : ∀ (f f' r : Nat), r < t.length → ones t r ≤ f → ones t r ≤ f' → chF t f r = chF t f' r := by
  have h0 : ∀ f r, r < t.length → ones t r = 0 → chF t f r = 1 := fun f r hr ho => by
    cases f with
    | zero => rfl
    | succ f =>
      unfold chF
      rcases (mxTo_char (p := strictB t r) (g := chF t f) t.length).2.2 with h | ⟨i, hi, hp, _⟩
      · rw [h]; rfl
      · have := strict_ones T hr hi hp; omega
  intro f
  induction f with
  | zero =>
    intro f' r hr h1 h2
    rw [h0 0 r hr (by omega), h0 f' r hr (by omega)]
  | succ f ih =>
    intro f' r hr h1 h2
    cases f' with
    | zero => rw [h0 _ r hr (by omega), h0 _ r hr (by omega)]
    | succ f' =>
      unfold chF
      rw [mxTo_congr t.length (fun i hi hp => ih f' i hi (by have := strict_ones T hr hi hp; omega) (by have := strict_ones T hr hi hp; omega))]
def ch (t : List (List Int)) (r : Nat) : Int := chF t 12 r
theorem ch_eq {t : List (List Int)} (T : Tab t) {r : Nat} (hr : r < t.length) : ch t r = mxTo (strictB t r) (ch t) t.length + 1 := by
  have h := (ones_le T hr).1
  unfold ch
  rw [chF_enough T 12 13 r hr (by omega) (by omega)]
  rfl
theorem chF_bound (t : List (List Int)) : ∀ f r, 1 ≤ chF t f r ∧ chF t f r ≤ f + 1
  | 0, r => by simp [chF]
  | f + 1, r => by
    unfold chF
    obtain ⟨h0, _, h2⟩ := mxTo_char (p := strictB t r) (g := chF t f) t.length
    rcases h2 with h | ⟨i, _, _, e⟩
    · rw [h]; omega
    · have := chF_bound t f i; rw [e]; omega
theorem ch_bound (t : List (List Int)) (r : Nat) : 1 ≤ ch t r ∧ ch t r ≤ 13 := chF_bound t 12 r
theorem mx_bound {t : List (List Int)} {p : Nat → Bool} : ∀ k, 0 ≤ mxTo p (ch t) k ∧ mxTo p (ch t) k ≤ 13
  | 0 => by simp [mxTo]
  | k + 1 => by
    have := mx_bound (t := t) (p := p) k
    have := ch_bound t k
    unfold mxTo
    split <;> omega
def longest (t : List (List Int)) : Int := mxTo (fun _ => true) (ch t) t.length
end Go.Proofs.Ytcdgechaehljgaa
