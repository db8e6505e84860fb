/- A list of lists that a call makes row by row, each row in memory of its own. No conditions. -/
import Derived.Test.YtikdbjaimcciiaaGreatFrame
import Derived.Test.YtikdbjaimcciiaaGreatCopy
namespace Go.Proofs.YtikdbjaimcciiaaGreat
open Go.RowKit
set_option linter.unusedVariables false
set_option linter.unusedSimpArgs false

theorem getl_app1 {ls : List (List Int)} {l : List Int} {k : Nat} (h : k < ls.length) : getl (ls ++ [l]) k = getl ls k := by
  simp [getl, List.getElem?_append_left h]
theorem getl_app2 {ls : List (List Int)} {l : List Int} : getl (ls ++ [l]) ls.length = l := by
  unfold getl; simp

/-- v is a slice of the call's own (from block B on); its rows hold ls, each in a block of its own. -/
def Out2 (B : Nat) (w : World) (v : Value) (ls : List (List Int)) : Prop :=
  ∃ (vs : List Value) (bk : Nat → Nat), w.ownsRow B 35 1 v ls.length vs ∧ (∀ k, k < ls.length → ∃ rv, vs[k]? = some rv ∧ X1 w rv (getl ls k) (bk k)) ∧
    (∀ k, k < ls.length → getl ls k ≠ [] → B ≤ bk k ∧ v.ownBlock ≠ some (bk k) ∧ ∀ j, j < ls.length → j ≠ k → getl ls j ≠ [] → bk j ≠ bk k)
theorem Out2.nil {B : Nat} {w : World} {v : Value} (h : w.ownsRow B 35 1 v 0 []) : Out2 B w v [] := ⟨[], fun _ => 0, h, fun k hk => by simp at hk, fun k hk => by simp at hk⟩
theorem Out2.start (w : World) (B : Nat) (hb : B ≤ w.heap.size) : Out2 B (w.alloc (.cells #[] 35)) (.slice (some ⟨w.heap.size, 0, none⟩) 0 0) [] := Out2.nil (own_lit0 w B _ 1 hb)
theorem Out2.keep {B : Nat} {w w' : World} {v : Value} {ls : List (List Int)} (h : Out2 B w v ls) (hb : Below w.heap.size w w') : Out2 B w' v ls := by
  obtain ⟨vs, bk, h1, h2, h3⟩ := h
  refine ⟨vs, bk, own_chg h1 (Chg.of_below (F := fun _ => False) hb) (fun _ _ h => h), fun k hk => ?_, h3⟩
  obtain ⟨rv, h4, h5⟩ := h2 k hk
  exact ⟨rv, h4, h5.keep fun hn => hb.block _ (h5.lt hn)⟩
theorem Out2.form {B : Nat} {w : World} {v : Value} {ls : List (List Int)} (h : Out2 B w v ls) : ∃ a c, v = .slice a ls.length c ∧ ls.length ≤ c ∧ c ≤ maxLen := by
  obtain ⟨vs, bk, h1, h2, h3⟩ := h; exact own_form h1
theorem Out2.own {B : Nat} {w : World} {v : Value} {ls : List (List Int)} (h : Out2 B w v ls) : ∃ vs, w.ownsRow B 35 1 v ls.length vs := by
  obtain ⟨vs, bk, h1, h2, h3⟩ := h; exact ⟨vs, h1⟩
/-- One row more, made since. w: before the row was begun; w2: the row is made; w1: it is appended. -/
theorem Out2.push {B : Nat} {w w2 w1 : World} {v v1 rv : Value} {ls : List (List Int)} {l : List Int} {b : Nat} {vs : List Value} {bk : Nat → Nat}
    (h1 : w.ownsRow B 35 1 v ls.length vs) (h2 : ∀ k, k < ls.length → ∃ rv, vs[k]? = some rv ∧ X1 w rv (getl ls k) (bk k))
    (h3 : ∀ k, k < ls.length → getl ls k ≠ [] → B ≤ bk k ∧ v.ownBlock ≠ some (bk k) ∧ ∀ j, j < ls.length → j ≠ k → getl ls j ≠ [] → bk j ≠ bk k)
    (hB : B ≤ w.heap.size) (hb : Below w.heap.size w w2) (hx : X1 w2 rv l b) (hbn : l ≠ [] → w.heap.size ≤ b)
    (hown : w1.ownsRow B 35 1 v1 (ls.length + 1) (vs ++ [rv])) (hg : w2.grownBy w1 v.ownBlock) (hblk : v1.ownBlock = v.ownBlock ∨ ∃ g, v1.ownBlock = some g ∧ w2.heap.size ≤ g) : Out2 B w1 v1 (ls ++ [l]) := by
  have hvl : ∀ g, v.ownBlock = some g → g < w.heap.size := fun g hgg => (h1.lt g hgg).2
  have hxl : ∀ k, k < ls.length → getl ls k ≠ [] → bk k < w.heap.size := fun k hk hn => by
    obtain ⟨rv, _, h⟩ := h2 k hk; exact h.lt hn
  have hne1 : ∀ c, c < w2.heap.size → v.ownBlock ≠ some c → v1.ownBlock ≠ some c := fun c hc hn e => by
    rcases hblk with e1 | ⟨g, e1, hge⟩
    · exact hn (e1.symm.trans e)
    · rw [e] at e1; cases e1; omega
  have hvl1 := h1.1
  refine ⟨vs ++ [rv], fun k => if k < ls.length then bk k else b, by simpa using hown, fun k hk => ?_, fun k hk hn => ?_⟩
  · by_cases hkl : k < ls.length
    · obtain ⟨rv', h4, h5⟩ := h2 k hkl
      refine ⟨rv', by rw [List.getElem?_append_left (by omega)]; exact h4, ?_⟩
      rw [getl_app1 hkl]
      simp only [hkl, if_true]
      exact h5.keep fun hn => by
        rw [hg.block _ (Nat.lt_of_lt_of_le (hxl k hkl hn) hb.size) (fun e => (h3 k hkl hn).2.1 e.symm), hb.block _ (hxl k hkl hn)]
    · have e : k = ls.length := by simp at hk; omega
      subst e
      refine ⟨rv, by rw [List.getElem?_append_right (by omega)]; simp [show ls.length - vs.length = 0 by omega], ?_⟩
      rw [getl_app2]
      simp only [Nat.lt_irrefl, if_false]
      exact hx.keep fun hn => hg.block _ (hx.lt hn) (fun e => by have := hvl b e.symm; have := hbn hn; omega)
  · by_cases hkl : k < ls.length
    · rw [getl_app1 hkl] at hn
      simp only [hkl, if_true]
      obtain ⟨h4, h5, h6⟩ := h3 k hkl hn
      refine ⟨h4, hne1 _ (Nat.lt_of_lt_of_le (hxl k hkl hn) hb.size) h5, fun j hj hjk hnj => ?_⟩
      by_cases hjl : j < ls.length
      · rw [getl_app1 hjl] at hnj
        simp only [hjl, if_true]
        exact h6 j hjl hjk hnj
      · have e : j = ls.length := by simp at hj; omega
        subst e
        rw [getl_app2] at hnj
        simp only [Nat.lt_irrefl, if_false]
        have := hbn hnj; have := hxl k hkl hn; omega
    · have e : k = ls.length := by simp at hk; omega
      subst e
      rw [getl_app2] at hn
      simp only [Nat.lt_irrefl, if_false]
      refine ⟨by have := hbn hn; omega, hne1 _ (hx.lt hn) (fun e => by have := hvl b e; have := hbn hn; omega), fun j hj hjk hnj => ?_⟩
      have hjl : j < ls.length := by simp at hj; omega
      rw [getl_app1 hjl] at hnj
      simp only [hjl, if_true]
      have := hbn hn; have := hxl j hjl hnj; omega
theorem Out2.f2 {B : Nat} {w : World} {v : Value} {ls : List (List Int)} (h : Out2 B w v ls) : F2 B w v ls := by
  obtain ⟨vs, bk, h1, h2, h3⟩ := h
  have hvl := h1.1
  have hB := h1.lt
  rcases h1.2 with ⟨rfl, h0⟩ | ⟨g, cap, cur, rfl, hb, hh, hc, hm, hs, ht⟩
  · refine ⟨0, bk, ⟨none, 0, by rw [h0], by omega, Nat.zero_le _, fun hn => absurd (List.eq_nil_of_length_eq_zero h0) hn, fun k hk => by omega⟩, fun hn => absurd (List.eq_nil_of_length_eq_zero h0) hn, fun k hk => by omega⟩
  · refine ⟨g, bk, ⟨_, cap, rfl, hc, hm, fun _ => ⟨0, cur, _, rfl, hh, fun k hk => ?_⟩, fun k hk hn => ?_⟩, fun _ => hb, fun k hk hn => (h3 k hk hn).1⟩
    · obtain ⟨rv, h4, h5⟩ := h2 k hk
      refine ⟨rv, ?_, h5⟩
      have h6 : (cur.toList.take (ls.length * 1))[k]? = vs[k]? := by rw [ht]
      rw [List.getElem?_take, if_pos (by omega), h4] at h6
      rw [Nat.zero_add, ← Array.getElem?_toList, h6]
    · obtain ⟨h4, h5, h6⟩ := h3 k hk hn
      exact ⟨fun e => h5 (by rw [e]; rfl), h6⟩
end Go.Proofs.YtikdbjaimcciiaaGreat
