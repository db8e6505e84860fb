/- Plain lists: the short reason, as the program and the reference choose it. No program here. No conditions. -/
import Derived.Test.YtjkfgldmeenmjaaFirst
import Derived.Test.YtjkfgldmeenmjaaMDiff
namespace Go.Proofs.Ytjkfgldmeenmjaa
open Go.RowKit
set_option linter.unusedVariables false
set_option linter.unusedSimpArgs false

/-- All choices of one number of each list, in order. -/
def allR : List (List Int) → List (List Int)
  | [] => [[]]
  | r :: rs => r.flatMap fun x => (allR rs).map fun l => x :: l
theorem mem_allR : ∀ {rows : List (List Int)} {l : List Int}, l ∈ allR rows ↔ l.length = rows.length ∧ ∀ k, k < rows.length → geti l k ∈ getl rows k
  | [], l => by
    simp only [allR, List.mem_singleton, List.length_nil]
    constructor
    · rintro rfl; exact ⟨rfl, fun k hk => by omega⟩
    · rintro ⟨h, _⟩; exact List.eq_nil_of_length_eq_zero h
  | r :: rs, l => by
    simp only [allR, List.mem_flatMap, List.mem_map]
    constructor
    · rintro ⟨x, hx, l', hl', rfl⟩
      obtain ⟨h1, h2⟩ := mem_allR.1 hl'
      refine ⟨by simp [h1], fun k hk => ?_⟩
      cases k with
      | zero => exact hx
      | succ k => exact h2 k (by simpa using hk)
    · rintro ⟨h1, h2⟩
      cases l with
      | nil => simp at h1
      | cons x l =>
        refine ⟨x, h2 0 (by simp), l, mem_allR.2 ⟨by simpa using h1, fun k hk => ?_⟩, rfl⟩
        exact h2 (k + 1) (by simpa using hk)
/-- The numbers of a list as one number. -/
def codeL : List Int → Int
  | [] => 0
  | x :: xs => x * 16 ^ xs.length + codeL xs
def Dig (l : List Int) : Prop := ∀ x ∈ l, 0 ≤ x ∧ x < 16
theorem pow16 (n : Nat) : (0 : Int) < 16 ^ n := by
  induction n with
  | zero => simp
  | succ n ih => rw [Int.pow_succ]; omega
theorem codeL_bd : ∀ {l : List Int}, Dig l → 0 ≤ codeL l ∧ codeL l < 16 ^ l.length
  | [], _ => by simp [codeL]
  | x :: xs, h => by
    have hx := h x (List.mem_cons_self ..)
    have ih := codeL_bd (l := xs) fun y hy => h y (List.mem_cons_of_mem _ hy)
    have hp := pow16 xs.length
    have e : (16 : Int) ^ (x :: xs).length = 16 * 16 ^ xs.length := by rw [List.length_cons, Int.pow_succ, Int.mul_comm]
    rw [e, codeL]
    have h1 : 0 ≤ x * 16 ^ xs.length := Int.mul_nonneg hx.1 (Int.le_of_lt hp)
    have h2 : x * 16 ^ xs.length ≤ 15 * 16 ^ xs.length := Int.mul_le_mul_of_nonneg_right (by omega) (Int.le_of_lt hp)
    omega
theorem codeL_cons {x y : Int} {xs ys : List Int} (h : Dig (x :: xs)) (h' : Dig (y :: ys)) (hl : xs.length = ys.length) (hxy : x < y) : codeL (x :: xs) < codeL (y :: ys) := by
  have b1 := codeL_bd (l := xs) fun z hz => h z (List.mem_cons_of_mem _ hz)
  have b2 := codeL_bd (l := ys) fun z hz => h' z (List.mem_cons_of_mem _ hz)
  have hp := pow16 xs.length
  rw [codeL, codeL, ← hl]
  have h2 : (x + 1) * 16 ^ xs.length ≤ y * 16 ^ xs.length := Int.mul_le_mul_of_nonneg_right (by omega) (Int.le_of_lt hp)
  rw [Int.add_mul] at h2
  omega
theorem codeL_inj : ∀ {a b : List Int}, Dig a → Dig b → a.length = b.length → codeL a = codeL b → a = b
  | [], [], _, _, _, _ => rfl
  | [], y :: b, _, _, h, _ => by simp at h
  | x :: a, [], _, _, h, _ => by simp at h
  | x :: a, y :: b, ha, hb, h, e => by
    have hl : a.length = b.length := by simpa using h
    have hxy : x = y := by
      rcases Int.lt_trichotomy x y with h1 | h1 | h1
      · have := codeL_cons ha hb hl h1; omega
      · exact h1
      · have := codeL_cons hb ha hl.symm h1; omega
    subst hxy
    rw [codeL, codeL, hl] at e
    rw [codeL_inj (fun z hz => ha z (List.mem_cons_of_mem _ hz)) (fun z hz => hb z (List.mem_cons_of_mem _ hz)) hl (by omega)]
/-- How good a choice of n numbers is: few different ones first, then the smaller ones. -/
def wt (n : Nat) (l : List Int) : Int := (diffI l).length * 16 ^ n + codeL l
theorem wt_lt {n : Nat} {a b : List Int} (ha : Dig a) (hb : Dig b) (hla : a.length = n) (hlb : b.length = n) : wt n a < wt n b ↔ (diffI a).length < (diffI b).length ∨ ((diffI a).length = (diffI b).length ∧ codeL a < codeL b) := by
  have b1 := codeL_bd ha
  have b2 := codeL_bd hb
  rw [hla] at b1
  rw [hlb] at b2
  have hp := pow16 n
  unfold wt
  constructor
  · intro h
    rcases Nat.lt_trichotomy (diffI a).length (diffI b).length with h1 | h1 | h1
    · exact .inl h1
    · refine .inr ⟨h1, ?_⟩; rw [h1] at h; omega
    · exfalso
      have h2 : (((diffI b).length : Int) + 1) * 16 ^ n ≤ ((diffI a).length : Int) * 16 ^ n := Int.mul_le_mul_of_nonneg_right (by omega) (Int.le_of_lt hp)
      rw [Int.add_mul] at h2
      omega
  · rintro (h | ⟨h1, h2⟩)
    · have h2 : (((diffI a).length : Int) + 1) * 16 ^ n ≤ ((diffI b).length : Int) * 16 ^ n := Int.mul_le_mul_of_nonneg_right (by omega) (Int.le_of_lt hp)
      rw [Int.add_mul] at h2
      omega
    · rw [h1]; omega
theorem wt_inj {n : Nat} {a b : List Int} (ha : Dig a) (hb : Dig b) (hla : a.length = n) (hlb : b.length = n) (h : wt n a = wt n b) : a = b := by
  have h1 : ¬ ((diffI a).length < (diffI b).length ∨ ((diffI a).length = (diffI b).length ∧ codeL a < codeL b)) := fun hh => by have := (wt_lt ha hb hla hlb).2 hh; omega
  have h2 : ¬ ((diffI b).length < (diffI a).length ∨ ((diffI b).length = (diffI a).length ∧ codeL b < codeL a)) := fun hh => by have := (wt_lt hb ha hlb hla).2 hh; omega
  exact codeL_inj ha hb (by omega) (by omega)
/-- The best of some choices. -/
def better (n : Nat) (o : Option (List Int)) (l : List Int) : Option (List Int) := match o with
  | none => some l
  | some b => if wt n l < wt n b then some l else some b
def bestW (n : Nat) (L : List (List Int)) : Option (List Int) := L.foldl (better n) none
theorem foldl_best {n : Nat} : ∀ {L : List (List Int)} {o : Option (List Int)} {b : List Int}, L.foldl (better n) o = some b → (b ∈ L ∨ o = some b) ∧ (∀ l ∈ L, wt n b ≤ wt n l) ∧ ∀ a, o = some a → wt n b ≤ wt n a
  | [], o, b, h => by
    simp only [List.foldl_nil] at h
    exact ⟨.inr h, fun l hl => (by cases hl), fun a ha => by rw [h] at ha; cases ha; exact Int.le_refl _⟩
  | x :: L, o, b, h => by
    rw [List.foldl_cons] at h
    obtain ⟨h1, h2, h3⟩ := foldl_best h
    cases o with
    | none =>
      have hx := h3 x rfl
      refine ⟨.inl ?_, fun l hl => ?_, fun a ha => (by cases ha)⟩
      · rcases h1 with h1 | h1
        · exact List.mem_cons_of_mem _ h1
        · cases h1; exact List.mem_cons_self ..
      · rcases List.mem_cons.1 hl with e | hl
        · rw [e]; exact hx
        · exact h2 l hl
    | some a =>
      simp only [better] at h1 h3
      by_cases hlt : wt n x < wt n a
      · rw [if_pos hlt] at h1 h3
        have hx := h3 x rfl
        refine ⟨.inl ?_, fun l hl => ?_, fun a' ha => (by cases ha; omega)⟩
        · rcases h1 with h1 | h1
          · exact List.mem_cons_of_mem _ h1
          · cases h1; exact List.mem_cons_self ..
        · rcases List.mem_cons.1 hl with e | hl
          · rw [e]; exact hx
          · exact h2 l hl
      · rw [if_neg hlt] at h1 h3
        have ha := h3 a rfl
        refine ⟨?_, fun l hl => ?_, fun a' ha' => (by cases ha'; exact ha)⟩
        · rcases h1 with h1 | h1
          · exact .inl (List.mem_cons_of_mem _ h1)
          · exact .inr h1
        · rcases List.mem_cons.1 hl with e | hl
          · rw [e]; omega
          · exact h2 l hl
theorem foldl_some {n : Nat} : ∀ {L : List (List Int)} {a : List Int}, ∃ b, L.foldl (better n) (some a) = some b
  | [], a => ⟨a, rfl⟩
  | x :: L, a => by
    rw [List.foldl_cons]
    have : ∃ c, better n (some a) x = some c := by
      unfold better
      by_cases h : wt n x < wt n a
      · exact ⟨x, by simp [h]⟩
      · exact ⟨a, by simp [h]⟩
    obtain ⟨c, hc⟩ := this
    rw [hc]; exact foldl_some
theorem bestW_none {n : Nat} {L : List (List Int)} : bestW n L = none ↔ L = [] := by
  cases L with
  | nil => simp [bestW]
  | cons x L =>
    obtain ⟨b, hb⟩ := foldl_some (n := n) (L := L) (a := x)
    constructor
    · intro h
      unfold bestW at h
      rw [List.foldl_cons] at h
      rw [show better n none x = some x from rfl, hb] at h
      cases h
    · intro h; cases h
theorem bestW_some {n : Nat} {L : List (List Int)} {b : List Int} (h : bestW n L = some b) : b ∈ L ∧ ∀ l ∈ L, wt n b ≤ wt n l := by
  obtain ⟨h1, h2, _⟩ := foldl_best h
  rcases h1 with h1 | h1
  · exact ⟨h1, h2⟩
  · cases h1
/-- Two lists of choices have the same best one if each holds the other's. -/
theorem bestW_eq {n : Nat} {L L' : List (List Int)} (hd : ∀ l ∈ L', Dig l ∧ l.length = n) (hs : ∀ l ∈ L, l ∈ L') (hb : ∀ b ∈ L', ∃ l ∈ L, wt n l ≤ wt n b) : bestW n L = bestW n L' := by
  cases hL' : bestW n L' with
  | none =>
    have e := bestW_none.1 hL'
    subst e
    exact bestW_none.2 (List.eq_nil_iff_forall_not_mem.2 fun l hl => by cases hs l hl)
  | some b =>
    obtain ⟨h1, h2⟩ := bestW_some hL'
    cases hL : bestW n L with
    | none =>
      have e := bestW_none.1 hL
      subst e
      obtain ⟨l, hl, _⟩ := hb b h1
      cases hl
    | some a =>
      obtain ⟨g1, g2⟩ := bestW_some hL
      obtain ⟨l, hl, hw⟩ := hb b h1
      have w1 := g2 l hl
      have w2 := h2 a (hs a g1)
      rw [wt_inj (hd a (hs a g1)).1 (hd b h1).1 (hd a (hs a g1)).2 (hd b h1).2 (by omega)]
end Go.Proofs.Ytjkfgldmeenmjaa

namespace Go.Proofs.Ytjkfgldmeenmjaa
open Go.RowKit
set_option linter.unusedVariables false
set_option linter.unusedSimpArgs false

theorem idxR_char {g : Int → Bool} : ∀ {l : List Int} {k : Nat}, 0 ≤ idxR g l k → ∃ i : Nat, i < l.length ∧ idxR g l k = k + i ∧ g (geti l i) = true ∧ ∀ j, j < i → g (geti l j) = false
  | [], k, h => by simp [idxR] at h
  | x :: xs, k, h => by
    unfold idxR at h ⊢
    by_cases hx : g x = true
    · rw [if_pos hx]
      exact ⟨0, by simp, by omega, hx, fun j hj => by omega⟩
    · rw [if_neg hx] at h ⊢
      obtain ⟨i, h1, h2, h3, h4⟩ := idxR_char h
      refine ⟨i + 1, by simp; omega, by omega, h3, fun j hj => ?_⟩
      cases j with
      | zero => exact Bool.eq_false_iff.2 hx
      | succ j => exact h4 j (by omega)
theorem idxR_none {g : Int → Bool} : ∀ {l : List Int} {k : Nat}, idxR g l k < 0 → ∀ x ∈ l, g x = false
  | [], k, h, x, hx => by cases hx
  | y :: ys, k, h, x, hx => by
    unfold idxR at h
    by_cases hy : g y = true
    · rw [if_pos hy] at h; omega
    · rw [if_neg hy] at h
      rcases List.mem_cons.1 hx with e | hx
      · rw [e]; exact Bool.eq_false_iff.2 hy
      · exact idxR_none h x hx
theorem geti_lastI {l : List Int} {x : Int} {j : Nat} (h : l.length = j) : geti (l ++ [x]) j = x := by rw [← h]; exact geti_snoc
theorem firsts_spec {g : Int → Bool} {ls : List (List Int)} (hs : ∀ k, (getl ls k).Pairwise (· < ·)) : ∀ {k : Nat} {l : List Int}, firsts g ls k = some l → ∀ j, j < k → geti l j ∈ getl ls j ∧ g (geti l j) = true ∧ ∀ x ∈ getl ls j, g x = true → geti l j ≤ x
  | 0, l, h, j, hj => by omega
  | k + 1, l, h, j, hj => by
    unfold firsts at h
    split at h
    · cases h
    · rename_i l' hl'
      have hlen := firsts_len hl'
      split at h
      · cases h
      · rename_i hidx
        obtain ⟨i, h1, h2, h3, h4⟩ := idxR_char (show 0 ≤ idxR g (getl ls k) 0 by omega)
        injection h with h
        subst h
        rw [h2]
        rw [show (((0 : Nat) : Int) + (i : Int)).toNat = i from by omega]
        by_cases hjk : j = k
        · subst hjk
          rw [geti_lastI hlen]
          refine ⟨geti_mem h1, h3, fun x hx hgx => ?_⟩
          obtain ⟨p, hp, rfl⟩ := List.getElem_of_mem hx
          rw [geti_eq h1]
          rcases Nat.lt_trichotomy p i with e | e | e
          · have := h4 p e
            rw [geti_eq hp, hgx] at this; cases this
          · subst e; exact Int.le_refl _
          · exact Int.le_of_lt (List.pairwise_iff_getElem.1 (hs j) i p h1 hp e)
        · rw [geti_append (by omega)]
          exact firsts_spec hs hl' j (by omega)
theorem firsts_ex {g : Int → Bool} {ls : List (List Int)} : ∀ {k : Nat}, (∀ j, j < k → ∃ x ∈ getl ls j, g x = true) → ∃ l, firsts g ls k = some l
  | 0, _ => ⟨[], rfl⟩
  | k + 1, h => by
    obtain ⟨l, hl⟩ := firsts_ex (k := k) fun j hj => h j (by omega)
    obtain ⟨x, hx, hg⟩ := h k (by omega)
    unfold firsts
    rw [hl]
    simp only
    rw [if_neg (fun hn => by have := idxR_none hn x hx; rw [hg] at this; cases this)]
    exact ⟨_, rfl⟩
theorem bits_ex (p : Nat → Bool) : ∀ n, ∃ s, s < 2 ^ n ∧ ∀ x, x < n → s.testBit x = p x
  | 0 => ⟨0, by simp, fun x hx => by omega⟩
  | n + 1 => by
    obtain ⟨s, h1, h2⟩ := bits_ex p n
    have hb : s.testBit n = false := Nat.testBit_lt_two_pow h1
    cases hp : p n
    · refine ⟨s, by rw [Nat.pow_succ]; omega, fun x hx => ?_⟩
      by_cases e : x = n
      · subst e; rw [hb, hp]
      · exact h2 x (by omega)
    · refine ⟨2 ^ n + s, by rw [Nat.pow_succ]; omega, fun x hx => ?_⟩
      by_cases e : x = n
      · subst e; rw [Nat.testBit_two_pow_add_eq, hb, hp]; rfl
      · rw [Nat.testBit_two_pow_add_gt (by omega)]; exact h2 x (by omega)
theorem sub_len {a b : List Int} (ha : a.Pairwise (· < ·)) (hb : b.Pairwise (· < ·)) (h : ∀ x ∈ a, x ∈ b) : a.length ≤ b.length := by
  have e : b.filter (hasI a) = a := by
    refine sorted_ext (hb.filter _) ha fun x => ?_
    rw [List.mem_filter, hasI_iff]
    exact ⟨fun h => h.2, fun hx => ⟨h x hx, hx⟩⟩
  rw [← e]; exact List.length_filter_le _ _
theorem codeL_mono : ∀ {a b : List Int}, Dig a → Dig b → a.length = b.length → (∀ k, k < a.length → geti a k ≤ geti b k) → codeL a ≤ codeL b
  | [], [], _, _, _, _ => Int.le_refl _
  | [], y :: b, _, _, h, _ => by simp at h
  | x :: a, [], _, _, h, _ => by simp at h
  | x :: a, y :: b, ha, hb, h, hk => by
    have hl : a.length = b.length := by simpa using h
    have h0 : x ≤ y := hk 0 (by simp)
    rcases Int.lt_or_eq_of_le h0 with e | e
    · exact Int.le_of_lt (codeL_cons ha hb hl e)
    · subst e
      rw [codeL, codeL, hl]
      have := codeL_mono (fun z hz => ha z (List.mem_cons_of_mem _ hz)) (fun z hz => hb z (List.mem_cons_of_mem _ hz)) hl (fun k hk' => hk (k + 1) (by simpa using hk'))
      omega
/-- A set of rows, as a number. -/
def bitP (s : Nat) (x : Int) : Bool := s.testBit x.toNat
/-- The first choices of the sets below m. -/
def firstsTo (rows : List (List Int)) (m : Nat) : List (List Int) := (List.range m).filterMap fun s => firsts (bitP s) rows rows.length
theorem firstsTo_succ (rows : List (List Int)) (m : Nat) : firstsTo rows (m + 1) = match firsts (bitP m) rows rows.length with
    | none => firstsTo rows m
    | some l => firstsTo rows m ++ [l] := by
  unfold firstsTo
  rw [List.range_succ, List.filterMap_append]
  cases h : firsts (bitP m) rows rows.length <;> simp [h]
theorem bestW_snoc (n : Nat) (L : List (List Int)) (l : List Int) : bestW n (L ++ [l]) = better n (bestW n L) l := by
  unfold bestW; rw [List.foldl_append]; rfl
structure RowsOk (n : Nat) (rows : List (List Int)) : Prop where
  up : ∀ k, (getl rows k).Pairwise (· < ·)
  low : ∀ k, ∀ x ∈ getl rows k, 0 ≤ x ∧ x < (n : Int)
  few : n ≤ 16
theorem allR_dig {n : Nat} {rows : List (List Int)} (h : RowsOk n rows) {l : List Int} (hl : l ∈ allR rows) : Dig l ∧ l.length = rows.length := by
  obtain ⟨h1, h2⟩ := mem_allR.1 hl
  refine ⟨fun x hx => ?_, h1⟩
  obtain ⟨k, hk, rfl⟩ := List.getElem_of_mem hx
  have := h.low k _ (h2 k (by omega))
  rw [geti_eq hk] at this
  have := h.few
  omega
theorem short_best {n : Nat} {rows : List (List Int)} (h : RowsOk n rows) : bestW rows.length (firstsTo rows (2 ^ n)) = bestW rows.length (allR rows) := by
  refine bestW_eq (fun l hl => allR_dig h hl) (fun l hl => ?_) (fun b hb => ?_)
  · unfold firstsTo at hl
    rw [List.mem_filterMap] at hl
    obtain ⟨s, _, hs⟩ := hl
    exact mem_allR.2 ⟨firsts_len hs, fun k hk => (firsts_spec h.up hs k hk).1⟩
  · obtain ⟨hbl, hbm⟩ := mem_allR.1 hb
    obtain ⟨s, hs1, hs2⟩ := bits_ex (fun x => decide ((x : Int) ∈ b)) n
    have hbit : ∀ x : Int, 0 ≤ x → x < n → (bitP s x = true ↔ x ∈ b) := fun x h1 h2 => by
      unfold bitP
      rw [hs2 x.toNat (by omega), decide_eq_true_eq, Int.toNat_of_nonneg h1]
    have hin : ∀ k, k < rows.length → geti b k ∈ b := fun k hk => geti_mem (by omega)
    obtain ⟨l, hl⟩ := firsts_ex (g := bitP s) (ls := rows) (k := rows.length) fun j hj => by
      have := h.low j _ (hbm j hj)
      exact ⟨geti b j, hbm j hj, (hbit _ this.1 this.2).2 (hin j hj)⟩
    have hsp := firsts_spec h.up hl
    have hll := firsts_len hl
    have hlm : l ∈ allR rows := mem_allR.2 ⟨hll, fun k hk => (hsp k hk).1⟩
    refine ⟨l, by unfold firstsTo; rw [List.mem_filterMap]; exact ⟨s, List.mem_range.2 hs1, hl⟩, ?_⟩
    have hsub : ∀ x ∈ l, x ∈ b := fun x hx => by
      obtain ⟨k, hk, rfl⟩ := List.getElem_of_mem hx
      have h1 := hsp k (by omega)
      rw [geti_eq hk] at h1
      have := h.low k _ h1.1
      exact (hbit _ this.1 this.2).1 h1.2.1
    have hlen := sub_len (diffI_sort l).1 (diffI_sort b).1 fun x hx => ((diffI_sort b).2 x).2 (hsub x (((diffI_sort l).2 x).1 hx))
    have hcode := codeL_mono (allR_dig h hlm).1 (allR_dig h hb).1 (by omega) (fun k hk => by
      have := h.low k _ (hbm k (by omega))
      exact (hsp k (by omega)).2.2 _ (hbm k (by omega)) ((hbit _ this.1 this.2).2 (hin k (by omega))))
    unfold wt
    have hm : ((diffI l).length : Int) * 16 ^ rows.length ≤ ((diffI b).length : Int) * 16 ^ rows.length := Int.mul_le_mul_of_nonneg_right (by omega) (Int.le_of_lt (pow16 _))
    omega
end Go.Proofs.Ytjkfgldmeenmjaa
