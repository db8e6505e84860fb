/- Plain: what the program reads out of a text is what the reference reads. No program here. No conditions. -/
import Derived.Maps.AppendAt
import Derived.Test.YtbekpololmahoaaGreatDoorMStx
namespace Go.Proofs.YtbekpololmahoaaGreatDoor
open Go.RowKit
set_option linter.unusedVariables false
set_option linter.unusedSimpArgs false
def getw (ws : List (List UInt8)) (k : Nat) : List UInt8 := ws.getD k []
/-- A number with at most thirteen digits, as the reference reads it. -/
def valN (w : List UInt8) : Nat := w.foldl (fun n b => 10 * n + (b.toNat - 48)) 0
def digB (w : List UInt8) : Bool := w.all fun b => decide (48 ≤ b.toNat) && decide (b.toNat ≤ 57)
def valR (w : List UInt8) : Bool × Int :=
 if w.length < 1 then (false, 0) else if 13 < w.length then (false, 0) else if digB w = false then (false, 0) else (decide (Lib.decDigits (valN w) = w), (valN w : Int))
/-- A number, as the program reads it. -/
def numI (w : List UInt8) : Bool × Int := match Lib.parseIntB 64 w with
 | .ok v => (decide (Lib.itoa v = w), v)
 | _ => (false, 0)
def pstR (w : List UInt8) : Bool × (Int × Int) :=
 if w = [43] then (true, (-1, 0)) else match splitL 47 w with
  | [a, b] => ((valR a).1 && (valR b).1, ((valR a).2, (valR b).2))
  | _ => (false, (0, 0))
def pstI (w : List UInt8) : Bool × (Int × Int) :=
 if w = [43] then (true, (-1, 0)) else match splitL 47 w with
  | [a, b] => ((numI a).1 && (numI b).1, ((numI a).2, (numI b).2))
  | _ => (false, (0, 0))
def pairR (ps : List (List UInt8)) : Bool × (Int × Int) := match ps with
 | [a, b] => ((valR a).1 && (valR b).1, ((valR a).2, (valR b).2))
 | _ => (false, (0, 0))
def pairI (ps : List (List UInt8)) : Bool × (Int × Int) := match ps with
 | [a, b] => ((numI a).1 && (numI b).1, ((numI a).2, (numI b).2))
 | _ => (false, (0, 0))
theorem pstR_pair {w : List UInt8} (h : w ≠ [43]) : pstR w = pairR (splitL 47 w) := by unfold pstR; rw [if_neg h]; rfl
theorem pstI_pair {w : List UInt8} (h : w ≠ [43]) : pstI w = pairI (splitL 47 w) := by unfold pstI; rw [if_neg h]; rfl
theorem pairR_ne {ps : List (List UInt8)} (h : ps.length ≠ 2) : (pairR ps).1 = false := by
 match ps, h with
 | [], _ => rfl
 | [_], _ => rfl
 | [_, _], h => exact absurd rfl h
 | _ :: _ :: _ :: _, _ => rfl
theorem pairI_ne {ps : List (List UInt8)} (h : ps.length ≠ 2) : (pairI ps).1 = false := by
 match ps, h with
 | [], _ => rfl
 | [_], _ => rfl
 | [_, _], h => exact absurd rfl h
 | _ :: _ :: _ :: _, _ => rfl
theorem two_of {ps : List (List UInt8)} (h : ps.length = 2) : ∃ a b, ps = [a, b] := by
 match ps, h with
 | [a, b], _ => exact ⟨a, b, rfl⟩
def okTo (f : List UInt8 → Bool × (Int × Int)) (ws : List (List UInt8)) : Nat → Bool
 | 0 => true
 | k + 1 => okTo f ws k && (f (getw ws k)).1
def outTo (f : List UInt8 → Bool × (Int × Int)) (ws : List (List UInt8)) : Nat → List (Int × Int)
 | 0 => []
 | k + 1 => outTo f ws k ++ [(f (getw ws k)).2]
/-- What both return. -/
def psAns (t : List UInt8) : List (Int × Int) × Int :=
 if t = [] then ([], 0) else if okTo pstR (splitL 32 t) (splitL 32 t).length = false then ([], 6)
 else if codeS (outTo pstR (splitL 32 t) (splitL 32 t).length) ≠ 0 then ([], 6) else (outTo pstR (splitL 32 t) (splitL 32 t).length, 0)
def psImp (t : List UInt8) : List (Int × Int) × Int :=
 if t = [] then ([], 0) else if okTo pstI (splitL 32 t) (splitL 32 t).length = false then ([], 6)
 else if (stxAns (outTo pstI (splitL 32 t) (splitL 32 t).length)).2 ≠ 0 ∨ (stxAns (outTo pstI (splitL 32 t) (splitL 32 t).length)).1 ≠ t then ([], 6) else (outTo pstI (splitL 32 t) (splitL 32 t).length, 0)
theorem dec_lit {n : Int} (h0 : 0 ≤ n) (h1 : n ≤ 11) : (n, decW n) ∈ ([(0, [48]), (1, [49]), (2, [50]), (3, [51]), (4, [52]), (5, [53]), (6, [54]), (7, [55]), (8, [56]), (9, [57]), (10, [49, 48]), (11, [49, 49])] : List (Int × List UInt8)) := by
 have : n = 0 ∨ n = 1 ∨ n = 2 ∨ n = 3 ∨ n = 4 ∨ n = 5 ∨ n = 6 ∨ n = 7 ∨ n = 8 ∨ n = 9 ∨ n = 10 ∨ n = 11 := by omega
 rcases this with rfl | rfl | rfl | rfl | rfl | rfl | rfl | rfl | rfl | rfl | rfl | rfl <;> (unfold decW Lib.decDigits; simp) <;> (unfold Lib.decDigits; simp)
theorem val_dec {n : Int} (h0 : 0 ≤ n) (h1 : n ≤ 11) : valR (decW n) = (true, n) := by
 have hd : Lib.decDigits n.toNat = decW n := rfl
 have h := dec_lit h0 h1
 have key : valN (decW n) = n.toNat ∧ digB (decW n) = true ∧ 1 ≤ (decW n).length ∧ (decW n).length ≤ 2 := by
  generalize decW n = w at h
  simp only [List.mem_cons, Prod.mk.injEq, List.mem_nil_iff, or_false] at h
  rcases h with ⟨rfl, rfl⟩ | ⟨rfl, rfl⟩ | ⟨rfl, rfl⟩ | ⟨rfl, rfl⟩ | ⟨rfl, rfl⟩ | ⟨rfl, rfl⟩ | ⟨rfl, rfl⟩ | ⟨rfl, rfl⟩ | ⟨rfl, rfl⟩ | ⟨rfl, rfl⟩ | ⟨rfl, rfl⟩ | ⟨rfl, rfl⟩ <;> exact ⟨rfl, rfl, by decide, by decide⟩
 obtain ⟨k1, k2, k3, k4⟩ := key
 unfold valR
 rw [if_neg (by omega), if_neg (by omega), if_neg (by rw [k2]; decide), k1, hd]
 simp; omega
theorem num_dec {n : Int} (h0 : 0 ≤ n) (h1 : n ≤ 11) : numI (decW n) = (true, n) := by
 have hi : Lib.itoa n = decW n := by unfold Lib.itoa; rw [if_neg (by omega)]; rfl
 have h := dec_lit h0 h1
 have key : Lib.parseIntB 64 (decW n) = .ok n := by
  generalize decW n = w at h
  simp only [List.mem_cons, Prod.mk.injEq, List.mem_nil_iff, or_false] at h
  rcases h with ⟨rfl, rfl⟩ | ⟨rfl, rfl⟩ | ⟨rfl, rfl⟩ | ⟨rfl, rfl⟩ | ⟨rfl, rfl⟩ | ⟨rfl, rfl⟩ | ⟨rfl, rfl⟩ | ⟨rfl, rfl⟩ | ⟨rfl, rfl⟩ | ⟨rfl, rfl⟩ | ⟨rfl, rfl⟩ | ⟨rfl, rfl⟩ <;> decide
 unfold numI
 rw [key]
 simp [hi]
theorem num_text {w : List UInt8} (h : (numI w).1 = true) : w = Lib.itoa (numI w).2 := by
 unfold numI at h ⊢
 split at h
 ·rename_i v hv
  exact (of_decide_eq_true h).symm
 ·cases h
theorem val_text {w : List UInt8} (h : (valR w).1 = true) : 0 ≤ (valR w).2 ∧ w = decW (valR w).2 := by
 unfold valR at h ⊢
 split at h
 ·cases h
 ·split at h
  ·cases h
  ·split at h
   ·cases h
   ·rename_i h1 h2 h3
    rw [if_neg h1, if_neg h2, if_neg h3]
    refine ⟨by show (0 : Int) ≤ (valN w : Int); omega, ?_⟩
    have := of_decide_eq_true h
    unfold decW
    show w = Lib.decDigits ((valN w : Int)).toNat
    rw [Int.toNat_natCast, this]
theorem itoa_dec {n : Int} (h0 : 0 ≤ n) : Lib.itoa n = decW n := by unfold Lib.itoa; rw [if_neg (by omega)]; rfl
theorem two_join {w a b : List UInt8} (h : splitL 47 w = [a, b]) : w = a ++ [47] ++ b := by
 have := splitL_join 47 w
 rw [h, Lib.join_cons] at this
 rw [← this]; simp [Lib.joinTail]
theorem fit_in {x : Int × Int} (h : fitS x = true) (ho : openS x = false) : (0 ≤ x.1 ∧ x.1 ≤ 9) ∧ (0 ≤ x.2 ∧ x.2 ≤ 11) := by
 unfold fitS at h
 rw [ho, Bool.false_or, Bool.and_eq_true, inB_iff, inB_iff] at h
 exact h
/-- What the reference reads and may stand, the program reads; and it is written so. -/
theorem step_R {w : List UInt8} (h : (pstR w).1 = true) (hf : fitS (pstR w).2 = true) : pstI w = pstR w ∧ wordS (pstR w).2 = w := by
 unfold pstR at h hf ⊢
 unfold pstI
 by_cases hw : w = [43]
 ·rw [if_pos hw, if_pos hw]
  exact ⟨rfl, by rw [hw]; rfl⟩
 ·rw [if_neg hw] at h hf ⊢
  rw [if_neg hw]
  split at h
  ·rename_i a b hs
   simp only [hs] at hf ⊢
   rw [Bool.and_eq_true] at h
   obtain ⟨ha0, ha⟩ := val_text h.1
   obtain ⟨hb0, hb⟩ := val_text h.2
   have ho : openS ((valR a).2, (valR b).2) = false := by
    unfold openS
    have : ((valR a).2 == -1) = false := beq_eq_false_iff_ne.2 (by omega)
    simp [this]
   obtain ⟨⟨_, hi1⟩, _, hi2⟩ := fit_in hf ho
   have hi1 : (valR a).2 ≤ 9 := hi1
   have hi2 : (valR b).2 ≤ 11 := hi2
   have na : numI a = (true, (valR a).2) := by conv => lhs; rw [ha]; rw [num_dec ha0 (by omega)]
   have nb : numI b = (true, (valR b).2) := by conv => lhs; rw [hb]; rw [num_dec hb0 hi2]
   refine ⟨by rw [na, nb, h.1, h.2], ?_⟩
   unfold wordS
   rw [ho]
   show decW (valR a).2 ++ [47] ++ decW (valR b).2 = w
   rw [← ha, ← hb, ← two_join hs]
  ·cases h
/-- What the program reads and may stand is written no longer than it stood; if as long, then so, and the reference reads it, too. -/
theorem step_I {w : List UInt8} (h : (pstI w).1 = true) (hf : fitS (pstI w).2 = true) : (wordS (pstI w).2).length ≤ w.length ∧ ((wordS (pstI w).2).length = w.length → pstR w = pstI w) := by
 unfold pstI at h hf ⊢
 unfold pstR
 by_cases hw : w = [43]
 ·rw [if_pos hw]
  exact ⟨by rw [hw]; exact Nat.le_refl _, fun _ => by rw [if_pos hw]⟩
 ·rw [if_neg hw] at h hf ⊢
  rw [if_neg hw]
  split at h
  ·rename_i a b hs
   simp only [hs] at hf ⊢
   rw [Bool.and_eq_true] at h
   have ha := num_text h.1
   have hb := num_text h.2
   have hj := two_join hs
   cases ho : openS ((numI a).2, (numI b).2)
   ·obtain ⟨⟨p1, p2⟩, q1, q2⟩ := fit_in hf ho
    have p1 : 0 ≤ (numI a).2 := p1
    have p2 : (numI a).2 ≤ 9 := p2
    have q1 : 0 ≤ (numI b).2 := q1
    have q2 : (numI b).2 ≤ 11 := q2
    rw [itoa_dec p1] at ha
    rw [itoa_dec q1] at hb
    have va : valR a = (true, (numI a).2) := by conv => lhs; rw [ha]; rw [val_dec p1 (by omega)]
    have vb : valR b = (true, (numI b).2) := by conv => lhs; rw [hb]; rw [val_dec q1 q2]
    have hword : wordS ((numI a).2, (numI b).2) = w := by
     unfold wordS
     rw [ho]
     show decW (numI a).2 ++ [47] ++ decW (numI b).2 = w
     rw [← ha, ← hb, ← hj]
    exact ⟨by rw [hword]; exact Nat.le_refl _, fun _ => by rw [va, vb, h.1, h.2]⟩
   ·have hop : (numI a).2 = -1 ∧ (numI b).2 = 0 := by
     unfold openS at ho
     simp only [Bool.and_eq_true, beq_iff_eq] at ho
     exact ho
    have hla : a.length = 2 := by
     rw [ha, hop.1]
     unfold Lib.itoa Lib.decDigits
     simp
    have hwl : wordS ((numI a).2, (numI b).2) = [43] := by unfold wordS; rw [if_pos ho]
    rw [hwl]
    have hl : w.length = a.length + 1 + b.length := by rw [hj]; simp; omega
    refine ⟨by simp; omega, fun e => ?_⟩
    simp at e
    omega
  ·cases h
section
variable {f g : List UInt8 → Bool × (Int × Int)} {ws : List (List UInt8)}
theorem ok_all : ∀ {n}, okTo f ws n = true → ∀ k, k < n → (f (getw ws k)).1 = true
 | n + 1, h, k, hk => by
   unfold okTo at h
   rw [Bool.and_eq_true] at h
   by_cases e : k = n
   ·subst e; exact h.2
   ·exact ok_all h.1 k (by omega)
theorem ok_of : ∀ {n}, (∀ k, k < n → (f (getw ws k)).1 = true) → okTo f ws n = true
 | 0, _ => rfl
 | n + 1, h => by unfold okTo; rw [ok_of fun k hk => h k (by omega), h n (by omega)]; rfl
theorem ok_false {k : Nat} (h : okTo f ws k = false) : ∀ n, k ≤ n → okTo f ws n = false := by
 intro n hn
 induction n with
 | zero => obtain rfl : k = 0 := by omega
           exact h
 | succ n ih =>
   by_cases e : k = n + 1
   ·subst e; exact h
   ·unfold okTo; rw [ih (by omega)]; rfl
theorem out_len : ∀ n, (outTo f ws n).length = n
 | 0 => rfl
 | n + 1 => by simp [outTo, out_len n]
theorem out_get : ∀ {n k}, k < n → gets (outTo f ws n) k = (f (getw ws k)).2
 | n + 1, k, hk => by
   have hl : (outTo f ws n).length = n := out_len n
   unfold outTo gets
   by_cases e : k = n
   ·subst e
    simp [List.getD_eq_getElem?_getD, List.getElem?_append_right, hl]
   ·have := out_get (n := n) (k := k) (by omega)
    unfold gets at this
    rw [← this]
    simp [List.getD_eq_getElem?_getD, List.getElem?_append_left, hl, show k < n by omega]
theorem out_eq : ∀ {n}, (∀ k, k < n → f (getw ws k) = g (getw ws k)) → outTo f ws n = outTo g ws n
 | 0, _ => rfl
 | n + 1, h => by unfold outTo; rw [out_eq fun k hk => h k (by omega), h n (by omega)]
end
theorem words_get (l : List (Int × Int)) : ∀ {n k}, k < n → getw (wordsTo l n) k = wordS (gets l k)
 | n + 1, k, hk => by
   have hl := wordsTo_len l n
   unfold wordsTo getw
   by_cases e : k = n
   ·subst e
    simp [List.getD_eq_getElem?_getD, List.getElem?_append_right, hl]
   ·have := words_get l (n := n) (k := k) (by omega)
    unfold getw at this
    rw [← this]
    simp [List.getD_eq_getElem?_getD, List.getElem?_append_left, hl, show k < n by omega]
theorem list_ext {A B : List (List UInt8)} (hl : A.length = B.length) (h : ∀ k, k < A.length → getw A k = getw B k) : A = B := by
 apply List.ext_getElem hl
 intro k h1 h2
 have := h k h1
 unfold getw at this
 simpa [List.getD_eq_getElem?_getD, List.getElem?_eq_getElem h1, List.getElem?_eq_getElem h2] using this
theorem lens_cons (a : List UInt8) (A : List (List UInt8)) : Lib.lens (a :: A) = a.length + Lib.lens A := by simp [Lib.lens]
theorem lens_le : ∀ (A B : List (List UInt8)), A.length = B.length → (∀ k, k < A.length → (getw A k).length ≤ (getw B k).length) → Lib.lens A ≤ Lib.lens B
 | [], [], _, _ => Nat.le_refl _
 | a :: A, b :: B, hl, h => by
   have h0 := h 0 (by simp)
   have hr := lens_le A B (by simpa using hl) fun k hk => h (k + 1) (by simpa using hk)
   rw [lens_cons, lens_cons]
   have h0 : a.length ≤ b.length := h0
   omega
theorem lens_eq : ∀ (A B : List (List UInt8)), A.length = B.length → (∀ k, k < A.length → (getw A k).length ≤ (getw B k).length) → Lib.lens A = Lib.lens B → ∀ k, k < A.length → (getw A k).length = (getw B k).length
 | [], [], _, _, _, k, hk => by simp at hk
 | a :: A, b :: B, hl, h, he, k, hk => by
   have h0 := h 0 (by simp)
   have h0 : a.length ≤ b.length := h0
   have hr : ∀ k, k < A.length → (getw A k).length ≤ (getw B k).length := fun k hk => h (k + 1) (by simpa using hk)
   have hle := lens_le A B (by simpa using hl) hr
   rw [lens_cons, lens_cons] at he
   cases k with
   | zero => show a.length = b.length; omega
   | succ k => exact lens_eq A B (by simpa using hl) hr (by omega) k (by simpa using hk)
theorem join_len {A : List (List UInt8)} (h : A ≠ []) : (Lib.join A [32]).length + 1 = Lib.lens A + A.length := by
 cases A with
 | nil => exact absurd rfl h
 | cons a A =>
   rw [Lib.join_cons, List.length_append, Lib.joinTail_length, lens_cons]
   simp; omega
theorem stx_zero {l : List (Int × Int)} (h : codeS l = 0) : fitTo l l.length = true ∧ l.length ≤ 1200 ∧ stxAns l = (txtTo l l.length, 0) := by
 unfold codeS at h
 split at h
 ·cases h
 ·split at h
  ·cases h
  ·rename_i h1 h2
   refine ⟨by simpa using h1, by omega, ?_⟩
   unfold stxAns
   rw [if_neg h1, if_neg h2]
theorem stx_cod (l : List (Int × Int)) : (stxAns l).2 = codeS l := by
 unfold stxAns codeS
 split
 ·rfl
 ·split <;> rfl
theorem ps_eq (t : List UInt8) : psImp t = psAns t := by
 unfold psImp psAns
 by_cases ht : t = []
 ·rw [if_pos ht, if_pos ht]
 ·rw [if_neg ht, if_neg ht]
  have hj := splitL_join 32 t
  have hne := splitL_ne 32 t
  obtain ⟨ws, hws⟩ : ∃ ws, splitL 32 t = ws := ⟨_, rfl⟩
  rw [hws] at hj hne ⊢
  obtain ⟨n, hn⟩ : ∃ n, ws.length = n := ⟨_, rfl⟩
  rw [hn]
  have hlR := out_len (f := pstR) (ws := ws) n
  have hlI := out_len (f := pstI) (ws := ws) n
  by_cases hS : okTo pstR ws n = true ∧ codeS (outTo pstR ws n) = 0
  ·obtain ⟨h1, h2⟩ := hS
   obtain ⟨h3, h4, h5⟩ := stx_zero h2
   rw [hlR] at h3 h4 h5
   have hk : ∀ k, k < n → pstI (getw ws k) = pstR (getw ws k) ∧ wordS (pstR (getw ws k)).2 = getw ws k := fun k hk => by
    refine step_R (ok_all h1 k hk) ?_
    have := fitTo_at h3 hk
    rwa [out_get hk] at this
   have e1 : outTo pstI ws n = outTo pstR ws n := out_eq fun k h => (hk k h).1
   have e2 : okTo pstI ws n = true := ok_of fun k h => by rw [(hk k h).1]; exact ok_all h1 k h
   have e3 : wordsTo (outTo pstR ws n) n = ws := list_ext (by rw [wordsTo_len, hn]) fun k h => by
    rw [wordsTo_len] at h
    rw [words_get _ h, out_get h, (hk k h).2]
   have hR : (if okTo pstR ws n = false then (([], 6) : List (Int × Int) × Int) else if codeS (outTo pstR ws n) ≠ 0 then ([], 6) else (outTo pstR ws n, 0)) = (outTo pstR ws n, 0) := by
    rw [if_neg (by rw [h1]; decide), if_neg (by rw [h2]; decide)]
   rw [hR, if_neg (by rw [e2]; decide), e1, if_neg]
   rw [h5]
   rintro (h | h)
   ·exact h rfl
   ·exact h (by show txtTo _ n = t; rw [txt_join, e3, hj])
  ·have hR : (if okTo pstR ws n = false then (([], 6) : List (Int × Int) × Int) else if codeS (outTo pstR ws n) ≠ 0 then ([], 6) else (outTo pstR ws n, 0)) = ([], 6) := by
    split
    ·rfl
    ·rename_i h1
     rw [if_pos]
     exact fun h2 => hS ⟨by simpa using h1, h2⟩
   rw [hR]
   split
   ·rfl
   ·rename_i h1
    have h1 : okTo pstI ws n = true := by simpa using h1
    rw [if_pos]
    rw [Classical.or_iff_not_imp_left]
    intro h2 h3
    have h2 : (stxAns (outTo pstI ws n)).2 = 0 := Classical.not_not.1 h2
    rw [stx_cod] at h2
    obtain ⟨h4, h5, h6⟩ := stx_zero h2
    rw [hlI] at h4 h5 h6
    rw [h6] at h3
    have h3 : txtTo (outTo pstI ws n) n = t := h3
    rw [txt_join, ← hj] at h3
    have hk : ∀ k, k < n → (wordS (pstI (getw ws k)).2).length ≤ (getw ws k).length ∧ ((wordS (pstI (getw ws k)).2).length = (getw ws k).length → pstR (getw ws k) = pstI (getw ws k)) := fun k hk => by
     refine step_I (ok_all h1 k hk) ?_
     have := fitTo_at h4 hk
     rwa [out_get hk] at this
    have hwl := wordsTo_len (outTo pstI ws n) n
    have hlen : Lib.lens (wordsTo (outTo pstI ws n) n) = Lib.lens ws := by
     have a1 := join_len hne
     have a2 := join_len (A := wordsTo (outTo pstI ws n) n) (fun e => by
      have h1 := List.length_eq_zero_iff.2 e
      exact hne (List.length_eq_zero_iff.1 (by omega)))
     rw [h3] at a2
     omega
    have hall := lens_eq (wordsTo (outTo pstI ws n) n) ws (by omega) (fun k hkk => by
     rw [hwl] at hkk
     rw [words_get _ hkk, out_get hkk]
     exact (hk k hkk).1) hlen
    have hk2 : ∀ k, k < n → pstR (getw ws k) = pstI (getw ws k) := fun k hkk => by
     have := hall k (by omega)
     rw [words_get _ hkk, out_get hkk] at this
     exact (hk k hkk).2 this
    exact hS ⟨ok_of fun k hkk => by rw [hk2 k hkk]; exact ok_all h1 k hkk, by rw [out_eq hk2]; exact h2⟩
theorem split_join (c : UInt8) : ∀ (ws : List (List UInt8)), ws ≠ [] → (∀ w ∈ ws, ∀ x ∈ w, x ≠ c) → splitL c (Lib.join ws [c]) = ws
 | [], h, _ => absurd rfl h
 | [w], _, h => by rw [Lib.join_one]; exact splitL_last (h w (by simp))
 | w :: v :: r, _, h => by
   have ih := split_join c (v :: r) (by simp) (fun u hu => h u (by simp [hu]))
   have e : Lib.join (w :: v :: r) [c] = w ++ c :: Lib.join (v :: r) [c] := by
    rw [Lib.join_cons, Lib.join_cons]
    simp [Lib.joinTail]
   rw [e, splitL_pre (h w (by simp)), ih]
theorem dec_free {n : Int} (h0 : 0 ≤ n) (h1 : n ≤ 11) : (∀ b ∈ decW n, b ≠ 32 ∧ b ≠ 47) ∧ 1 ≤ (decW n).length := by
 have h := dec_lit h0 h1
 generalize decW n = w at h
 simp only [List.mem_cons, Prod.mk.injEq, List.mem_nil_iff, or_false] at h
 rcases h with ⟨rfl, rfl⟩ | ⟨rfl, rfl⟩ | ⟨rfl, rfl⟩ | ⟨rfl, rfl⟩ | ⟨rfl, rfl⟩ | ⟨rfl, rfl⟩ | ⟨rfl, rfl⟩ | ⟨rfl, rfl⟩ | ⟨rfl, rfl⟩ | ⟨rfl, rfl⟩ | ⟨rfl, rfl⟩ | ⟨rfl, rfl⟩ <;> decide
theorem word_free {x : Int × Int} (h : fitS x = true) : (∀ b ∈ wordS x, b ≠ 32) ∧ 1 ≤ (wordS x).length ∧ pstR (wordS x) = (true, x) := by
 unfold wordS
 by_cases ho : openS x = true
 ·rw [if_pos ho]
  refine ⟨fun b hb => by simp at hb; subst hb; decide, by simp, ?_⟩
  unfold pstR
  rw [if_pos rfl]
  unfold openS at ho
  simp at ho
  exact Prod.ext rfl (Prod.ext ho.1.symm ho.2.symm)
 ·rw [if_neg ho]
  obtain ⟨⟨a0, a1⟩, ⟨b0, b1⟩⟩ := fit_in h (by simpa using ho)
  obtain ⟨ha, hal⟩ := dec_free a0 (by omega : x.1 ≤ 11)
  obtain ⟨hb, hbl⟩ := dec_free b0 b1
  refine ⟨fun b hbb => ?_, by simp; omega, ?_⟩
  ·simp at hbb
   rcases hbb with h | h | h
   ·exact (ha b h).1
   ·subst h; decide
   ·exact (hb b h).1
  ·have hne : decW x.1 ++ [47] ++ decW x.2 ≠ [43] := fun e => by
    have := congrArg List.length e
    simp at this; omega
   rw [pstR_pair hne]
   have e : splitL 47 (decW x.1 ++ [47] ++ decW x.2) = [decW x.1, decW x.2] := by
    rw [List.append_assoc]
    show splitL 47 (decW x.1 ++ 47 :: decW x.2) = _
    rw [splitL_pre (fun b hbb => (ha b hbb).2), splitL_last (fun b hbb => (hb b hbb).2)]
   rw [e]
   show ((valR (decW x.1)).1 && (valR (decW x.2)).1, ((valR (decW x.1)).2, (valR (decW x.2)).2)) = (true, x)
   rw [val_dec a0 (by omega), val_dec b0 b1]
   rfl
theorem gets_ext {a b : List (Int × Int)} (hl : a.length = b.length) (h : ∀ k, k < a.length → gets a k = gets b k) : a = b := by
 apply List.ext_getElem hl
 intro k h1 h2
 have := h k h1
 unfold gets at this
 simpa [List.getD_eq_getElem?_getD, List.getElem?_eq_getElem h1, List.getElem?_eq_getElem h2] using this
/-- What has been written is read back. -/
theorem stx_ps {l : List (Int × Int)} (h : (stxAns l).2 = 0) : psAns (stxAns l).1 = (l, 0) := by
 have hc : codeS l = 0 := by rw [← stx_cod]; exact h
 obtain ⟨hf, hlen, hs⟩ := stx_zero hc
 rw [hs]
 show psAns (txtTo l l.length) = (l, 0)
 cases hl : l with
 | nil => rfl
 | cons x r =>
   rw [← hl]
   have hn : 0 < l.length := by rw [hl]; simp
   have hwl := wordsTo_len l l.length
   have hw : ∀ w ∈ wordsTo l l.length, ∃ k, k < l.length ∧ w = wordS (gets l k) := fun w hw => by
    obtain ⟨k, hk, e⟩ := List.getElem_of_mem hw
    rw [hwl] at hk
    refine ⟨k, hk, ?_⟩
    rw [← words_get l hk, ← e]
    simp [getw, List.getD_eq_getElem?_getD, List.getElem?_eq_getElem (show k < (wordsTo l l.length).length by omega)]
   have hsp : splitL 32 (txtTo l l.length) = wordsTo l l.length := by
    rw [txt_join]
    refine split_join 32 _ (fun e => by rw [e] at hwl; simp at hwl; omega) fun w hm => ?_
    obtain ⟨k, hk, rfl⟩ := hw w hm
    exact (word_free (fitTo_at hf hk)).1
   have hne : txtTo l l.length ≠ [] := fun e => by
    rw [e] at hsp
    have h0 : wordsTo l l.length = [[]] := hsp.symm
    have := words_get l hn
    rw [h0] at this
    have h1 := (word_free (fitTo_at hf hn)).2.1
    rw [← this] at h1
    exact absurd h1 (by decide)
   unfold psAns
   rw [if_neg hne, hsp, hwl]
   have hk : ∀ k, k < l.length → pstR (getw (wordsTo l l.length) k) = (true, gets l k) := fun k hk => by
    rw [words_get l hk]; exact (word_free (fitTo_at hf hk)).2.2
   have hout : outTo pstR (wordsTo l l.length) l.length = l := gets_ext (out_len _) fun k hkk => by
    rw [out_len] at hkk
    rw [out_get hkk, hk k hkk]
   rw [if_neg (by rw [ok_of fun k hkk => by rw [hk k hkk]]; decide), hout, if_neg (by rw [hc]; decide)]
/-- What has been read is written back. -/
theorem ps_stx {t : List UInt8} {l : List (Int × Int)} (h : psAns t = (l, 0)) : stxAns l = (t, 0) := by
 rw [← ps_eq] at h
 unfold psImp at h
 by_cases ht : t = []
 ·rw [if_pos ht] at h
  cases h
  rw [ht]; rfl
 ·rw [if_neg ht] at h
  split at h
  ·cases h
  ·split at h
   ·cases h
   ·rename_i h1
    cases h
    exact Prod.ext (Classical.not_not.1 fun e => h1 (.inr e)) (Classical.not_not.1 fun e => h1 (.inl e))
/-- A text of steps is short. -/
theorem stx_len (l : List (Int × Int)) : (stxAns l).1.length ≤ 7200 := by
 unfold stxAns
 split
 ·simp
 ·split
  ·simp
  ·rename_i h1 h2
   have := txt_len (l := l) (n := l.length) (by simpa using h1) l.length (Nat.le_refl _)
   show (txtTo l l.length).length ≤ 7200
   omega
theorem split_len' (c : UInt8) : ∀ l, (splitL c l).length ≤ l.length + 1
 | [] => by simp [splitL]
 | x :: r => by
   have ih := split_len' c r
   rw [splitL_cons]
   split
   ·simp; omega
   ·split
    ·simp
    ·rename_i h
     rw [h] at ih
     simp at ih ⊢; omega
theorem ps_len (t : List UInt8) : (psAns t).1.length ≤ t.length + 1 := by
 unfold psAns
 split
 ·simp
 ·split
  ·simp
  ·split
   ·simp
   ·rw [out_len]; exact split_len' 32 t
theorem inf_str : (Tryz.prog.info? 9).map (fun i => (i.zero, i.size, i.bytes)) = some (some (.string ⟨#[]⟩), 1, 16) := by kernel_rfl
def strV (b : List UInt8) : Value := .string (bs b)
theorem own_cellS {w : World} {B : Nat} {e : TypeId} {g n c : Nat} {vs : List Value} (h : w.ownsRow B e 1 (.slice (some ⟨g, 0, none⟩) n c) n vs) : g < w.heap.size ∧ n ≤ c ∧ ∀ j u, vs[j]? = some u → w.cell? ⟨g, 0 + j, none⟩ = some u := by
 rcases h.2 with ⟨e1, _⟩ | ⟨g', cap, cur, e1, h1, h2, h3, h4, h5, h6⟩
 ·cases e1
 ·cases e1
  refine ⟨lt_of_heap h2, h3, fun j u hj => ?_⟩
  rw [cell_of_block h2, Nat.zero_add, ← Array.getElem?_toList]
  rw [← h6, List.getElem?_take] at hj
  split at hj
  ·exact hj
  ·cases hj
theorem join_words (l : List (Int × Int)) {W0 wo : World} {oa : Option Addr} {oc n : Nat} {ws : List (List UInt8)} (hown : wo.ownsRow W0.heap.size 9 1 (.slice oa n oc) n (ws.map strV)) (hjl : (Lib.join ws [32]).length ≤ 140737488355328) (hwl : ws.length = n) (hn9 : n ≤ 140737488355328) :
  Calls Tryz.prog 24 #[.slice oa n oc, .string { data := #[32] }] wo fun e w' => e = .returned (.string (bs (Lib.join ws [32]))) ∧ Below wo.heap.size wo w' := by
 have hsep : (ByteArray.mk #[32]).data.toList = [32] := rfl
 by_cases hn : n = 0
 ·have hw0 : ws = [] := List.length_eq_zero_iff.1 (by omega)
  subst hw0
  subst hn
  refine (Go.Proofs.Tryz.strings_Join_none oa oc { data := #[32] } wo).mono ?_
  rintro e w ⟨he, hw⟩
  rw [Lib.join_nil]
  subst hw
  exact ⟨he, Below.refl _ _⟩
 ·rcases hown.2 with ⟨e1, e2⟩ | ⟨g, cap, cur, e1, _⟩
  ·exact absurd e2 hn
  ·cases e1
   obtain ⟨h1, h2, h3⟩ := own_cellS hown
   have hxs : (ws.map bs).length = n := by rw [List.length_map]; exact hwl
   have hmap : (ws.map bs).map (·.data.toList) = ws := by
    rw [List.map_map]
    conv => rhs; rw [← List.map_id ws]
    rfl
   have hJ := Go.Proofs.Tryz.strings_Join g 0 oc (ws.map bs) { data := #[32] } wo (fun j x hj => h3 j (.string x) (by
    rw [List.getElem?_map] at hj ⊢
    cases hw : ws[j]? with
    | none => rw [hw] at hj; cases hj
    | some y => rw [hw] at hj; cases hj; rfl)) h1 (by rw [hxs]; exact hn9) (by rw [hxs]; exact h2) (by rw [hmap, hsep]; exact hjl)
   rw [hmap, hxs, hsep] at hJ
   exact hJ
set_option maxRecDepth 100000 in
set_option maxHeartbeats 8000000 in
theorem StepsText_any {S : Nat → Prop} (v : Value) (l : List (Int × Int)) (W : World) (h : VS S W v l) (hlen : l.length ≤ 100000000) :
  Calls Tryz.prog 6 #[v] W fun e' w' => e' = .returned (.tuple #[.string (bs (stxAns l).1), .int .i64 (stxAns l).2]) ∧ Below W.heap.size W w' := by
 have hV := h
 obtain ⟨a, c, rfl, hm⟩ := h.form
 obtain ⟨i0, gi, gz0, gz1, gz2⟩ := info_parts inf_str
 have hown0 := own_lit0 W W.heap.size 9 1 (Nat.le_refl _)
 have hbl : Below W.heap.size W (W.alloc (.cells #[] 9)) := (Below.refl _ _).alloc (Nat.le_refl _) _
 have HO0 := Lib.hid (And.intro hown0 hbl); clear hown0 hbl
 go_enter Tryz.func6, Tryz.ntmps6
 go_wp2_with fail
 go_loopw [4, 10] (fun ov i wr => ∃ k : Nat, k ≤ l.length ∧ i = .int .i64 k ∧ fitTo l k = true ∧ wr.ownsRow W.heap.size 9 1 ov k ((wordsTo l k).map strV) ∧ Below W.heap.size W wr) (fun _ i _ => l.length - (intOf i).toNat)
 case atStart => exact ⟨0, Nat.zero_le _, rfl, rfl, HO0.out.1, HO0.out.2⟩
 case round =>
  obtain ⟨k, hk, rfl, hft, hown, hB⟩ := hrel
  have hzW := hB.size
  obtain ⟨oa, oc, rfl, ho1, ho2⟩ := own_form hown
  obtain ⟨wo, rfl⟩ : ∃ q, q = wr := ⟨_, rfl⟩
  by_cases hkk : k < l.length
  ·obtain ⟨b1, off1, rfl, _, hc1, hc2⟩ := (hV.below hB).cell hkk
   have hkn : ¬ l.length ≤ k := by omega
   have hkd : decide (k < l.length) = true := decide_eq_true hkk
   have hwstep : wordsTo l (k + 1) = wordsTo l k ++ [wordS (gets l k)] := rfl
   have hfstep : fitTo l (k + 1) = fitS (gets l k) := by unfold fitTo; rw [hft]; rfl
   obtain ⟨x, hx⟩ : ∃ x, gets l k = x := ⟨_, rfl⟩
   rw [hx] at hc1 hc2 hwstep hfstep
   have HS := Lib.hid (And.intro hwstep (And.intro hfstep (And.intro hx (And.intro hown hB)))); clear hwstep hfstep hx hft hown hB
   obtain ⟨wx, hwx, hBx, hzx, HZx, hcx, hhx⟩ := box_facts wo #[.int .i64 x.1, .int .i64 x.2] 48
   cases ho : openS x
   ·have HO := Lib.hid ho; clear ho
    cases h1 : inB x.1 0 9
    ·have H1 := Lib.hid h1; clear h1
     have hbad : stxAns l = ([], 2) := by
      have h2 : fitTo l (k + 1) = false := by rw [HS.out.2.1]; unfold fitS; rw [HO.out, H1.out]; rfl
      unfold stxAns
      rw [if_pos (fitTo_false h2 _ (by omega))]
     have Hbad := Lib.hid hbad; clear hbad
     go_wp2_with fail
     rw [← hwx]
     refine (isOpenStep_b x _ _ HO.out).mono ?_
     rintro e' w2 ⟨rfl, hb2⟩
     have hb02 := hBx.trans (hb2.mono hBx.size)
     have hz02 := hb02.size
     have hown2 := own_chg HS.out.2.2.2.1 (Chg.of_below (F := fun _ => False) hb02) (fun _ _ h => h)
     have hcx2 : ∀ o, w2.cell? ⟨wo.heap.size, o, none⟩ = (#[.int .i64 x.1, .int .i64 x.2] : Array Value)[o]? := fun o => by rw [(bcell hb2).1 _ _ hzx, hcx]
     clear hc1 hc2 hcx hhx
     go_wp2_with (go_at_call 22; refine (within_b x.1 0 9 _ _ H1.out).mono ?_; rintro e' w'' ⟨rfl, rfl⟩)
     go_ret2
     exact ⟨by rw [Hbad.out]; rfl, HS.out.2.2.2.2.trans (hb02.mono hzW)⟩
    ·have H1 := Lib.hid h1; clear h1
     cases h2 : inB x.2 0 11
     ·have H2 := Lib.hid h2; clear h2
      have hbad : stxAns l = ([], 2) := by
       have h2 : fitTo l (k + 1) = false := by rw [HS.out.2.1]; unfold fitS; rw [HO.out, H1.out, H2.out]; rfl
       unfold stxAns
       rw [if_pos (fitTo_false h2 _ (by omega))]
      have Hbad := Lib.hid hbad; clear hbad
      go_wp2_with fail
      rw [← hwx]
      refine (isOpenStep_b x _ _ HO.out).mono ?_
      rintro e' w2 ⟨rfl, hb2⟩
      have hb02 := hBx.trans (hb2.mono hBx.size)
      have hz02 := hb02.size
      have hown2 := own_chg HS.out.2.2.2.1 (Chg.of_below (F := fun _ => False) hb02) (fun _ _ h => h)
      have hcx2 : ∀ o, w2.cell? ⟨wo.heap.size, o, none⟩ = (#[.int .i64 x.1, .int .i64 x.2] : Array Value)[o]? := fun o => by rw [(bcell hb2).1 _ _ hzx, hcx]
      clear hc1 hc2 hcx hhx
      go_wp2_with (first | (go_at_call 22; with_reducible refine (within_b x.1 0 9 _ _ H1.out).mono ?_; rintro e' w'' ⟨rfl, rfl⟩) | (go_at_call 22; with_reducible refine (within_b x.2 0 11 _ _ H2.out).mono ?_; rintro e' w'' ⟨rfl, rfl⟩))
      go_ret2
      exact ⟨by rw [Hbad.out]; rfl, HS.out.2.2.2.2.trans (hb02.mono hzW)⟩
     ·have H2 := Lib.hid h2; clear h2
      have hr1 := inB_iff.1 H1.out
      have hr2 := inB_iff.1 H2.out
      have hw : wordS x = decW x.1 ++ [47] ++ decW x.2 := by unfold wordS; rw [HO.out]; rfl
      have hd1 := dec_small hr1.1 (Int.le_trans hr1.2 (by omega))
      have hd2 := dec_small hr2.1 hr2.2
      have hC1 := fun w => text_small x.1 hr1.1 (Int.le_trans hr1.2 (by omega)) w
      have hC2 := fun w => text_small x.2 hr2.1 hr2.2 w
      obtain ⟨d1, hd1e⟩ : ∃ d, bs (decW x.1) = d := ⟨_, rfl⟩
      obtain ⟨d2, hd2e⟩ : ∃ d, bs (decW x.2) = d := ⟨_, rfl⟩
      obtain ⟨s2, hs2⟩ : ∃ s, bs (decW x.1 ++ [47]) = s := ⟨_, rfl⟩
      obtain ⟨s3, hs3⟩ : ∃ s, bs (decW x.1 ++ [47] ++ decW x.2) = s := ⟨_, rfl⟩
      have ha2 : d1 ++ ({ data := #[47] } : ByteArray) = s2 := by rw [← hd1e, ← hs2]; exact bs_app _ [47]
      have ha3 : s2 ++ d2 = s3 := by rw [← hs2, ← hd2e, ← hs3]; exact bs_app _ _
      have hq1 : d1.size ≤ 2 := by rw [← hd1e, bs_size]; omega
      have hq2 : d2.size ≤ 2 := by rw [← hd2e, bs_size]; omega
      have hz3 : s2.size ≤ 100 := by rw [← hs2, bs_size, List.length_append]; simp; omega
      have hg2 : ¬ 9223372036854775807 < d1.size + 1 := by omega
      have hg3 : ¬ 9223372036854775807 < s2.size + d2.size := by omega
      have hnx : (wordsTo l (k + 1)).map strV = (wordsTo l k).map strV ++ [.string s3] := by
       rw [HS.out.1, hw, List.map_append, ← hs3]; rfl
      simp only [hd1e] at hC1
      simp only [hd2e] at hC2
      have HX := Lib.hid (And.intro hnx (And.intro hC1 hC2)); clear hr1 hr2 hnx hd1 hd2 hw hC1 hC2 hd1e hd2e hs2 hs3
      go_wp2_with fail
      rw [← hwx]
      refine (isOpenStep_b x _ _ HO.out).mono ?_
      rintro e' w2 ⟨rfl, hb2⟩
      have hb02 := hBx.trans (hb2.mono hBx.size)
      have hz02 := hb02.size
      have hown2 := own_chg HS.out.2.2.2.1 (Chg.of_below (F := fun _ => False) hb02) (fun _ _ h => h)
      have hcx2 : ∀ o, w2.cell? ⟨wo.heap.size, o, none⟩ = (#[.int .i64 x.1, .int .i64 x.2] : Array Value)[o]? := fun o => by rw [(bcell hb2).1 _ _ hzx, hcx]
      clear hc1 hc2 hcx hhx
      have hS2 : w2.cell? ⟨wo.heap.size, 0, none⟩ = some (.int .i64 x.1) ∧ w2.cell? ⟨wo.heap.size, 1, none⟩ = some (.int .i64 x.2) := ⟨hcx2 0, hcx2 1⟩
      go_wp2_with (first | (go_at_call 22; with_reducible refine (within_b x.1 0 9 _ _ H1.out).mono ?_; rintro e' w'' ⟨rfl, rfl⟩) | (go_at_call 22; with_reducible refine (within_b x.2 0 11 _ _ H2.out).mono ?_; rintro e' w'' ⟨rfl, rfl⟩))
      clear hcx2
      refine wp_region_noPanic ?_
      refine wp_region_held_drew (S := fun w' => w'.cell? ⟨wo.heap.size, 0, none⟩ = some (.int .i64 x.1) ∧ w'.cell? ⟨wo.heap.size, 1, none⟩ = some (.int .i64 x.2)) (by kernel_rfl) ⟨cell_keep hS2.1 rfl, cell_keep hS2.2 rfl⟩ (fun hHeld => ?_)
      (refine wpAnyH_take (i := 0) (v := .slice oa k oc) rfl (by kernel_rfl) (by kernel_rfl) (by kernel_rfl) (fun _ _ _ h => h) (Or.inl ⟨by kernel_rfl, fun w hSw => by (try dsimp only at hSw); go_split_ands; go_simp⟩) (by assumption) ?_; simp only [Act.put, List.setIfInBounds_toArray, List.set_cons_zero, List.set_cons_succ])
      (refine wpAnyH_take (i := 1) (v := .pointer (some ⟨wo.heap.size, 0, none⟩)) rfl (by kernel_rfl) (by kernel_rfl) (by kernel_rfl) (fun _ _ _ h => h) (Or.inl ⟨by kernel_rfl, fun w hSw => by (try dsimp only at hSw); go_split_ands; go_simp⟩) (by assumption) ?_; simp only [Act.put, List.setIfInBounds_toArray, List.set_cons_zero, List.set_cons_succ])
      (refine wpAnyH_take (i := 2) (v := .int .i64 x.1) rfl (by kernel_rfl) (by kernel_rfl) (by kernel_rfl) (fun _ _ _ h => h) (Or.inl ⟨by kernel_rfl, fun w hSw => by (try dsimp only at hSw); go_split_ands; go_simp⟩) (by assumption) ?_; simp only [Act.put, List.setIfInBounds_toArray, List.set_cons_zero, List.set_cons_succ])
      (refine wpAnyH_take (i := 5) (v := .pointer (some ⟨wo.heap.size, 1, none⟩)) rfl (by kernel_rfl) (by kernel_rfl) (by kernel_rfl) (fun _ _ _ h => h) (Or.inl ⟨by kernel_rfl, fun w hSw => by (try dsimp only at hSw); go_split_ands; go_simp⟩) (by assumption) ?_; simp only [Act.put, List.setIfInBounds_toArray, List.set_cons_zero, List.set_cons_succ])
      (refine wpAnyH_take (i := 6) (v := .int .i64 x.2) rfl (by kernel_rfl) (by kernel_rfl) (by kernel_rfl) (fun _ _ _ h => h) (Or.inl ⟨by kernel_rfl, fun w hSw => by (try dsimp only at hSw); go_split_ands; go_simp⟩) (by assumption) ?_; simp only [Act.put, List.setIfInBounds_toArray, List.set_cons_zero, List.set_cons_succ])
      have hb2d : Below w2.heap.size w2 w2.drew := (Below.refl _ _).drew
      have hownd := own_chg hown2 (Chg.of_below (F := fun _ => False) hb2d) (fun _ _ h => h)
      obtain ⟨wd, hwd⟩ : ∃ wd, wd = w2.drew := ⟨_, rfl⟩
      rw [← hwd] at hHeld hb2d hownd ⊢
      clear hwd hS2 hown2
      refine wpAnyH_ready (rs := [3]) (by kernel_rfl) (by simp) (AllReadyH.cons rfl (fun K hK => ?_) AllReadyH.nil)
      go_simp
      go_at_call 23
      refine (HX.out.2.1 _).mono ?_
      rintro e' w5 ⟨rfl, rfl⟩
      dsimp only
      (refine hK.out _ _ hHeld (fun hHeld => ?_); clear hK K; (try simp only [Act.put, List.setIfInBounds_toArray, List.set_cons_zero, List.set_cons_succ]))
      (refine wpAnyH_take (i := 4) (v := .string s2) rfl (by kernel_rfl) (by kernel_rfl) (by kernel_rfl) (fun _ _ _ h => h) (Or.inl ⟨by kernel_rfl, fun w hSw => by (try dsimp only at hSw); go_split_ands; go_simp⟩) (by assumption) ?_; simp only [Act.put, List.setIfInBounds_toArray, List.set_cons_zero, List.set_cons_succ])
      refine wpAnyH_ready (rs := [7]) (by kernel_rfl) (by simp) (AllReadyH.cons rfl (fun K hK => ?_) AllReadyH.nil)
      go_simp
      go_at_call 23
      refine (HX.out.2.2 _).mono ?_
      rintro e' w6 ⟨rfl, rfl⟩
      dsimp only
      (refine hK.out _ _ hHeld (fun hHeld => ?_); clear hK K; (try simp only [Act.put, List.setIfInBounds_toArray, List.set_cons_zero, List.set_cons_succ]))
      (refine wpAnyH_take (i := 8) (v := .string s3) rfl (by kernel_rfl) (by kernel_rfl) (by kernel_rfl) (fun _ _ _ h => h) (Or.inl ⟨by kernel_rfl, fun w hSw => by (try dsimp only at hSw); go_split_ands; go_simp⟩) (by assumption) ?_; simp only [Act.put, List.setIfInBounds_toArray, List.set_cons_zero, List.set_cons_succ])
      obtain ⟨wb, hwb⟩ : ∃ wb, wb = w6.alloc (.cells #[.string s3] 9) := ⟨_, rfl⟩
      have hbb : Below w6.heap.size w6 wb := by rw [hwb]; exact (Below.refl _ _).alloc (Nat.le_refl _) _
      have hownb := own_chg hownd (Chg.of_below (F := fun _ => False) hbb) (fun _ _ h => h)
      have hnb : ∀ j u, [Value.string s3][j]? = some u → wb.cell? ((⟨w6.heap.size, 0, none⟩ : Addr).add j) = some u := by rw [hwb]; exact World.news_of_block (heap_alloc_new _ _)
      have hSb : wb.cell? ⟨wo.heap.size, 0, none⟩ = some (.int .i64 x.1) ∧ wb.cell? ⟨wo.heap.size, 1, none⟩ = some (.int .i64 x.2) := ⟨cell_keep hHeld.1 (hbb.block _ (lt_of_cell hHeld.1)), cell_keep hHeld.2 (hbb.block _ (lt_of_cell hHeld.2))⟩
      have hzb : W.heap.size ≤ wb.heap.size := Nat.le_trans (Nat.le_trans (Nat.le_trans hzW hb02.size) hb2d.size) hbb.size
      have Hwb := Lib.hid hwb; clear hwb
      refine wpAnyH_ready (rs := [9]) (by kernel_rfl) (by simp) (AllReadyH.cons rfl (fun K hK => ?_) AllReadyH.nil)
      go_simp
      rw [← Hwb.out]
      (refine hK.out _ _ hSb (fun hHeld => ?_); clear hK K; (try simp only [Act.put, List.setIfInBounds_toArray, List.set_cons_zero, List.set_cons_succ]))
      refine wpAnyH_ready (rs := [10]) (by kernel_rfl) (by simp) (AllReadyH.cons rfl (fun K hK => ?_) AllReadyH.nil)
      refine step_append_lies _ (by rfl) _ _ _ (by rfl) W.heap.size 9 i0 _ 1 16 Tryz.underlying46 gi gz0 gz1 gz2 rfl (by omega) _ k _ (by rfl) hownb ⟨_, 0, none⟩ 1 1 [.string s3] (by rfl) (by rfl) hnb (by simp [Value.oneCell']) (by omega) (by unfold maxLen; omega) (by omega) hzb _ rfl ?_
      intro gg cap8 w8 hown8 hgrow8 hat8 hlt8
      have hB8 : Below W.heap.size wb w8 := (Below.refl _ _).grown hgrow8 hzb (fun g hg => (hownb.lt g hg).1)
      have hS8 : w8.cell? ⟨wo.heap.size, 0, none⟩ = some (.int .i64 x.1) ∧ w8.cell? ⟨wo.heap.size, 1, none⟩ = some (.int .i64 x.2) := by
       have hne : wb.heap.size ≥ 0 := Nat.zero_le _
       have hz8 : ∀ g, Value.ownBlock (.slice oa k oc) = some g → g < wo.heap.size := fun g hg => (HS.out.2.2.2.1.lt g hg).2
       have hk8 : w8.heap[wo.heap.size]? = wb.heap[wo.heap.size]? := hgrow8.block _ (lt_of_cell hSb.1) (fun e => by have := hz8 _ e.symm; omega)
       exact ⟨cell_keep hSb.1 hk8, cell_keep hSb.2 hk8⟩
      have HB := Lib.hid (And.intro hown8 ((HS.out.2.2.2.2.trans (hb02.mono hzW)).trans (((hb2d.mono (Nat.le_trans hzW hb02.size)).trans (hbb.mono (Nat.le_trans (Nat.le_trans hzW hb02.size) hb2d.size))).trans hB8))); clear hown8 hgrow8 hat8 hlt8 hB8
      (refine hK.out _ _ hS8 (fun hHeld => ?_); clear hK K; (try simp only [Act.put, List.setIfInBounds_toArray, List.set_cons_zero, List.set_cons_succ]))
      (refine wpAnyH_ready (rs := [11]) (by kernel_rfl) (by simp) (AllReadyH.cons rfl (fun K hK => ?_) AllReadyH.nil); go_simp)
      (refine hK.out _ _ hS8 (fun hHeld => ?_); clear hK K; (try simp only [Act.put, List.setIfInBounds_toArray, List.set_cons_zero, List.set_cons_succ]))
      refine wpAnyH_done (by kernel_rfl) (NoPanic.normal ?_) _
      go_wp2_with fail
      go_roundw
      case rel => exact ⟨k + 1, by omega, by go_num, by rw [HS.out.2.1]; unfold fitS; rw [HO.out, H1.out, H2.out]; rfl, by rw [HX.out.1]; exact HB.out.1, HB.out.2⟩
      case measure => simp [intOf]; omega
   ·have HO := Lib.hid ho; clear ho
    have hw : wordS x = [43] := by unfold wordS; rw [if_pos HO.out]
    have Hw := Lib.hid hw; clear hw
    go_wp2_with fail
    rw [← hwx]
    refine (isOpenStep_b x _ _ HO.out).mono ?_
    rintro e' w2 ⟨rfl, hb2⟩
    have hb02 := hBx.trans (hb2.mono hBx.size)
    have hz02 := hb02.size
    have hown2 := own_chg HS.out.2.2.2.1 (Chg.of_below (F := fun _ => False) hb02) (fun _ _ h => h)
    have hcx2 : ∀ o, w2.cell? ⟨wo.heap.size, o, none⟩ = (#[.int .i64 x.1, .int .i64 x.2] : Array Value)[o]? := fun o => by rw [(bcell hb2).1 _ _ hzx, hcx]
    clear hc1 hc2 hcx hhx
    clear hcx2
    go_wp2_with ((at_builtin; refine wp_app1 _ rfl _ _ 46 rfl W.heap.size 9 (.string ⟨#[]⟩) 16 Tryz.underlying46 inf_str rfl _ _ _ rfl hown2 (.string ⟨#[43]⟩) _ rfl rfl (by omega) (by omega) (by omega) ?_; intro v1 w1 hown1 hgrow1 hblk1 hB1); refine Hid.out ?_)
    refine Lib.hid ?_
    have HB := Lib.hid (And.intro hown1 hB1); clear hown1 hB1 hown2
    obtain ⟨na, nc, rfl, _, _⟩ := own_form HB.out.1
    go_wp2_with fail
    go_roundw
    case rel => exact ⟨k + 1, by omega, by go_num, by rw [HS.out.2.1]; unfold fitS; rw [HO.out]; rfl, by rw [HS.out.1, Hw.out, List.map_append]; exact HB.out.1, (HS.out.2.2.2.2.trans (hb02.mono hzW)).trans HB.out.2⟩
    case measure => simp [intOf]; omega
  ·obtain rfl : k = l.length := by omega
   have hkd : decide (l.length < l.length) = false := decide_eq_false (Nat.lt_irrefl _)
   by_cases hl : 1200 < l.length
   ·have hans : stxAns l = ([], 3) := by
     unfold stxAns
     rw [if_neg (by rw [hft]; decide), if_pos hl]
    have H := Lib.hid (And.intro hans hB); clear hans hB hft hown
    go_wp2_with fail
    go_ret2
    exact ⟨by rw [H.out.1]; rfl, H.out.2⟩
   ·have hans : stxAns l = (txtTo l l.length, 0) := by
     unfold stxAns
     rw [if_neg (by rw [hft]; decide), if_neg hl]
    have hjl : (Lib.join (wordsTo l l.length) [32]).length ≤ 140737488355328 := by
     rw [← txt_join]
     have := txt_len hft l.length (Nat.le_refl _)
     omega
    have hwl := wordsTo_len l l.length
    have hcall := join_words l hown hjl hwl (by omega)
    rw [← txt_join] at hcall
    have H := Lib.hid (And.intro hans (And.intro hB hcall)); clear hans hB hft hown hjl hwl hcall
    go_wp2_with fail
    refine H.out.2.2.mono ?_
    rintro e' w2 ⟨rfl, hb2⟩
    go_wp2_with fail
    go_ret2
    exact ⟨by rw [H.out.1]; rfl, H.out.2.1.trans (hb2.mono hzW)⟩
/-- A list of strings. -/
def SW (w : World) (v : Value) (ws : List (List UInt8)) : Prop :=
 ∃ a c, v = .slice a ws.length c ∧ ∀ k, k < ws.length → ∃ g off, a = some ⟨g, off, none⟩ ∧ w.cell? ⟨g, off + k, none⟩ = some (.string (bs (getw ws k)))
theorem SW.below {w w' : World} {v : Value} {ws : List (List UInt8)} (h : SW w v ws) (hb : Below w.heap.size w w') : SW w' v ws := by
 obtain ⟨a, c, rfl, h⟩ := h
 refine ⟨a, c, rfl, fun k hk => ?_⟩
 obtain ⟨g, off, ha, hc⟩ := h k hk
 exact ⟨g, off, ha, cell_keep hc (hb.block _ (lt_of_cell hc))⟩
theorem SW.of_own {w : World} {B : Nat} {v : Value} {n : Nat} {ws : List (List UInt8)} (h : w.ownsRow B 9 1 v n (ws.map strV)) (hn : ws.length = n) : SW w v ws := by
 subst hn
 rcases h.2 with ⟨rfl, h0⟩ | ⟨g, cap, cur, rfl, h1, h2, h3, h4, h5, h6⟩
 ·exact ⟨none, 0, by rw [h0], fun k hk => by omega⟩
 ·refine ⟨_, _, rfl, fun k hk => ⟨g, 0, rfl, ?_⟩⟩
  have h7 := (own_cellS (c := cap) h).2.2 k (strV (getw ws k)) (by
   unfold getw
   simp [List.getD_eq_getElem?_getD, List.getElem?_eq_getElem hk])
  exact h7
theorem bs_extract (l : List UInt8) (p q : Nat) : (bs l).extract p q = bs ((l.drop p).take (q - p)) := by
 apply ByteArray.ext
 simp [bs]
theorem bs_get {l : List UInt8} {q : Nat} {x : UInt8} (hx : l[q]? = some x) : ∀ h, (bs l)[q]'h = x := by
 intro h
 obtain ⟨h1, h2⟩ := List.getElem?_eq_some_iff.1 hx
 rw [← h2]; rfl
theorem drop_mid {l : List UInt8} {p q : Nat} {x : UInt8} (hpq : p ≤ q) (hx : l[q]? = some x) : l.drop p = (l.drop p).take (q - p) ++ x :: l.drop (q + 1) := by
 have h1 : l.drop q = x :: l.drop (q + 1) := by
  obtain ⟨h1, h2⟩ := List.getElem?_eq_some_iff.1 hx
  rw [List.drop_eq_getElem_cons h1, h2]
 conv => lhs; rw [← List.take_append_drop (q - p) (l.drop p)]
 rw [List.drop_drop, show p + (q - p) = q by omega, h1]
set_option maxRecDepth 100000 in
set_option maxHeartbeats 4000000 in
theorem l01Split_any (l : List UInt8) (c : UInt8) (W : World) (hl : l.length ≤ 1048576) :
  Calls Tryz.prog 31 #[.string (bs l), .int .u8 (c.toNat : Int)] W fun e' w' => ∃ v', e' = .returned v' ∧ SW w' v' (splitL c l) ∧ Below W.heap.size W w' := by
 have hsz : (bs l).size = l.length := bs_size l
 have hown0 := own_lit0 W W.heap.size 9 1 (Nat.le_refl _)
 have hbl : Below W.heap.size W (W.alloc (.cells #[] 9)) := (Below.refl _ _).alloc (Nat.le_refl _) _
 have HO0 := Lib.hid (And.intro hown0 hbl); clear hown0 hbl
 go_enter Tryz.func31, Tryz.ntmps31
 go_wp2_with fail
 go_loopw [5, 6, 7] (fun ou fr i wr => ∃ (p q : Nat) (ws : List (List UInt8)), fr = .int .i64 p ∧ i = .int .i64 q ∧ q ≤ l.length + 1 ∧ ws.length ≤ q ∧ wr.ownsRow W.heap.size 9 1 ou ws.length (ws.map strV) ∧ Below W.heap.size W wr ∧
   ((q = l.length + 1 ∧ splitL c l = ws) ∨ (q ≤ l.length ∧ p ≤ q ∧ splitL c l = ws ++ splitL c (l.drop p) ∧ ∀ x ∈ (l.drop p).take (q - p), x ≠ c))) (fun _ _ i _ => l.length + 1 - (intOf i).toNat)
 case atStart => exact ⟨0, 0, [], rfl, rfl, Nat.zero_le _, Nat.le_refl _, HO0.out.1, HO0.out.2, .inr ⟨Nat.zero_le _, Nat.le_refl _, by simp, fun x hx => by simp at hx⟩⟩
 case round =>
  obtain ⟨p, q, ws, rfl, rfl, hq, hwl, hown, hB, hst⟩ := hrel
  have hzW := hB.size
  obtain ⟨oa, oc, rfl, ho1, ho2⟩ := own_form hown
  obtain ⟨wo, rfl⟩ : ∃ q, q = wr := ⟨_, rfl⟩
  by_cases hqq : q ≤ l.length
  ·obtain ⟨_, hpq, hsp, hno⟩ := hst.resolve_left (fun h => by omega)
   have hqd : decide (q ≤ l.length) = true := decide_eq_true hqq
   by_cases hqe : q = l.length
   ·have HS := Lib.hid (And.intro hown (And.intro hB (And.intro hsp (And.intro hno hpq)))); clear hown hB hsp hno hst
    subst hqe
    obtain ⟨s0, hs0⟩ : ∃ s0, bs (l.drop p) = s0 := ⟨_, rfl⟩
    have hex : (bs l).extract p l.length = s0 := by rw [bs_extract, ← hs0, List.take_of_length_le (by simp)]
    have hno := HS.out.2.2.2.1
    rw [List.take_of_length_le (by simp)] at hno
    have hlast : splitL c l = ws ++ [l.drop p] := by rw [HS.out.2.2.1, splitL_last hno]
    have Hl := Lib.hid (And.intro hlast hs0); clear hlast hs0 hno
    have hown := HS.out.1
    go_wp2_with ((at_builtin; refine wp_app1 _ rfl _ _ 46 rfl W.heap.size 9 (.string ⟨#[]⟩) 16 Tryz.underlying46 inf_str rfl _ _ _ rfl hown (.string s0) _ rfl rfl (by omega) (by omega) (by omega) ?_; intro v1 w1 hown1 hgrow1 hblk1 hB1); refine Hid.out ?_)
    refine Lib.hid ?_
    have HB := Lib.hid (And.intro hown1 (HS.out.2.1.trans hB1)); clear hown1 hB1 hown
    obtain ⟨na, nc, rfl, _, _⟩ := own_form HB.out.1
    go_wp2_with fail
    go_roundw
    case rel => exact ⟨l.length + 1, l.length + 1, ws ++ [l.drop p], by go_num, by go_num, Nat.le_refl _, by simp; omega, by rw [List.map_append, List.length_append]; have := HB.out.1; rw [← Hl.out.2] at this; exact this, HB.out.2, .inl ⟨rfl, Hl.out.1⟩⟩
    case measure => simp [intOf] <;> omega
   ·have HS := Lib.hid (And.intro hown (And.intro hB (And.intro hsp (And.intro hno hpq)))); clear hown hB hsp hno hst
    have hql : q < l.length := by omega
    obtain ⟨x, hx⟩ : ∃ x, l[q]? = some x := ⟨_, List.getElem?_eq_getElem hql⟩
    have hix := bs_get hx
    have hqe2 : ((q : Int) == (l.length : Int)) = false := beq_eq_false_iff_ne.2 (by omega)
    have hdr := drop_mid HS.out.2.2.2.2 hx
    by_cases hxc : x = c
    ·subst hxc
     obtain ⟨s0, hs0⟩ : ∃ s0, bs ((l.drop p).take (q - p)) = s0 := ⟨_, rfl⟩
     have hex : (bs l).extract p q = s0 := by rw [bs_extract, hs0]
     have hcut : splitL x l = (ws ++ [(l.drop p).take (q - p)]) ++ splitL x (l.drop (q + 1)) := by
      rw [HS.out.2.2.1]
      conv => lhs; rw [hdr]
      rw [splitL_pre HS.out.2.2.2.1]
      simp
     have Hl := Lib.hid (And.intro hcut hs0); clear hcut hs0 hdr hx
     have hown := HS.out.1
     go_wp2_with ((at_builtin; refine wp_app1 _ rfl _ _ 46 rfl W.heap.size 9 (.string ⟨#[]⟩) 16 Tryz.underlying46 inf_str rfl _ _ _ rfl hown (.string s0) _ rfl rfl (by omega) (by omega) (by omega) ?_; intro v1 w1 hown1 hgrow1 hblk1 hB1); refine Hid.out ?_)
     refine Lib.hid ?_
     have HB := Lib.hid (And.intro hown1 (HS.out.2.1.trans hB1)); clear hown1 hB1 hown
     obtain ⟨na, nc, rfl, _, _⟩ := own_form HB.out.1
     go_wp2_with fail
     go_roundw
     case rel => exact ⟨q + 1, q + 1, ws ++ [(l.drop p).take (q - p)], by go_num, by go_num, by omega, by simp; omega, by rw [List.map_append, List.length_append]; have := HB.out.1; rw [← Hl.out.2] at this; exact this, HB.out.2, .inr ⟨by omega, Nat.le_refl _, Hl.out.1, fun y hy => by simp at hy⟩⟩
     case measure => simp [intOf]; omega
    ·have hxc2 : ((x.toNat : Int) == (c.toNat : Int)) = false := beq_eq_false_iff_ne.2 (fun e => hxc (UInt8.toNat_inj.1 (by omega)))
     have hno2 : ∀ y ∈ (l.drop p).take (q + 1 - p), y ≠ c := fun y hy => by
      rw [show q + 1 - p = (q - p) + 1 by have := HS.out.2.2.2.2; omega, List.take_add_one] at hy
      rcases List.mem_append.1 hy with h | h
      ·exact HS.out.2.2.2.1 y h
      ·rw [List.getElem?_drop, show p + (q - p) = q by have := HS.out.2.2.2.2; omega, hx] at h
       simp at h
       subst h
       exact hxc
     have Hn := Lib.hid hno2; clear hno2 hdr hx
     go_wp2_with fail
     go_roundw
     case rel => exact ⟨p, q + 1, ws, rfl, by go_num, by omega, by omega, HS.out.1, HS.out.2.1, .inr ⟨by omega, by have := HS.out.2.2.2.2; omega, HS.out.2.2.1, Hn.out⟩⟩
     case measure => simp [intOf]; omega
  ·obtain ⟨rfl, hfin⟩ := hst.resolve_right (fun h => by omega)
   have hqd : decide (l.length + 1 ≤ l.length) = false := decide_eq_false (by omega)
   have hqd2 : ¬ ((l.length : Int) + 1 ≤ (l.length : Int)) := by omega
   have HF := Lib.hid (And.intro hfin (And.intro (SW.of_own hown rfl) hB)); clear hfin hown hB hst
   go_wp2_with fail
   go_ret
   exact ⟨_, rfl, by rw [HF.out.1]; exact HF.out.2.1, HF.out.2.2⟩
end Go.Proofs.YtbekpololmahoaaGreatDoor
