/- Lists of numbers, turned round and compared. No conditions. -/
import Derived.Test.YtjkfgldmeenmjaaRowv
namespace Go.Proofs.Ytjkfgldmeenmjaa
open Go.RowKit
set_option linter.unusedVariables false
set_option linter.unusedSimpArgs false

def cmpI (x y : Int) : Int := if x < y then -1 else if y < x then 1 else 0
def lexC : List Int → List Int → Int
  | x :: xs, y :: ys => if cmpI x y = 0 then lexC xs ys else cmpI x y
  | _, _ => 0
theorem lexC_step {a b : List Int} {k : Nat} (h1 : k < a.length) (h2 : k < b.length) : lexC (a.drop k) (b.drop k) = if cmpI (geti a k) (geti b k) = 0 then lexC (a.drop (k + 1)) (b.drop (k + 1)) else cmpI (geti a k) (geti b k) := by
  rw [List.drop_eq_getElem_cons h1, List.drop_eq_getElem_cons h2, lexC, geti_eq h1, geti_eq h2]
/-- Two lists compared from their k-th number down. -/
def cmpTop (x y : List Int) : Nat → Int
  | 0 => 0
  | k + 1 => if cmpI (geti x k) (geti y k) = 0 then cmpTop x y k else cmpI (geti x k) (geti y k)
theorem lex_top {x y : List Int} : ∀ k, k ≤ x.length → k ≤ y.length → lexC (x.take k).reverse (y.take k).reverse = cmpTop x y k
  | 0, _, _ => by simp [lexC, cmpTop]
  | k + 1, h1, h2 => by
    rw [take_geti h1, take_geti h2, List.reverse_append, List.reverse_append]
    show lexC (geti x k :: (x.take k).reverse) (geti y k :: (y.take k).reverse) = _
    rw [lexC, lex_top k (by omega) (by omega)]; rfl
theorem lex_rev {x y : List Int} (h : x.length = y.length) : lexC x.reverse y.reverse = cmpTop x y x.length := by
  have := lex_top (x := x) (y := y) x.length (Nat.le_refl _) (by omega)
  rw [List.take_length, h, List.take_length] at this
  rw [this, h]
def swapL (l : List Int) (i j : Nat) : List Int := (l.set i (geti l j)).set j (geti l i)
def revTo (l : List Int) : Nat → List Int
  | 0 => l
  | k + 1 => swapL (revTo l k) k (l.length - 1 - k)
theorem revTo_len (l : List Int) : ∀ k, (revTo l k).length = l.length
  | 0 => rfl
  | k + 1 => by unfold revTo swapL; simp [revTo_len l k]
theorem geti_put {l : List Int} {p j : Nat} {x : Int} (hp : p < l.length) : geti (l.set p x) j = if p = j then x else geti l j := by
  unfold geti
  rw [List.getD_eq_getElem?_getD, List.getD_eq_getElem?_getD, List.getElem?_set]
  by_cases e : p = j
  · simp [e, e ▸ hp]
  · simp [e]
theorem revTo_get {l : List Int} {i : Nat} (hi : i < l.length) : ∀ k, 2 * k ≤ l.length → geti (revTo l k) i = if i < k ∨ l.length - k ≤ i then geti l (l.length - 1 - i) else geti l i
  | 0, _ => by rw [if_neg (by omega)]; rfl
  | k + 1, h => by
    have e1 := revTo_get (l := l) (i := k) (by omega) k (by omega)
    have e2 := revTo_get (l := l) (i := l.length - 1 - k) (by omega) k (by omega)
    have e3 := revTo_get hi k (by omega)
    have hl := revTo_len l k
    rw [if_neg (by omega)] at e1 e2
    unfold revTo swapL
    rw [geti_put (by simp [hl]; omega), geti_put (by rw [hl]; omega), e1, e2, e3]
    by_cases h1 : l.length - 1 - k = i
    · rw [if_pos h1, if_pos (by omega)]; congr 1; omega
    · rw [if_neg h1]
      by_cases h2 : k = i
      · rw [if_pos h2, if_pos (by omega)]; congr 1; omega
      · rw [if_neg h2]
        by_cases h3 : i < k ∨ l.length - k ≤ i
        · rw [if_pos h3, if_pos (by omega)]
        · rw [if_neg h3, if_neg (by omega)]
theorem revTo_end {l : List Int} {k : Nat} (h : 2 * k ≤ l.length) (h2 : l.length ≤ 2 * k + 1) : revTo l k = l.reverse := by
  apply List.ext_getElem (by rw [revTo_len, List.length_reverse])
  intro i h1 h3
  have hi : i < l.length := by rw [revTo_len] at h1; exact h1
  have e := revTo_get hi k h
  rw [geti_eq h1] at e
  rw [e, List.getElem_reverse]
  split
  · rw [geti_eq (by omega)]
  · rw [geti_eq hi]; congr 1; omega

theorem X1.get {w : World} {b off n c k : Nat} {l : List Int} (h : X1 w (.slice (some ⟨b, off, none⟩) n c) l b) (hk : k < l.length) : w.cell? ⟨b, off + k, none⟩ = some (.int .i64 (geti l k)) ∧ w.frozen? ⟨b, off + k, none⟩ = false := by
  obtain ⟨a', c', e, h1, h2, h3⟩ := h
  simp only [Value.slice.injEq] at e
  obtain ⟨rfl, rfl, rfl⟩ := e
  obtain ⟨off', cs, T, e, h4, h5⟩ := h3 (by intro e; subst e; simp at hk)
  cases e
  exact ⟨by rw [cell_of_block h4, h5 k hk], frozen_of_block h4 _⟩
theorem X1.put {w : World} {b off n c k : Nat} {l : List Int} (h : X1 w (.slice (some ⟨b, off, none⟩) n c) l b) (hk : k < l.length) (x : Int) : X1 (w.setCell ⟨b, off + k, none⟩ (.int .i64 x)) (.slice (some ⟨b, off, none⟩) n c) (l.set k x) b := by
  obtain ⟨a', c', e, h1, h2, h3⟩ := h
  simp only [Value.slice.injEq] at e
  obtain ⟨rfl, rfl, rfl⟩ := e
  obtain ⟨off', cs, T, e, h4, h5⟩ := h3 (by intro e; subst e; simp at hk)
  cases e
  refine ⟨_, c, by rw [List.length_set], by rw [List.length_set]; exact h1, h2, fun _ => ⟨off, _, T, rfl, heap_setCell_self h4 _, fun j hj => ?_⟩⟩
  rw [List.length_set] at hj
  rw [Array.getElem?_setIfInBounds]
  have hlt : off + k < cs.size := (Array.getElem?_eq_some_iff.1 (h5 k hk)).1
  by_cases e : k = j
  · subst e; rw [if_pos rfl, if_pos hlt, geti_put hk, if_pos rfl]
  · rw [if_neg (by omega), h5 j hj, geti_put hk, if_neg e]

theorem isNaN_any (x : Int) (W : World) : Calls Try.prog 130 #[.int .i64 x] W fun e w' => e = .returned (.bool false) ∧ W = w' := by
  go_enter Try.func130, Try.ntmps130
  go_wp2_with fail
  go_ret
  exact ⟨rfl, rfl⟩
theorem cmpCompare_any (x y : Int) (W : World) : Calls Try.prog 104 #[.int .i64 x, .int .i64 y] W fun e w' => e = .returned (.int .i64 (cmpI x y)) ∧ W = w' := by
  obtain ⟨r, hr⟩ : ∃ r, cmpI x y = r := ⟨_, rfl⟩
  rw [hr]
  unfold cmpI at hr
  by_cases h1 : x < y
  · rw [if_pos h1] at hr
    subst hr
    go_enter Try.func104, Try.ntmps104
    go_wp2_with (go_at_call 130; refine (isNaN_any _ _).mono ?_; rintro e' w' ⟨rfl, rfl⟩)
    go_ret
    exact ⟨rfl, rfl⟩
  · rw [if_neg h1] at hr
    by_cases h2 : y < x
    · rw [if_pos h2] at hr
      subst hr
      go_enter Try.func104, Try.ntmps104
      go_wp2_with (go_at_call 130; refine (isNaN_any _ _).mono ?_; rintro e' w' ⟨rfl, rfl⟩)
      go_ret
      exact ⟨rfl, rfl⟩
    · rw [if_neg h2] at hr
      subst hr
      go_enter Try.func104, Try.ntmps104
      go_wp2_with (go_at_call 130; refine (isNaN_any _ _).mono ?_; rintro e' w' ⟨rfl, rfl⟩)
      go_ret
      exact ⟨rfl, rfl⟩
theorem slCompare_any {S S' : Nat → Prop} (u v : Value) (a b : List Int) (W : World) (h1 : V1 S W u a) (h2 : V1 S' W v b) (hl : a.length = b.length) :
    Calls Try.prog 77 #[u, v] W fun e w' => e = .returned (.int .i64 (lexC a b)) ∧ W = w' := by
  have hA := h1
  have hB := h2
  obtain ⟨ua, uc, rfl, hu⟩ := h1.form
  obtain ⟨va, vc, rfl, hv⟩ := h2.form
  obtain ⟨r, hr⟩ : ∃ r, lexC a b = r := ⟨_, rfl⟩
  rw [hr]
  have Hr := Lib.hid (show lexC (a.drop 0) (b.drop 0) = r from hr); clear hr
  rw [← hl]
  have Hl := Lib.hid hl; clear hl
  go_enter Try.func77, Try.ntmps77
  go_wp2_with fail
  go_loop [5, 6, 7, 8, 11] (fun _ _ _ _ i => ∃ k : Nat, k ≤ a.length ∧ i = .int .i64 (k : Int) ∧ lexC (a.drop k) (b.drop k) = r) (fun _ _ _ _ i => a.length - (intOf i).toNat)
  case atStart => exact ⟨0, Nat.zero_le _, rfl, Hr.out⟩
  case round =>
    obtain ⟨k, hk, rfl, hrem⟩ := hrel
    have Hrem := Lib.hid hrem; clear hrem
    by_cases hkk : k < a.length
    · have hkb : k < b.length := by rw [← Hl.out]; exact hkk
      obtain ⟨b1, off1, rfl, _, hc1⟩ := hA.cell hkk
      obtain ⟨b2, off2, rfl, _, hc2⟩ := hB.cell hkb
      have hst := lexC_step hkk hkb
      rw [Hrem.out] at hst
      obtain ⟨x, hx⟩ : ∃ x, geti a k = x := ⟨_, rfl⟩
      obtain ⟨y, hy⟩ : ∃ y, geti b k = y := ⟨_, rfl⟩
      rw [hx] at hc1 hst
      rw [hy] at hc2 hst
      obtain ⟨q, hq⟩ : ∃ q, cmpI x y = q := ⟨_, rfl⟩
      rw [hq] at hst
      have hk0 : (0 : Int) ≤ (k : Int) := by omega
      have hkl : (k : Int) < (a.length : Int) := by omega
      by_cases hq0 : q = 0
      · subst hq0
        rw [if_pos rfl] at hst
        have Hst := Lib.hid (And.intro hst hq); clear hst hq hx hy
        go_wp2_with (go_at_call 104; refine (cmpCompare_any _ _ _).mono ?_; rintro e' w' ⟨rfl, rfl⟩; rw [Hst.out.2])
        go_round
        case rel => exact ⟨k + 1, by omega, by go_num, Hst.out.1.symm⟩
        case measure => simp [intOf]; omega
      · rw [if_neg hq0] at hst
        have hne : (q != 0) = true := by simp [hq0]
        have Hst := Lib.hid (And.intro hst hq); clear hst hq hx hy
        go_wp2_with (go_at_call 104; refine (cmpCompare_any _ _ _).mono ?_; rintro e' w' ⟨rfl, rfl⟩; rw [Hst.out.2])
        go_ret
        exact ⟨ret_int (by rw [Hst.out.1]), rfl⟩
    · obtain rfl : k = a.length := by omega
      have hfin : (0 : Int) = r := by
        rw [← Hrem.out, List.drop_length, Hl.out, List.drop_length]; rfl
      subst hfin
      go_wp2_with fail
      go_ret
      exact ⟨rfl, rfl⟩
end Go.Proofs.Ytjkfgldmeenmjaa
