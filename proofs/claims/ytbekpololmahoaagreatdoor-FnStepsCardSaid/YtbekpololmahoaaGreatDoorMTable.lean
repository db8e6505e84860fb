/- What the program and the reference answer on tables: equal lists, membership, valid tables, different rows. No conditions. -/
import Derived.Deep.RegionHeld3
import Derived.Test.YtbekpololmahoaaGreatDoorMLib
namespace Go.Proofs.YtbekpololmahoaaGreatDoor
open Go.RowKit
set_option linter.unusedVariables false
set_option linter.unusedSimpArgs false
theorem l01Same_q {S S' : Nat → Prop} (va vb : Value) (a b : List Int) (W : World) (ha : V1 S W va a) (hb : V1 S' W vb b) :
  Calls Tryz.prog 113 #[va, vb] W fun e' w' => e' = .returned (.bool (decide (a = b))) ∧ ∃ n, w' = W.drewN n := by
 have hA := ha
 have hB := hb
 obtain ⟨pa, ca, rfl, hma⟩ := ha.form
 obtain ⟨pb, cb, rfl, hmb⟩ := hb.form
 by_cases hl : a.length = b.length
 ·have hle : ((a.length : Int) == (b.length : Int)) = true := by simp; omega
  have hle2 : ((a.length : Int) != (b.length : Int)) = false := by simp; omega
  have Hl := Lib.hid hl; clear hl
  go_enter Tryz.func113, Tryz.ntmps113
  go_wp2_with fail
  go_loopw [5] (fun i wr => ∃ (k n : Nat), k ≤ a.length ∧ i = .int .i64 k ∧ a.take k = b.take k ∧ wr = W.drewN n) (fun i _ => a.length - (intOf i).toNat)
  case atStart => exact ⟨0, 0, Nat.zero_le _, rfl, rfl, rfl⟩
  case round =>
   obtain ⟨k, n, hk, rfl, hpre, rfl⟩ := hrel
   have Hpre := Lib.hid hpre; clear hpre
   by_cases hkk : k < a.length
   ·have hkb : k < b.length := by rw [← Hl.out]; exact hkk
    obtain ⟨b1, off1, rfl, _, hc1⟩ := hA.cell hkk
    obtain ⟨b2, off2, rfl, _, hc2⟩ := hB.cell hkb
    by_cases he : geti a k = geti b k
    ·have e1 : (geti a k == geti b k) = true := by simp [he]
     have e2 : (geti a k != geti b k) = false := by simp [he]
     have He := Lib.hid he; clear he
     go_wp2_with fail
     go_quiet (fail)
     go_wp2_with fail
     go_roundw
     case rel => exact ⟨k + 1, _, by omega, by go_num, by rw [take_geti hkk, take_geti hkb, Hpre.out, He.out], rfl⟩
     case measure => simp [intOf]; omega
    ·have hne : decide (a = b) = false := decide_eq_false (fun e => he (by rw [e]))
     have e1 : (geti a k == geti b k) = false := by simp [he]
     have e2 : (geti a k != geti b k) = true := by simp [he]
     have Hne := Lib.hid hne; clear hne
     have He := Lib.hid he; clear he
     go_wp2_with fail
     go_quiet (fail)
     go_wp2_with fail
     go_ret
     exact ⟨ret_bool Hne.out.symm, _, by first | rfl | rw [World.drewN_drewN]⟩
   ·have hab : a = b := by
     have := Hpre.out
     rw [List.take_of_length_le (by omega), List.take_of_length_le (by rw [← Hl.out]; omega)] at this
     exact this
    have heq : decide (a = b) = true := decide_eq_true hab
    have Heq := Lib.hid heq; clear heq hab
    go_wp2_with fail
    go_ret
    exact ⟨ret_bool Heq.out.symm, _, rfl⟩
 ·have hne : decide (a = b) = false := decide_eq_false (fun e => hl (by rw [e]))
  rw [hne]
  have hne2 : ((a.length : Int) == (b.length : Int)) = false := by simp; omega
  have hne3 : ((a.length : Int) != (b.length : Int)) = true := by simp; omega
  clear hne
  go_enter Tryz.func113, Tryz.ntmps113
  go_wp2_with fail
  go_ret
  exact ⟨rfl, 0, rfl⟩
theorem l01Same_b {S S' : Nat → Prop} (va vb : Value) (a b : List Int) (W : World) (r : Bool) (hr : decide (a = b) = r) (ha : V1 S W va a) (hb : V1 S' W vb b) :
  Calls Tryz.prog 113 #[va, vb] W fun e' w' => e' = .returned (.bool r) ∧ ∃ n, w' = W.drewN n := by
 subst hr; exact l01Same_q va vb a b W ha hb
theorem slEqual_q {S S' : Nat → Prop} (va vb : Value) (a b : List Int) (W : World) (ha : V1 S W va a) (hb : V1 S' W vb b) :
  Calls Tryz.prog 84 #[va, vb] W fun e' w' => e' = .returned (.bool (decide (a = b))) ∧ ∃ n, w' = W.drewN n := by
 have hA := ha
 have hB := hb
 obtain ⟨pa, ca, rfl, hma⟩ := ha.form
 obtain ⟨pb, cb, rfl, hmb⟩ := hb.form
 by_cases hl : a.length = b.length
 ·have hle : ((a.length : Int) == (b.length : Int)) = true := by simp; omega
  have hle2 : ((a.length : Int) != (b.length : Int)) = false := by simp; omega
  have Hl := Lib.hid hl; clear hl
  go_enter Tryz.func84, Tryz.ntmps84
  go_wp2_with fail
  go_loopw [13] (fun i wr => ∃ (k n : Nat), k ≤ a.length ∧ i = .int .i64 k ∧ a.take k = b.take k ∧ wr = W.drewN n) (fun i _ => a.length - (intOf i).toNat)
  case atStart => exact ⟨0, 0, Nat.zero_le _, rfl, rfl, rfl⟩
  case round =>
   obtain ⟨k, n, hk, rfl, hpre, rfl⟩ := hrel
   have Hpre := Lib.hid hpre; clear hpre
   by_cases hkk : k < a.length
   ·have hkb : k < b.length := by rw [← Hl.out]; exact hkk
    obtain ⟨b1, off1, rfl, _, hc1⟩ := hA.cell hkk
    obtain ⟨b2, off2, rfl, _, hc2⟩ := hB.cell hkb
    by_cases he : geti a k = geti b k
    ·have e1 : (geti a k == geti b k) = true := by simp [he]
     have e2 : (geti a k != geti b k) = false := by simp [he]
     have He := Lib.hid he; clear he
     go_wp2_with fail
     go_quiet (fail)
     go_wp2_with fail
     go_roundw
     case rel => exact ⟨k + 1, _, by omega, by go_num, by rw [take_geti hkk, take_geti hkb, Hpre.out, He.out], rfl⟩
     case measure => simp [intOf]; omega
    ·have hne : decide (a = b) = false := decide_eq_false (fun e => he (by rw [e]))
     have e1 : (geti a k == geti b k) = false := by simp [he]
     have e2 : (geti a k != geti b k) = true := by simp [he]
     have Hne := Lib.hid hne; clear hne
     have He := Lib.hid he; clear he
     go_wp2_with fail
     go_quiet (fail)
     go_wp2_with fail
     go_ret
     exact ⟨ret_bool Hne.out.symm, _, by first | rfl | rw [World.drewN_drewN]⟩
   ·have hab : a = b := by
     have := Hpre.out
     rw [List.take_of_length_le (by omega), List.take_of_length_le (by rw [← Hl.out]; omega)] at this
     exact this
    have heq : decide (a = b) = true := decide_eq_true hab
    have Heq := Lib.hid heq; clear heq hab
    go_wp2_with fail
    go_ret
    exact ⟨ret_bool Heq.out.symm, _, rfl⟩
 ·have hne : decide (a = b) = false := decide_eq_false (fun e => hl (by rw [e]))
  rw [hne]
  have hne2 : ((a.length : Int) == (b.length : Int)) = false := by simp; omega
  have hne3 : ((a.length : Int) != (b.length : Int)) = true := by simp; omega
  clear hne
  go_enter Tryz.func84, Tryz.ntmps84
  go_wp2_with fail
  go_ret
  exact ⟨rfl, 0, rfl⟩
def hasL (ls : List (List Int)) (l : List Int) : Bool := ls.any fun o => decide (o = l)
theorem any_step {α : Type} (p : α → Bool) {l : List α} {k : Nat} (h : k < l.length) : (l.drop k).any p = (p l[k] || (l.drop (k + 1)).any p) := by
 rw [List.drop_eq_getElem_cons h, List.any_cons]
theorem hasL_step {ls : List (List Int)} {k : Nat} (h : k < ls.length) (l : List Int) : hasL (ls.drop k) l = (decide (getl ls k = l) || hasL (ls.drop (k + 1)) l) := by
 unfold hasL; rw [any_step _ h, getl_eq h]
theorem l14Has_q {S S' : Nat → Prop} (v u : Value) (ls : List (List Int)) (l : List Int) (W : World) (h : V2 S W v ls) (hl : V1 S' W u l) :
  Calls Tryz.prog 90 #[v, u] W fun e' w' => e' = .returned (.bool (hasL ls l)) ∧ ∃ n, w' = W.drewN n := by
 have hV := h
 obtain ⟨a, c, rfl, hm⟩ := h.form
 go_enter Tryz.func90, Tryz.ntmps90
 go_wp2_with fail
 go_loopw [5] (fun i wr => ∃ (k n : Nat), k ≤ ls.length ∧ i = .int .i64 k ∧ hasL ls l = hasL (ls.drop k) l ∧ wr = W.drewN n) (fun i _ => ls.length - (intOf i).toNat)
 case atStart => exact ⟨0, 0, Nat.zero_le _, rfl, rfl, rfl⟩
 case round =>
  obtain ⟨k, n, hk, rfl, hrem, rfl⟩ := hrel
  have Hr := Lib.hid hrem; clear hrem
  by_cases hkk : k < ls.length
  ·obtain ⟨b1, off1, a1, c1, rfl, _, hc1, hr1⟩ := hV.cell hkk
   by_cases he : getl ls k = l
   ·have E1 := Lib.hid (decide_eq_true he)
    have He := Lib.hid he; clear he
    go_wp2_with (go_at_call 113; refine (l01Same_b _ _ _ _ _ _ E1.out (V1.drewN hr1) (V1.drewN hl)).mono ?_; rintro e' w' ⟨rfl, m, rfl⟩)
    go_ret
    exact ⟨ret_bool (by rw [Hr.out, hasL_step hkk, E1.out]; rfl), _, by first | rfl | rw [World.drewN_drewN]⟩
   ·have E1 := Lib.hid (decide_eq_false he)
    have He := Lib.hid he; clear he
    go_wp2_with (go_at_call 113; refine (l01Same_b _ _ _ _ _ _ E1.out (V1.drewN hr1) (V1.drewN hl)).mono ?_; rintro e' w' ⟨rfl, m, rfl⟩)
    go_roundw
    case rel => exact ⟨k + 1, _, by omega, by go_num, by rw [Hr.out, hasL_step hkk, E1.out]; rfl, by first | rfl | rw [World.drewN_drewN]⟩
    case measure => simp [intOf]; omega
  ·have hd : ls.drop k = [] := List.drop_of_length_le (by omega)
   have Hd := Lib.hid hd; clear hd
   go_wp2_with fail
   go_ret
   exact ⟨ret_bool (by rw [Hr.out, Hd.out]; rfl), _, by first | rfl | rw [World.drewN_drewN]⟩
theorem l14Has_b {S S' : Nat → Prop} (v u : Value) (ls : List (List Int)) (l : List Int) (W : World) (r : Bool) (hr : hasL ls l = r) (h : V2 S W v ls) (hl : V1 S' W u l) :
  Calls Tryz.prog 90 #[v, u] W fun e' w' => e' = .returned (.bool r) ∧ ∃ n, w' = W.drewN n := by subst hr; exact l14Has_q v u ls l W h hl
def allB (l : List Int) (lo hi : Int) : Bool := l.all fun n => inB n lo hi
theorem allB_step {l : List Int} {k : Nat} (h : k < l.length) (lo hi : Int) : allB (l.drop k) lo hi = (inB (geti l k) lo hi && allB (l.drop (k + 1)) lo hi) := all_stepi _ h
theorem allB_iff {l : List Int} {lo hi : Int} : allB l lo hi = true ↔ ∀ n ∈ l, lo ≤ n ∧ n ≤ hi := by simp [allB, inB_iff]
theorem allWithin_any {S : Nat → Prop} (v : Value) (l : List Int) (lo hi : Int) (W : World) (h : V1 S W v l) :
  Calls Tryz.prog 75 #[v, .int .i64 lo, .int .i64 hi] W fun e' w' => e' = .returned (.bool (allB l lo hi)) ∧ W = w' := by
 have hV := h
 obtain ⟨a, c, rfl, hm⟩ := h.form
 go_enter Tryz.func75, Tryz.ntmps75
 go_wp2_with fail
 go_loop [8, 11] (fun _ i => ∃ k : Nat, k ≤ l.length ∧ i = .int .i64 k ∧ allB l lo hi = allB (l.drop k) lo hi) (fun _ i => l.length - (intOf i).toNat)
 case atStart => exact ⟨0, Nat.zero_le _, rfl, rfl⟩
 case round =>
  obtain ⟨k, hk, rfl, hrem⟩ := hrel
  have Hr := Lib.hid hrem; clear hrem
  by_cases hkk : k < l.length
  ·obtain ⟨b1, off1, rfl, _, hc1⟩ := hV.cell hkk
   cases hin : inB (geti l k) lo hi
   ·have E1 := Lib.hid hin; clear hin
    go_wp2_with (go_at_call 22; refine (within_b _ _ _ _ _ E1.out).mono ?_; rintro e' w' ⟨rfl, rfl⟩)
    go_ret
    exact ⟨ret_bool (by rw [Hr.out, allB_step hkk, E1.out]; rfl), rfl⟩
   ·have E1 := Lib.hid hin; clear hin
    go_wp2_with (go_at_call 22; refine (within_b _ _ _ _ _ E1.out).mono ?_; rintro e' w' ⟨rfl, rfl⟩)
    go_round
    case rel => exact ⟨k + 1, by omega, by go_num, by rw [Hr.out, allB_step hkk, E1.out]; rfl⟩
    case measure => simp [intOf]; omega
  ·have hd : l.drop k = [] := List.drop_of_length_le (by omega)
   have Hd := Lib.hid hd; clear hd
   go_wp2_with fail
   go_ret
   exact ⟨ret_bool (by rw [Hr.out, Hd.out]; rfl), rfl⟩
theorem allWithin_b {S : Nat → Prop} (v : Value) (l : List Int) (lo hi : Int) (W : World) (r : Bool) (hr : allB l lo hi = r) (h : V1 S W v l) :
  Calls Tryz.prog 75 #[v, .int .i64 lo, .int .i64 hi] W fun e' w' => e' = .returned (.bool r) ∧ W = w' := by subst hr; exact allWithin_any v l lo hi W h
/-- A row of a table of n columns; a table. -/
def rowOk (n : Nat) (r : List Int) : Bool := decide (r.length = n) && inB r.length 1 12 && allB r 0 1
def isTab (t : List (List Int)) : Bool := inB t.length 1 10 && t.all (rowOk (getl t 0).length)
def rowsOk (n : Nat) (t : List (List Int)) : Bool := t.all (rowOk n)
theorem rowsOk_step {n : Nat} {t : List (List Int)} {k : Nat} (h : k < t.length) : rowsOk n (t.drop k) = (rowOk n (getl t k) && rowsOk n (t.drop (k + 1))) := all_stepl _ h
theorem isTable_any {S : Nat → Prop} (v : Value) (t : List (List Int)) (W : World) (h : V2 S W v t) :
  Calls Tryz.prog 50 #[v] W fun e' w' => e' = .returned (.bool (isTab t)) ∧ W = w' := by
 have hV := h
 obtain ⟨a, c, rfl, hm⟩ := h.form
 have hfin : isTab t = (inB t.length 1 10 && rowsOk (getl t 0).length t) := rfl
 have Hf := Lib.hid hfin; clear hfin
 go_enter Tryz.func50, Tryz.ntmps50
 go_wp2_with fail
 go_loop [4, 7] (fun _ i => ∃ k : Nat, k ≤ t.length ∧ i = .int .i64 k ∧ rowsOk (getl t 0).length t = rowsOk (getl t 0).length (t.drop k)) (fun _ i => t.length - (intOf i).toNat)
 case atStart => exact ⟨0, Nat.zero_le _, rfl, rfl⟩
 case round =>
  obtain ⟨k, hk, rfl, hrem⟩ := hrel
  have Hr := Lib.hid hrem; clear hrem
  by_cases hkk : k < t.length
  ·obtain ⟨b1, off1, a1, c1, rfl, _, hc1, hr1⟩ := hV.cell hkk
   obtain ⟨b2, off2, a2, c2, e2, _, hc2, hr2⟩ := hV.cell (k := 0) (by omega)
   simp only [Option.some.injEq, Addr.mk.injEq, and_true] at e2
   obtain ⟨rfl, rfl⟩ := e2
   simp only [Nat.add_zero] at hc2
   have hl1 := hr1.len
   have hl2 := hr2.len
   unfold maxLen at hl1 hl2
   by_cases h1 : (getl t k).length = (getl t 0).length
   ·have e1 : (((getl t k).length : Int) == ((getl t 0).length : Int)) = true := by simp; omega
    have e2 : (((getl t k).length : Int) != ((getl t 0).length : Int)) = false := by simp; omega
    by_cases h2 : 1 ≤ (getl t k).length ∧ (getl t k).length ≤ 12
    ·cases h3 : allB (getl t k) 0 1
     ·have hrow : rowOk (getl t 0).length (getl t k) = false := by simp [rowOk, h3]
      have Hrow := Lib.hid hrow; clear hrow
      have H3 := Lib.hid h3; clear h3
      have H1 := Lib.hid h1; clear h1
      obtain ⟨h2a, h2b⟩ := h2
      go_wp2_with (go_at_call 75; refine (allWithin_b _ _ _ _ _ _ H3.out hr1).mono ?_; rintro e' w' ⟨rfl, rfl⟩)
      go_ret
      exact ⟨ret_bool (by rw [Hf.out, Hr.out, rowsOk_step hkk, Hrow.out]; simp), rfl⟩
     ·have hrow : rowOk (getl t 0).length (getl t k) = true := by simp [rowOk, h3, h1, inB_iff]; omega
      have Hrow := Lib.hid hrow; clear hrow
      have H3 := Lib.hid h3; clear h3
      have H1 := Lib.hid h1; clear h1
      obtain ⟨h2a, h2b⟩ := h2
      go_wp2_with (go_at_call 75; refine (allWithin_b _ _ _ _ _ _ H3.out hr1).mono ?_; rintro e' w' ⟨rfl, rfl⟩)
      go_round
      case rel => exact ⟨k + 1, by omega, by go_num, by rw [Hr.out, rowsOk_step hkk, Hrow.out]; rfl⟩
      case measure => simp [intOf]; omega
    ·have hrow : rowOk (getl t 0).length (getl t k) = false := by
      have : inB (getl t k).length 1 12 = false := inB_false.2 (by omega)
      simp [rowOk, this]
     have Hrow := Lib.hid hrow; clear hrow
     have H1 := Lib.hid h1; clear h1
     by_cases h4 : (getl t k).length < 1
     ·go_wp2_with fail
      go_ret
      exact ⟨ret_bool (by rw [Hf.out, Hr.out, rowsOk_step hkk, Hrow.out]; simp), rfl⟩
     ·have h5 : 12 < (getl t k).length := by omega
      clear h2
      go_wp2_with fail
      go_ret
      exact ⟨ret_bool (by rw [Hf.out, Hr.out, rowsOk_step hkk, Hrow.out]; simp), rfl⟩
   ·have e1 : (((getl t k).length : Int) == ((getl t 0).length : Int)) = false := by simp; omega
    have e2 : (((getl t k).length : Int) != ((getl t 0).length : Int)) = true := by simp; omega
    have hrow : rowOk (getl t 0).length (getl t k) = false := by simp [rowOk, h1]
    have Hrow := Lib.hid hrow; clear hrow
    go_wp2_with fail
    go_ret
    exact ⟨ret_bool (by rw [Hf.out, Hr.out, rowsOk_step hkk, Hrow.out]; simp), rfl⟩
  ·have hd : t.drop k = [] := List.drop_of_length_le (by omega)
   have Hd := Lib.hid hd; clear hd
   go_wp2_with fail
   all_goals go_ret
   ·exact ⟨ret_bool (by rw [Hf.out, Hr.out, Hd.out]; simp [rowsOk, inB]; omega), rfl⟩
   ·exact ⟨ret_bool (by rw [Hf.out, Hr.out, Hd.out]; simp [rowsOk, inB]; omega), rfl⟩
theorem isTableR_q {S : Nat → Prop} (v : Value) (t : List (List Int)) (W : World) (h : V2 S W v t) :
  Calls Tryz.prog 59 #[v] W fun e' w' => e' = .returned (.bool (isTab t)) ∧ ∃ n, w' = W.drewN n := by
 have hV := h
 obtain ⟨a, c, rfl, hm⟩ := h.form
 have hfin : isTab t = (inB t.length 1 10 && rowsOk (getl t 0).length t) := rfl
 have Hf := Lib.hid hfin; clear hfin
 cases h0 : inB t.length 1 10
 ·have H0 := Lib.hid h0; clear h0
  go_enter Tryz.func59, Tryz.ntmps59
  go_wp2_with (go_at_call 45; refine (l01In_b _ _ _ _ _ H0.out).mono ?_; rintro e' w' ⟨rfl, rfl⟩)
  go_ret
  exact ⟨ret_bool (by rw [Hf.out, H0.out]; rfl), 0, rfl⟩
 ·have H0 := Lib.hid h0; clear h0
  go_enter Tryz.func59, Tryz.ntmps59
  go_wp2_with (go_at_call 45; refine (l01In_b _ _ _ _ _ H0.out).mono ?_; rintro e' w' ⟨rfl, rfl⟩)
  go_loopw [3] (fun i wr => ∃ k n : Nat, k ≤ t.length ∧ i = .int .i64 k ∧ rowsOk (getl t 0).length t = rowsOk (getl t 0).length (t.drop k) ∧ wr = W.drewN n) (fun i _ => t.length - (intOf i).toNat)
  case atStart => exact ⟨0, 0, Nat.zero_le _, rfl, rfl, rfl⟩
  case round =>
   obtain ⟨k, n, hk, rfl, hrem, rfl⟩ := hrel
   have Hr := Lib.hid hrem; clear hrem
   by_cases hkk : k < t.length
   ·obtain ⟨b1, off1, a1, c1, rfl, _, hc1, hr1⟩ := hV.cell hkk
    obtain ⟨b2, off2, a2, c2, e2, _, hc2, hr2⟩ := hV.cell (k := 0) (by omega)
    simp only [Option.some.injEq, Addr.mk.injEq, and_true] at e2
    obtain ⟨rfl, rfl⟩ := e2
    simp only [Nat.add_zero] at hc2
    have hl1 := hr1.len
    have hl2 := hr2.len
    unfold maxLen at hl1 hl2
    by_cases h1 : (getl t k).length = (getl t 0).length
    ·have e1 : (((getl t k).length : Int) == ((getl t 0).length : Int)) = true := by simp; omega
     have e2 : (((getl t k).length : Int) != ((getl t 0).length : Int)) = false := by simp; omega
     cases h2 : inB (getl t k).length 1 12
     ·have hrow : rowOk (getl t 0).length (getl t k) = false := by simp [rowOk, h2]
      have Hrow := Lib.hid hrow; clear hrow
      have H2 := Lib.hid h2; clear h2
      have H1 := Lib.hid h1; clear h1
      go_wp2_with fail
      go_quiet ((go_at_call 45; first | exact quiet_same (l01In_b _ _ _ _ _ H2.out) | exact quiet_same0 (l01In_b _ _ _ _ _ H2.out)))
      go_wp2_with fail
      go_ret
      exact ⟨ret_bool (by rw [Hf.out, Hr.out, rowsOk_step hkk, Hrow.out]; simp), _, by first | rfl | rw [World.drewN_drewN]⟩
     ·have hrow : rowOk (getl t 0).length (getl t k) = allB (getl t k) 0 1 := by simp [rowOk, h1, h2]; intro _; rw [← h1, h2]
      have Hrow := Lib.hid hrow; clear hrow
      have H2 := Lib.hid h2; clear h2
      have H1 := Lib.hid h1; clear h1
      go_wp2_with fail
      go_quiet ((go_at_call 45; first | exact quiet_same (l01In_b _ _ _ _ _ H2.out) | exact quiet_same0 (l01In_b _ _ _ _ _ H2.out)))
      go_wp2_with fail
      go_loopw [4] (fun j wr => ∃ m n' : Nat, m ≤ (getl t k).length ∧ j = .int .i64 m ∧ allB (getl t k) 0 1 = allB ((getl t k).drop m) 0 1 ∧ wr = W.drewN n') (fun j _ => (getl t k).length - (intOf j).toNat)
      case atStart => exact ⟨0, _, Nat.zero_le _, rfl, rfl, by first | rfl | rw [World.drewN_drewN]⟩
      case round =>
       obtain ⟨m, n', hmm, rfl, hremj, rfl⟩ := hrel
       have Hj := Lib.hid hremj; clear hremj
       by_cases hmk : m < (getl t k).length
       ·obtain ⟨b3, off3, rfl, _, hc3⟩ := hr1.cell hmk
        cases hin : inB (geti (getl t k) m) 0 1
        ·have E1 := Lib.hid hin; clear hin
         go_wp2_with (go_at_call 45; refine (l01In_b _ _ _ _ _ E1.out).mono ?_; rintro e' w' ⟨rfl, rfl⟩)
         go_ret
         exact ⟨ret_bool (by rw [Hf.out, Hr.out, rowsOk_step hkk, Hrow.out, Hj.out, allB_step hmk, E1.out]; simp), _, by first | rfl | rw [World.drewN_drewN]⟩
        ·have E1 := Lib.hid hin; clear hin
         go_wp2_with (go_at_call 45; refine (l01In_b _ _ _ _ _ E1.out).mono ?_; rintro e' w' ⟨rfl, rfl⟩)
         go_roundw
         case rel => exact ⟨m + 1, _, by omega, by go_num, by rw [Hj.out, allB_step hmk, E1.out]; rfl, by first | rfl | rw [World.drewN_drewN]⟩
         case measure => simp [intOf]; omega
       ·have hd : (getl t k).drop m = [] := List.drop_of_length_le (by omega)
        have Hd := Lib.hid hd; clear hd
        go_wp2_with fail
        go_roundw
        case rel => exact ⟨k + 1, _, by omega, by go_num, by rw [Hr.out, rowsOk_step hkk, Hrow.out, Hj.out, Hd.out]; rfl, by first | rfl | rw [World.drewN_drewN]⟩
        case measure => simp [intOf]; omega
    ·have e1 : (((getl t k).length : Int) == ((getl t 0).length : Int)) = false := by simp; omega
     have e2 : (((getl t k).length : Int) != ((getl t 0).length : Int)) = true := by simp; omega
     have hrow : rowOk (getl t 0).length (getl t k) = false := by simp [rowOk, h1]
     have Hrow := Lib.hid hrow; clear hrow
     go_wp2_with fail
     go_quiet (fail)
     go_wp2_with fail
     go_ret
     exact ⟨ret_bool (by rw [Hf.out, Hr.out, rowsOk_step hkk, Hrow.out]; simp), _, by first | rfl | rw [World.drewN_drewN]⟩
   ·have hd : t.drop k = [] := List.drop_of_length_le (by omega)
    have Hd := Lib.hid hd; clear hd
    go_wp2_with fail
    go_ret
    exact ⟨ret_bool (by rw [Hf.out, Hr.out, Hd.out, H0.out]; rfl), _, by first | rfl | rw [World.drewN_drewN]⟩
theorem isTable_b {S : Nat → Prop} (v : Value) (t : List (List Int)) (W : World) (r : Bool) (hr : isTab t = r) (h : V2 S W v t) :
  Calls Tryz.prog 50 #[v] W fun e' w' => e' = .returned (.bool r) ∧ W = w' := by subst hr; exact isTable_any v t W h
theorem isTableR_b {S : Nat → Prop} (v : Value) (t : List (List Int)) (W : World) (r : Bool) (hr : isTab t = r) (h : V2 S W v t) :
  Calls Tryz.prog 59 #[v] W fun e' w' => e' = .returned (.bool r) ∧ ∃ n, w' = W.drewN n := by subst hr; exact isTableR_q v t W h
/-- The function f may be entered. -/
def Enters (f : FuncId) : Prop := ∀ (args : Array Value) (w : World), Sem.run Tryz.prog (callFunc f args) w = .ok (.enter f args) w
/-- A function value that answers g of a list, and makes at most new memory. -/
def PredL (f : FuncId) (caps : Array Value) (W : World) (g : List Int → Bool) : Prop :=
 ∀ (S : Nat → Prop) (w : World) (v : Value) (l : List Int), Below W.heap.size W w → V1 S w v l → Calls Tryz.prog f (#[v] ++ caps) w fun e w' => e = .returned (.bool (g l)) ∧ Below w.heap.size w w'
def idxR {α : Type} (g : α → Bool) : List α → Nat → Int
 | [], _ => -1
 | x :: xs, k => if g x then k else idxR g xs (k + 1)
theorem idxR_step {g : List Int → Bool} {ls : List (List Int)} {k : Nat} (h : k < ls.length) : idxR g (ls.drop k) k = if g (getl ls k) then (k : Int) else idxR g (ls.drop (k + 1)) (k + 1) := by
 rw [List.drop_eq_getElem_cons h, idxR, getl_eq h]
theorem idxR_any {α : Type} (g : α → Bool) : ∀ (l : List α) (k : Nat), decide (0 ≤ idxR g l k) = l.any g ∧ (idxR g l k = -1 ∨ (k : Int) ≤ idxR g l k)
 | [], k => ⟨by simp [idxR], .inl rfl⟩
 | x :: xs, k => by
   have ih := idxR_any g xs (k + 1)
   unfold idxR
   by_cases hx : g x = true
   ·simp [hx]
   ·simp only [hx, if_false, List.any_cons]
    exact ⟨by simpa using ih.1, by rcases ih.2 with h | h; exact .inl h; right; omega⟩
theorem indexFunc_any {S : Nat → Prop} (v : Value) (ls : List (List Int)) (f : FuncId) (caps : Array Value) (g : List Int → Bool) (W : World) (h : V2 S W v ls) (hf : Enters f) (hp : PredL f caps W g) :
  Calls Tryz.prog 109 #[v, .func (.func f) #[] caps] W fun e' w' => e' = .returned (.int .i64 (idxR g ls 0)) ∧ Below W.heap.size W w' := by
 have hV := h
 obtain ⟨a, c, rfl, hm⟩ := h.form
 have Hp := Lib.hid hp; clear hp
 go_enter Tryz.func109, Tryz.ntmps109
 go_wp2_with fail
 go_loopw [5, 8] (fun _ i wr => ∃ k : Nat, k ≤ ls.length ∧ i = .int .i64 k ∧ idxR g ls 0 = idxR g (ls.drop k) k ∧ Below W.heap.size W wr) (fun _ i _ => ls.length - (intOf i).toNat)
 case atStart => exact ⟨0, Nat.zero_le _, rfl, rfl, Below.refl _ _⟩
 case round =>
  obtain ⟨k, hk, rfl, hrem, hB⟩ := hrel
  have Hr := Lib.hid hrem; clear hrem
  by_cases hkk : k < ls.length
  ·obtain ⟨b1, off1, a1, c1, rfl, _, hc1, hr1⟩ := (hV.below hB).cell hkk
   have hf' := hf
   unfold Enters at hf'
   cases hg : g (getl ls k)
   ·have HG := Lib.hid hg; clear hg
    go_wp2_with fail
    have hcl := Hp.out _ _ _ _ hB hr1
    rw [HG.out] at hcl
    refine hcl.mono ?_
    rintro e' w' ⟨rfl, hb⟩
    have hzB := hb.size
    have hzW := hB.size
    go_wp2_with fail
    go_roundw
    case rel => exact ⟨k + 1, by omega, by go_num, by rw [Hr.out, idxR_step hkk, HG.out]; rfl, hB.trans (hb.mono hzW)⟩
    case measure => simp [intOf]; omega
   ·have HG := Lib.hid hg; clear hg
    go_wp2_with fail
    have hcl := Hp.out _ _ _ _ hB hr1
    rw [HG.out] at hcl
    refine hcl.mono ?_
    rintro e' w' ⟨rfl, hb⟩
    have hzB := hb.size
    have hzW := hB.size
    go_wp2_with fail
    go_ret
    exact ⟨ret_int (by rw [Hr.out, idxR_step hkk, HG.out]; rfl), hB.trans (hb.mono hzW)⟩
  ·have hd : ls.drop k = [] := List.drop_of_length_le (by omega)
   have Hd := Lib.hid hd; clear hd
   go_wp2_with fail
   go_ret
   exact ⟨ret_int (by rw [Hr.out, Hd.out]; rfl), hB⟩
theorem containsFunc_any {S : Nat → Prop} (v : Value) (ls : List (List Int)) (f : FuncId) (caps : Array Value) (g : List Int → Bool) (W : World) (h : V2 S W v ls) (hf : Enters f) (hp : PredL f caps W g) :
  Calls Tryz.prog 82 #[v, .func (.func f) #[] caps] W fun e' w' => e' = .returned (.bool (ls.any g)) ∧ Below W.heap.size W w' := by
 have hfin := (idxR_any g ls 0).1
 have Hfin := Lib.hid hfin; clear hfin
 go_enter Tryz.func82, Tryz.ntmps82
 go_wp2_with fail
 refine (indexFunc_any _ _ _ _ _ _ h hf hp).mono ?_
 rintro e' w' ⟨rfl, hb⟩
 go_wp2_with fail
 go_ret
 exact ⟨ret_bool (by rw [← Hfin.out]), hb⟩
theorem enters_contains : Enters 83 := fun args w => by kernel_rfl
theorem contains1_any {S S' : Nat → Prop} (v u : Value) (l key : List Int) (b : Nat) (W : World) (h : V1 S W v l) (hc : W.cell? ⟨b, 0, none⟩ = some u) (hu : V1 S' W u key) :
  Calls Tryz.prog 83 #[v, .pointer (some ⟨b, 0, none⟩)] W fun e' w' => e' = .returned (.bool (decide (l = key))) ∧ ∃ n, w' = W.drewN n := by
 go_enter Tryz.func83, Tryz.ntmps83
 go_wp2_with fail
 refine (slEqual_q _ _ _ _ _ h hu).mono ?_
 rintro e' w' ⟨rfl, n, rfl⟩
 go_wp2_with fail
 go_ret
 exact ⟨rfl, _, rfl⟩
theorem contains_any {S S' : Nat → Prop} (v u : Value) (ls : List (List Int)) (key : List Int) (W : World) (h : V2 S W v ls) (hu : V1 S' W u key) :
  Calls Tryz.prog 57 #[v, u] W fun e' w' => e' = .returned (.bool (hasL ls key)) ∧ Below W.heap.size W w' := by
 have hU := hu
 obtain ⟨a2, c2, rfl, _⟩ := hu.form
 go_enter Tryz.func57, Tryz.ntmps57
 go_wp2_with fail
 have hb0 : Below W.heap.size W (W.alloc (.cells #[.slice a2 key.length c2] 57)) := (Below.refl _ _).alloc (Nat.le_refl _) _
 refine (containsFunc_any (S := S) _ ls _ _ (fun o => decide (o = key)) _ (h.below hb0) enters_contains ?_).mono ?_
 ·intro S2 w v2 l hb hv
  have hc : w.cell? ⟨W.heap.size, 0, none⟩ = some (.slice a2 key.length c2) := by
   rw [(bcell hb).1 _ _ (by simp), cell_of_block (heap_alloc_self _ _)]; rfl
  refine (contains1_any v2 _ l key W.heap.size w hv hc ((hU.below hb0).below hb)).mono ?_
  rintro e' w' ⟨rfl, n, rfl⟩
  exact ⟨rfl, below_drewN (Below.refl _ _) _⟩
 ·rintro e' w' ⟨rfl, hb⟩
  go_wp2_with fail
  go_ret
  exact ⟨rfl, by (repeat (first | (with_reducible refine Below.setCell ?_ ?_ _) | (with_reducible refine Below.alloc ?_ ?_ _) | (with_reducible refine Below.drew ?_) | (with_reducible refine below_drewN ?_ _) | (with_reducible exact Below.refl _ _) | (with_reducible assumption) | (with_reducible refine Below.trans ?_ (Below.mono (by with_reducible assumption) ?_)) | go_size))⟩
theorem contains_b {S S' : Nat → Prop} (v u : Value) (ls : List (List Int)) (key : List Int) (W : World) (r : Bool) (hr : hasL ls key = r) (h : V2 S W v ls) (hu : V1 S' W u key) :
  Calls Tryz.prog 57 #[v, u] W fun e' w' => e' = .returned (.bool r) ∧ Below W.heap.size W w' := by subst hr; exact contains_any v u ls key W h hu
/-- The rows that open door d, among the first k. -/
def rowsF (t : List (List Int)) (d : Nat) : Nat → List Int
 | 0 => []
 | k + 1 => if geti (getl t k) d = 1 then rowsF t d k ++ [(k : Int)] else rowsF t d k
theorem rowsF_len (t : List (List Int)) (d : Nat) : ∀ k, (rowsF t d k).length ≤ k
 | 0 => Nat.le_refl _
 | k + 1 => by have := rowsF_len t d k; unfold rowsF; split <;> simp <;> omega
theorem mem_rowsF {t : List (List Int)} {d : Nat} {x : Int} : ∀ {k}, x ∈ rowsF t d k ↔ ∃ i : Nat, i < k ∧ x = i ∧ geti (getl t i) d = 1
 | 0 => by simp [rowsF]
 | k + 1 => by
   unfold rowsF
   split
   ·rename_i h
    rw [List.mem_append, mem_rowsF]
    constructor
    ·rintro (⟨i, h1, h2, h3⟩ | h1)
     ·exact ⟨i, by omega, h2, h3⟩
     ·simp at h1; exact ⟨k, by omega, h1, h⟩
    ·rintro ⟨i, h1, h2, h3⟩
     by_cases e : i = k
     ·subst e; right; simp [h2]
     ·exact .inl ⟨i, by omega, h2, h3⟩
   ·rename_i h
    rw [mem_rowsF]
    constructor
    ·rintro ⟨i, h1, h2, h3⟩; exact ⟨i, by omega, h2, h3⟩
    ·rintro ⟨i, h1, h2, h3⟩
     refine ⟨i, ?_, h2, h3⟩
     by_cases e : i = k
     ·subst e; exact absurd h3 h
     ·omega
set_option maxRecDepth 100000 in
theorem rowsFor_any {S : Nat → Prop} (m : Mk) (u : Value) (t : List (List Int)) (d : Nat) (W : World) (h : V2 S W u t) (hd : ∀ k, k < t.length → d < (getl t k).length) (hlen : t.length ≤ 1000000) :
  Calls Tryz.prog 51 #[.agg #[.int .i64 m.c, .int .i64 m.d, .int .i64 m.s, .int .i64 m.e, .int .i64 m.l, u], .int .i64 d] W fun e' w' => ∃ v', e' = .returned v' ∧ F1 W.heap.size w' v' (rowsF t d t.length) ∧ Below W.heap.size W w' := by
 have hV := h
 obtain ⟨a, c, rfl, hm⟩ := h.form
 have Hd := Lib.hid hd; clear hd
 obtain ⟨W1, hW1, hB01, hz01, HZ01, hc01, hh01⟩ := box_facts W #[.int .i64 m.c, .int .i64 m.d, .int .i64 m.s, .int .i64 m.e, .int .i64 m.l, .slice a t.length c] 35
 go_enter Tryz.func51, Tryz.ntmps51
 go_wp2_with fail
 rw [← hW1]
 have HW1 := Lib.hid hW1; clear hW1
 have hown0 := own_lit0 W1 W1.heap.size 2 1 (Nat.le_refl _)
 have hV1 := hV.below hB01
 go_loopw [5, 6, 7, 12] (fun o _ _ i wr => ∃ k : Nat, k ≤ t.length ∧ i = .int .i64 k ∧ wr.ownsRow W1.heap.size 2 1 o (rowsF t d k).length ((rowsF t d k).map (Value.int .i64)) ∧ Below W1.heap.size W1 wr) (fun _ _ _ i _ => t.length - (intOf i).toNat)
 case atStart => exact ⟨0, Nat.zero_le _, rfl, by rw [← HZ01.out]; simpa [rowsF] using hown0, (Below.refl _ _).alloc (Nat.le_refl _) _⟩
 case round =>
  obtain ⟨k, hk, rfl, hown, hB⟩ := hrel
  have hrl := rowsF_len t d k
  have hzW := hB.size
  by_cases hkk : k < t.length
  ·obtain ⟨b1, off1, a1, c1, rfl, _, hc1, hr1⟩ := (hV1.below hB).cell hkk
   obtain ⟨b2, off2, rfl, _, hc2⟩ := hr1.cell (Hd.out k hkk)
   have hdl : d < (getl t k).length := Hd.out k hkk
   have hll := hr1.len
   unfold maxLen at hll
   by_cases h1 : geti (getl t k) d = 1
   ·have e1 : (geti (getl t k) d == 1) = true := by simp [h1]
    have hst : rowsF t d (k + 1) = rowsF t d k ++ [(k : Int)] := by rw [rowsF, if_pos h1]
    have Hst := Lib.hid hst; clear hst
    have H1 := Lib.hid h1; clear h1
    go_wp2_with (at_builtin; refine wp_app1 _ rfl _ _ 57 rfl W1.heap.size 2 (.int .i64 0) 8 Tryz.underlying57 inf_int rfl _ _ _ rfl hown (.int .i64 k) _ rfl rfl (by omega) (by omega) (by omega) ?_; intro v1 w1 hown1 hgrow1 hblk1 hB1)
    go_roundw
    case rel => exact ⟨k + 1, by omega, by go_num, by rw [Hst.out, List.map_append, List.length_append]; exact hown1, hB.trans (hB1.mono (Nat.le_refl _))⟩
    case measure => simp [intOf]; omega
   ·have e1 : (geti (getl t k) d == 1) = false := by simp [h1]
    have hst : rowsF t d (k + 1) = rowsF t d k := by rw [rowsF, if_neg h1]
    have Hst := Lib.hid hst; clear hst
    have H1 := Lib.hid h1; clear h1
    go_wp2_with fail
    go_roundw
    case rel => exact ⟨k + 1, by omega, by go_num, by rw [Hst.out]; exact hown, hB⟩
    case measure => simp [intOf]; omega
  ·obtain rfl : k = t.length := by omega
   go_wp2_with fail
   go_ret
   obtain ⟨b, hx, hb⟩ := own_F1 hown
   exact ⟨_, rfl, ⟨b, hx, fun hn => by have := hb hn; omega⟩, hB01.trans (hB.mono (by omega))⟩
def doorTo (t : List (List Int)) (d : Nat) : Nat → Bool
 | 0 => false
 | k + 1 => doorTo t d k || decide (geti (getl t k) d = 1)
def doorOpen (t : List (List Int)) (d : Nat) : Bool := doorTo t d t.length
theorem doorTo_iff {t : List (List Int)} {d : Nat} : ∀ {k}, doorTo t d k = true ↔ ∃ i, i < k ∧ geti (getl t i) d = 1
 | 0 => by simp [doorTo]
 | k + 1 => by
   simp only [doorTo, Bool.or_eq_true, decide_eq_true_eq, doorTo_iff (k := k)]
   constructor
   ·rintro (⟨i, h1, h2⟩ | h)
    ·exact ⟨i, by omega, h2⟩
    ·exact ⟨k, by omega, h⟩
   ·rintro ⟨i, h1, h2⟩
    by_cases e : i = k
    ·subst e; exact .inr h2
    ·exact .inl ⟨i, by omega, h2⟩
theorem rowsF_door {t : List (List Int)} {d k : Nat} : ((rowsF t d k).length = 0) ↔ doorTo t d k = false := by
 rw [← Bool.not_eq_true, doorTo_iff]
 constructor
 ·rintro h ⟨i, h1, h2⟩
  have : (i : Int) ∈ rowsF t d k := mem_rowsF.2 ⟨i, h1, rfl, h2⟩
  rw [List.eq_nil_of_length_eq_zero h] at this
  cases this
 ·intro h
  cases hr : rowsF t d k with
  | nil => rfl
  | cons x xs =>
    obtain ⟨i, h1, _, h3⟩ := mem_rowsF.1 (by rw [hr]; exact List.mem_cons_self .. : x ∈ rowsF t d k)
    exact absurd ⟨i, h1, h3⟩ h
/-- p holds from k on, below n. -/
def upAll (p : Nat → Bool) (n k : Nat) : Bool := (List.range' k (n - k)).all p
theorem upAll_step {p : Nat → Bool} {n k : Nat} (h : k < n) : upAll p n k = (p k && upAll p n (k + 1)) := by
 unfold upAll
 rw [show n - k = (n - (k + 1)) + 1 from by omega, List.range'_succ, List.all_cons]
theorem upAll_end {p : Nat → Bool} {n : Nat} : upAll p n n = true := by unfold upAll; rw [Nat.sub_self]; rfl
/-- A system: a valid maker, a table, each column with a 1. -/
def isSys (m : Mk) (t : List (List Int)) : Bool := m.ok && (isTab t && upAll (doorOpen t) (getl t 0).length 0)
theorem isTab_iff {t : List (List Int)} : isTab t = true ↔ (1 ≤ t.length ∧ t.length ≤ 10) ∧ ∀ k, k < t.length → (getl t k).length = (getl t 0).length ∧ (1 ≤ (getl t 0).length ∧ (getl t 0).length ≤ 12) ∧ ∀ x ∈ getl t k, 0 ≤ x ∧ x ≤ 1 := by
 simp only [isTab, Bool.and_eq_true, inB_iff, List.all_eq_true, rowOk, decide_eq_true_eq, allB_iff]
 constructor
 ·rintro ⟨h1, h2⟩
  refine ⟨by omega, fun k hk => ?_⟩
  obtain ⟨⟨h3, h4⟩, h5⟩ := h2 _ (getl_mem hk)
  exact ⟨h3, by omega, h5⟩
 ·rintro ⟨h1, h2⟩
  refine ⟨by omega, fun r hr => ?_⟩
  obtain ⟨k, hk, rfl⟩ := List.getElem_of_mem hr
  have := h2 k hk
  rw [getl_eq hk] at this
  exact ⟨⟨this.1, by omega⟩, this.2.2⟩
set_option maxRecDepth 100000 in
theorem isSystem_any {S : Nat → Prop} (m : Mk) (u : Value) (t : List (List Int)) (W : World) (h : V2 S W u t) :
  Calls Tryz.prog 33 #[.agg #[.int .i64 m.c, .int .i64 m.d, .int .i64 m.s, .int .i64 m.e, .int .i64 m.l, u]] W fun e' w' => e' = .returned (.bool (isSys m t)) ∧ Below W.heap.size W w' := by
 have hV := h
 obtain ⟨a, c, rfl, hm⟩ := h.form
 obtain ⟨W1, hW1, hB01, hz01, HZ01, hc01, hh01⟩ := box_facts W #[.int .i64 m.c, .int .i64 m.d, .int .i64 m.s, .int .i64 m.e, .int .i64 m.l, .slice a t.length c] 35
 have hV1 := hV.below hB01
 cases hok : m.ok
 ·have hfin : isSys m t = false := by rw [isSys, hok]; rfl
  have Hf := Lib.hid hfin; clear hfin
  have Hok := Lib.hid hok; clear hok
  go_enter Tryz.func33, Tryz.ntmps33
  go_wp2_with fail
  rw [← hW1]
  refine (isMaker_any _ _ _ _ _ _).mono ?_; rintro e' w2 ⟨rfl, hb_w2⟩; have hB2 := (Below.refl W1.heap.size W1).trans (hb_w2.mono (Below.refl W1.heap.size W1).size)
  rw [show isMk m.c m.d m.s m.e m.l = false from Hok.out]
  clear hc01 hh01
  go_wp2_with fail
  go_ret
  exact ⟨ret_bool Hf.out.symm, hB01.trans (hB2.mono (by omega))⟩
 ·cases htab : isTab t
  ·have hfin : isSys m t = false := by rw [isSys, htab]; simp
   have Hf := Lib.hid hfin; clear hfin
   have Hok := Lib.hid hok; clear hok
   have Ht := Lib.hid htab; clear htab
   go_enter Tryz.func33, Tryz.ntmps33
   go_wp2_with fail
   rw [← hW1]
   refine (isMaker_any _ _ _ _ _ _).mono ?_; rintro e' w2 ⟨rfl, hb_w2⟩; have hB2 := (Below.refl W1.heap.size W1).trans (hb_w2.mono (Below.refl W1.heap.size W1).size)
   rw [show isMk m.c m.d m.s m.e m.l = true from Hok.out]
   have hx2 : ∀ o, (w2).cell? ⟨W.heap.size, o, none⟩ = (#[.int .i64 m.c, .int .i64 m.d, .int .i64 m.s, .int .i64 m.e, .int .i64 m.l, .slice a t.length c] : Array Value)[o]? := fun o => by rw [(bcell hB2).1 _ _ hz01, hc01]
   clear hc01 hh01
   go_wp2_with (go_at_call 50; refine (isTable_b _ _ _ _ Ht.out (hV1.below hB2)).mono ?_; rintro e' w' ⟨rfl, rfl⟩)
   go_ret
   exact ⟨ret_bool Hf.out.symm, hB01.trans (hB2.mono (by omega))⟩
  ·have hfin : isSys m t = upAll (doorOpen t) (getl t 0).length 0 := by rw [isSys, hok, htab]; rfl
   have htabs := isTab_iff.1 htab
   obtain ⟨htl, htr⟩ := htabs
   have ht0 := (htr 0 (by omega)).2.1
   have hcols : ∀ k, k < t.length → (getl t k).length = (getl t 0).length := fun k hk => (htr k hk).1
   have Hcols := Lib.hid hcols; clear hcols htr
   have Hf := Lib.hid hfin; clear hfin
   have Hok := Lib.hid hok; clear hok
   have Ht := Lib.hid htab; clear htab
   obtain ⟨b0, off0, a0, c0, rfl, _, hcc0, hr0⟩ := hV1.cell (k := 0) (by omega)
   simp only [Nat.add_zero] at hcc0
   go_enter Tryz.func33, Tryz.ntmps33
   go_wp2_with fail
   rw [← hW1]
   refine (isMaker_any _ _ _ _ _ _).mono ?_; rintro e' w2 ⟨rfl, hb_w2⟩; have hB2 := (Below.refl W1.heap.size W1).trans (hb_w2.mono (Below.refl W1.heap.size W1).size)
   rw [show isMk m.c m.d m.s m.e m.l = true from Hok.out]
   have hx2 : ∀ o, (w2).cell? ⟨W.heap.size, o, none⟩ = (#[.int .i64 m.c, .int .i64 m.d, .int .i64 m.s, .int .i64 m.e, .int .i64 m.l, .slice (some ⟨b0, off0, none⟩) t.length c] : Array Value)[o]? := fun o => by rw [(bcell hB2).1 _ _ hz01, hc01]
   have hcc2 : w2.cell? ⟨b0, off0, none⟩ = some (.slice a0 (getl t 0).length c0) := cell_keep hcc0 (hB2.block _ (lt_of_cell hcc0))
   have Hc01 := Lib.hid hc01; clear hc01
   have Hh01 := Lib.hid hh01; clear hh01
   have HW1 := Lib.hid hW1; clear hW1
   clear hcc0
   go_wp2_with (go_at_call 50; refine (isTable_b _ _ _ _ Ht.out (hV1.below hB2)).mono ?_; rintro e' w' ⟨rfl, rfl⟩)
   have Hx2 := Lib.hid hx2; clear hx2
   go_loopw [3, 19] (fun _ i wr => ∃ k : Nat, k ≤ (getl t 0).length ∧ i = .int .i64 k ∧ isSys m t = upAll (doorOpen t) (getl t 0).length k ∧ Below W1.heap.size W1 wr) (fun _ i _ => (getl t 0).length - (intOf i).toNat)
   case atStart => exact ⟨0, Nat.zero_le _, rfl, Hf.out, hB2⟩
   case round =>
    obtain ⟨k, hk, rfl, hrem, hB⟩ := hrel
    have Hr := Lib.hid hrem; clear hrem
    have hx : ∀ o, wr.cell? ⟨W.heap.size, o, none⟩ = (#[.int .i64 m.c, .int .i64 m.d, .int .i64 m.s, .int .i64 m.e, .int .i64 m.l, .slice (some ⟨b0, off0, none⟩) t.length c] : Array Value)[o]? := fun o => by rw [(bcell hB).1 _ _ hz01, Hc01.out]
    by_cases hkk : k < (getl t 0).length
    ·have hdd : ∀ j, j < t.length → k < (getl t j).length := fun j hj => by rw [Hcols.out j hj]; exact hkk
     have Hdd := Lib.hid hdd; clear hdd
     go_wp2_with fail
     refine (rowsFor_any m _ t k _ (hV1.below hB) Hdd.out (by omega)).mono ?_
     rintro e' w3 ⟨v3, rfl, hF, hb3⟩
     have hB3 := hB.trans (hb3.mono hB.size)
     obtain ⟨a3, c3, rfl, hl3⟩ := hF.v1.form
     cases hdo : doorOpen t k
     ·have hz : (rowsF t k t.length).length = 0 := rowsF_door.2 hdo
      have e1 : (((rowsF t k t.length).length : Int) == 0) = true := by simp [hz]
      have Hdo := Lib.hid hdo; clear hdo
      have Hz := Lib.hid hz; clear hz
      go_wp2_with fail
      go_ret
      exact ⟨ret_bool (by rw [Hr.out, upAll_step hkk, Hdo.out]; rfl), hB01.trans (hB3.mono (by omega))⟩
     ·have hz : (rowsF t k t.length).length ≠ 0 := fun e => by
       have := rowsF_door.1 e
       rw [doorOpen, this] at hdo; cases hdo
      have e1 : (((rowsF t k t.length).length : Int) == 0) = false := by simp; simpa using hz
      have Hdo := Lib.hid hdo; clear hdo
      have Hz := Lib.hid hz; clear hz
      go_wp2_with fail
      go_roundw
      case rel => exact ⟨k + 1, by omega, by go_num, by rw [Hr.out, upAll_step hkk, Hdo.out]; rfl, hB3⟩
      case measure => simp [intOf]; omega
    ·obtain rfl : k = (getl t 0).length := by omega
     go_wp2_with fail
     go_ret
     exact ⟨ret_bool (by rw [Hr.out, upAll_end]), hB01.trans (hB.mono (by omega))⟩
set_option maxRecDepth 100000 in
theorem isSystemR_any {S : Nat → Prop} (m : Mk) (u : Value) (t : List (List Int)) (W : World) (h : V2 S W u t) :
  Calls Tryz.prog 35 #[.agg #[.int .i64 m.c, .int .i64 m.d, .int .i64 m.s, .int .i64 m.e, .int .i64 m.l, u]] W fun e' w' => e' = .returned (.bool (isSys m t)) ∧ Below W.heap.size W w' := by
 have hV := h
 obtain ⟨a, c, rfl, hm⟩ := h.form
 obtain ⟨W1, hW1, hB01, hz01, HZ01, hc01, hh01⟩ := box_facts W #[.int .i64 m.c, .int .i64 m.d, .int .i64 m.s, .int .i64 m.e, .int .i64 m.l, .slice a t.length c] 35
 have hV1 := hV.below hB01
 cases hok : m.ok
 ·have hfin : isSys m t = false := by rw [isSys, hok]; rfl
  have Hf := Lib.hid hfin; clear hfin
  have Hok := Lib.hid hok; clear hok
  go_enter Tryz.func35, Tryz.ntmps35
  go_wp2_with fail
  rw [← hW1]
  refine (isMakerR_any _ _ _ _ _ _).mono ?_; rintro e' w2 ⟨rfl, hb_w2⟩; have hB2 := (Below.refl W1.heap.size W1).trans (hb_w2.mono (Below.refl W1.heap.size W1).size)
  rw [show isMk m.c m.d m.s m.e m.l = false from Hok.out]
  clear hc01 hh01
  go_wp2_with fail
  go_ret
  exact ⟨ret_bool Hf.out.symm, hB01.trans (hB2.mono (by omega))⟩
 ·cases htab : isTab t
  ·have hfin : isSys m t = false := by rw [isSys, htab]; simp
   have Hf := Lib.hid hfin; clear hfin
   have Hok := Lib.hid hok; clear hok
   have Ht := Lib.hid htab; clear htab
   go_enter Tryz.func35, Tryz.ntmps35
   go_wp2_with fail
   rw [← hW1]
   refine (isMakerR_any _ _ _ _ _ _).mono ?_; rintro e' w2 ⟨rfl, hb_w2⟩; have hB2 := (Below.refl W1.heap.size W1).trans (hb_w2.mono (Below.refl W1.heap.size W1).size)
   rw [show isMk m.c m.d m.s m.e m.l = true from Hok.out]
   have hx2 : ∀ o, (w2).cell? ⟨W.heap.size, o, none⟩ = (#[.int .i64 m.c, .int .i64 m.d, .int .i64 m.s, .int .i64 m.e, .int .i64 m.l, .slice a t.length c] : Array Value)[o]? := fun o => by rw [(bcell hB2).1 _ _ hz01, hc01]
   clear hc01 hh01
   go_wp2_with (go_at_call 59; refine (isTableR_b _ _ _ _ Ht.out (hV1.below hB2)).mono ?_; rintro e' w' ⟨rfl, n, rfl⟩)
   go_ret
   exact ⟨ret_bool Hf.out.symm, below_drewN (hB01.trans (hB2.mono (by omega))) _⟩
  ·have hfin : isSys m t = upAll (doorOpen t) (getl t 0).length 0 := by rw [isSys, hok, htab]; rfl
   have htabs := isTab_iff.1 htab
   obtain ⟨htl, htr⟩ := htabs
   have ht0 := (htr 0 (by omega)).2.1
   have hcols : ∀ k, k < t.length → (getl t k).length = (getl t 0).length := fun k hk => (htr k hk).1
   have Hcols := Lib.hid hcols; clear hcols htr
   have Hf := Lib.hid hfin; clear hfin
   have Hok := Lib.hid hok; clear hok
   have Ht := Lib.hid htab; clear htab
   obtain ⟨b0, off0, a0, c0, rfl, _, hcc0, hr0⟩ := hV1.cell (k := 0) (by omega)
   simp only [Nat.add_zero] at hcc0
   go_enter Tryz.func35, Tryz.ntmps35
   go_wp2_with fail
   rw [← hW1]
   refine (isMakerR_any _ _ _ _ _ _).mono ?_; rintro e' w2 ⟨rfl, hb_w2⟩; have hB2 := (Below.refl W1.heap.size W1).trans (hb_w2.mono (Below.refl W1.heap.size W1).size)
   rw [show isMk m.c m.d m.s m.e m.l = true from Hok.out]
   have hx2 : ∀ o, (w2).cell? ⟨W.heap.size, o, none⟩ = (#[.int .i64 m.c, .int .i64 m.d, .int .i64 m.s, .int .i64 m.e, .int .i64 m.l, .slice (some ⟨b0, off0, none⟩) t.length c] : Array Value)[o]? := fun o => by rw [(bcell hB2).1 _ _ hz01, hc01]
   have Hcc0 := Lib.hid hcc0; clear hcc0
   have Hc01 := Lib.hid hc01; clear hc01
   have Hh01 := Lib.hid hh01; clear hh01
   have HW1 := Lib.hid hW1; clear hW1
   go_wp2_with (go_at_call 59; refine (isTableR_b _ _ _ _ Ht.out (hV1.below hB2)).mono ?_; rintro e' w' ⟨rfl, n, rfl⟩)
   have hB2' := below_drewN hB2 n
   have Hx2 := Lib.hid hx2; clear hx2
   go_loopw [3, 4, 5] (fun i _ _ wr => ∃ k : Nat, k ≤ (getl t 0).length ∧ i = .int .i64 k ∧ isSys m t = upAll (doorOpen t) (getl t 0).length k ∧ Below W1.heap.size W1 wr) (fun i _ _ _ => (getl t 0).length - (intOf i).toNat)
   case atStart => exact ⟨0, Nat.zero_le _, rfl, Hf.out, hB2'⟩
   case round =>
    obtain ⟨k, hk, rfl, hrem, hB⟩ := hrel
    have Hr := Lib.hid hrem; clear hrem
    have hx : ∀ o, wr.cell? ⟨W.heap.size, o, none⟩ = (#[.int .i64 m.c, .int .i64 m.d, .int .i64 m.s, .int .i64 m.e, .int .i64 m.l, .slice (some ⟨b0, off0, none⟩) t.length c] : Array Value)[o]? := fun o => by rw [(bcell hB).1 _ _ hz01, Hc01.out]
    have hcc : wr.cell? ⟨b0, off0, none⟩ = some (.slice a0 (getl t 0).length c0) := cell_keep Hcc0.out (hB.block _ (lt_of_cell Hcc0.out))
    by_cases hkk : k < (getl t 0).length
    ·go_wp2_with fail
     go_loopw [4, 5] (fun o j w3 => ∃ q : Nat, q ≤ t.length ∧ j = .int .i64 q ∧ o = .bool (doorTo t k q) ∧ w3 = wr) (fun _ j _ => t.length - (intOf j).toNat)
     case atStart => exact ⟨0, Nat.zero_le _, rfl, rfl, rfl⟩
     case round =>
      obtain ⟨q, hq, rfl, rfl, rfl⟩ := hrel
      by_cases hqq : q < t.length
      ·obtain ⟨b1, off1, a1, c1, e1, _, hc1, hr1⟩ := (hV1.below hB).cell hqq
       simp only [Option.some.injEq, Addr.mk.injEq, and_true] at e1
       obtain ⟨rfl, rfl⟩ := e1
       have hkq : k < (getl t q).length := by rw [Hcols.out q hqq]; exact hkk
       obtain ⟨b2, off2, rfl, _, hc2⟩ := hr1.cell hkq
       have hll := hr1.len
       unfold maxLen at hll
       cases hd : doorTo t k q
       ·have hst : doorTo t k (q + 1) = decide (geti (getl t q) k = 1) := by rw [doorTo, hd]; rfl
        have Hst := Lib.hid hst; clear hst
        have Hd := Lib.hid hd; clear hd
        go_wp2_with fail
        all_goals go_roundw
        all_goals first | (case rel => exact ⟨q + 1, by omega, by go_num, by rw [Hst.out]; first | rfl | simp_all, by first | rfl | trivial⟩) | skip
        all_goals (simp [intOf]; omega)
       ·have hst : doorTo t k (q + 1) = true := by rw [doorTo, hd]; rfl
        have Hst := Lib.hid hst; clear hst
        have Hd := Lib.hid hd; clear hd
        go_wp2_with fail
        go_roundw
        case rel => exact ⟨q + 1, by omega, by go_num, by rw [Hst.out], by first | rfl | trivial⟩
        case measure => simp [intOf]; omega
      ·obtain rfl : q = t.length := by omega
       cases hdo : doorTo t k t.length
       ·have Hdo := Lib.hid hdo; clear hdo
        go_wp2_with fail
        go_ret
        exact ⟨ret_bool (by rw [Hr.out, upAll_step hkk, doorOpen, Hdo.out]; rfl), hB01.trans (hB.mono (by omega))⟩
       ·have Hdo := Lib.hid hdo; clear hdo
        go_wp2_with fail
        go_roundw
        case rel => exact ⟨k + 1, by omega, by go_num, by rw [Hr.out, upAll_step hkk, doorOpen, Hdo.out]; rfl, hB⟩
        case measure => simp [intOf]; omega
    ·obtain rfl : k = (getl t 0).length := by omega
     go_wp2_with fail
     go_ret
     exact ⟨ret_bool (by rw [Hr.out, upAll_end]), hB01.trans (hB.mono (by omega))⟩
theorem isSystem_b {S : Nat → Prop} (m : Mk) (u : Value) (t : List (List Int)) (W : World) (r : Bool) (hr : isSys m t = r) (h : V2 S W u t) :
  Calls Tryz.prog 33 #[.agg #[.int .i64 m.c, .int .i64 m.d, .int .i64 m.s, .int .i64 m.e, .int .i64 m.l, u]] W fun e' w' => e' = .returned (.bool r) ∧ Below W.heap.size W w' := by subst hr; exact isSystem_any m u t W h
theorem isSystemR_b {S : Nat → Prop} (m : Mk) (u : Value) (t : List (List Int)) (W : World) (r : Bool) (hr : isSys m t = r) (h : V2 S W u t) :
  Calls Tryz.prog 35 #[.agg #[.int .i64 m.c, .int .i64 m.d, .int .i64 m.s, .int .i64 m.e, .int .i64 m.l, u]] W fun e' w' => e' = .returned (.bool r) ∧ Below W.heap.size W w' := by subst hr; exact isSystemR_any m u t W h
/-- Values of rows ls. -/
def RowVs (S : Nat → Prop) (w : World) (vs : List Value) (ls : List (List Int)) : Prop :=
 vs.length = ls.length ∧ ∀ k, k < ls.length → ∃ ev, vs[k]? = some ev ∧ V1 S w ev (getl ls k)
theorem RowVs.nil {S : Nat → Prop} {w : World} : RowVs S w [] [] := ⟨rfl, fun k hk => by simp at hk⟩
theorem getl_append1 {ls : List (List Int)} {l : List Int} {k : Nat} (h : k < ls.length) : getl (ls ++ [l]) k = getl ls k := by
 simp [getl, List.getElem?_append_left h]
theorem getl_last {ls : List (List Int)} {l : List Int} : getl (ls ++ [l]) ls.length = l := by
 unfold getl; simp
theorem RowVs.snoc {S : Nat → Prop} {w : World} {vs : List Value} {ls : List (List Int)} {v : Value} {l : List Int} (h : RowVs S w vs ls) (hv : V1 S w v l) : RowVs S w (vs ++ [v]) (ls ++ [l]) := by
 refine ⟨by simp [h.1], fun k hk => ?_⟩
 by_cases hkk : k < ls.length
 ·obtain ⟨ev, h1, h2⟩ := h.2 k hkk
  exact ⟨ev, by rw [List.getElem?_append_left (by rw [h.1]; exact hkk)]; exact h1, by rw [getl_append1 hkk]; exact h2⟩
 ·have e : k = ls.length := by simp at hk; omega
  subst e
  exact ⟨v, by rw [← h.1]; simp, by rw [getl_last]; exact hv⟩
theorem RowVs.below {S : Nat → Prop} {w w' : World} {vs : List Value} {ls : List (List Int)} (h : RowVs S w vs ls) (hb : Below w.heap.size w w') : RowVs S w' vs ls :=
 ⟨h.1, fun k hk => by obtain ⟨ev, h1, h2⟩ := h.2 k hk; exact ⟨ev, h1, h2.below hb⟩⟩
theorem RowVs.keep {S : Nat → Prop} {w w' : World} {vs : List Value} {ls : List (List Int)} (h : RowVs S w vs ls) (hb : Keep S w w') : RowVs S w' vs ls :=
 ⟨h.1, fun k hk => by obtain ⟨ev, h1, h2⟩ := h.2 k hk; exact ⟨ev, h1, h2.mono (fun _ h _ => h) hb⟩⟩
theorem own_V2 {w : World} {B : Nat} {e : TypeId} {v : Value} {n : Nat} {vs : List Value} {ls : List (List Int)} (h : w.ownsRow B e 1 v n vs) (hr : RowVs (fun _ => True) w vs ls) : V2 (fun _ => True) w v ls := by
 obtain ⟨hl, h⟩ := h
 have hn : n = ls.length := by have := hr.1; omega
 subst hn
 rcases h with ⟨rfl, h0⟩ | ⟨g, cap, cur, rfl, hb, hh, hc, hm, hs, ht⟩
 ·exact ⟨none, 0, by rw [h0], by omega, Nat.zero_le _, fun k hk => by omega⟩
 ·refine ⟨_, _, rfl, hc, hm, fun k hk => ?_⟩
  obtain ⟨ev, h1, h2⟩ := hr.2 k hk
  refine ⟨g, 0, ev, rfl, trivial, ?_, h2⟩
  have h3 : (cur.toList.take (ls.length * 1))[k]? = vs[k]? := by rw [ht]
  rw [List.getElem?_take, if_pos (by omega), h1] at h3
  rw [cell_of_block hh, Nat.zero_add, ← Array.getElem?_toList, h3]
theorem own_keep {w w' : World} {B : Nat} {e : TypeId} {v : Value} {n : Nat} {xs : List Value} (h : w.ownsRow B e 1 v n xs) (hb : Below w.heap.size w w') : w'.ownsRow B e 1 v n xs := by
 refine ⟨h.1, ?_⟩
 rcases h.2 with h0 | ⟨g, cap, cur, rfl, h1, h2, h3⟩
 ·exact .inl h0
 ·exact .inr ⟨g, cap, cur, rfl, h1, by rw [hb.block g (lt_of_heap h2)]; exact h2, h3⟩
theorem grow_keep {S : Nat → Prop} {w w' : World} {ob : Option Nat} (hg : w.grownBy w' ob) (h : ∀ g, ob = some g → ¬ S g) : Keep S w w' := fun b hb hlt => hg.block b hlt (fun e => h b e.symm hb)
theorem V1.old {S : Nat → Prop} {w : World} {v : Value} {l : List Int} (h : V1 S w v l) : V1 (fun b => b < w.heap.size) w v l := h.mono (fun _ _ h => h) (fun _ _ _ => rfl)
theorem V2.old {S : Nat → Prop} {w : World} {v : Value} {ls : List (List Int)} (h : V2 S w v ls) : V2 (fun b => b < w.heap.size) w v ls := h.mono (fun _ _ h => h) (fun _ _ _ => rfl)
theorem V1.any {S : Nat → Prop} {w : World} {v : Value} {l : List Int} (h : V1 S w v l) : V1 (fun _ => True) w v l := h.mono (fun _ _ _ => trivial) (fun _ _ _ => rfl)
theorem V2.any {S : Nat → Prop} {w : World} {v : Value} {ls : List (List Int)} (h : V2 S w v ls) : V2 (fun _ => True) w v ls := h.mono (fun _ _ _ => trivial) (fun _ _ _ => rfl)
def isB (v : Value) (n : Int) : Prop := v = .int .u8 n ∧ 0 ≤ n ∧ n ≤ 255
/-- A slice of bytes. -/
def VB (S : Nat → Prop) (w : World) (v : Value) (l : List Int) : Prop := Vs geti isB S w v l
theorem VB.mono {S S' : Nat → Prop} {w w' : World} {v : Value} {l : List Int} (h : VB S w v l) (hS : ∀ b, S b → b < w.heap.size → S' b) (hk : Keep S w w') : VB S' w' v l := Vs.mono h hS hk fun _ _ r => r
theorem VB.form {S : Nat → Prop} {w : World} {v : Value} {l : List Int} (h : VB S w v l) : ∃ a c, v = .slice a l.length c ∧ l.length ≤ 9223372036854775807 := by
 obtain ⟨a, c, rfl, h1, h2, _⟩ := h
 exact ⟨a, c, rfl, by unfold maxLen at h2; omega⟩
theorem VB.cell {S : Nat → Prop} {w : World} {a : Option Addr} {n c k : Nat} {l : List Int} (h : VB S w (.slice a n c) l) (hk : k < l.length) : ∃ b off, a = some ⟨b, off, none⟩ ∧ S b ∧ w.cell? ⟨b, off + k, none⟩ = some (.int .u8 (geti l k)) ∧ 0 ≤ geti l k ∧ geti l k ≤ 255 := by
 obtain ⟨a', c', e, hl, hm, h⟩ := h
 simp only [Value.slice.injEq] at e
 obtain ⟨rfl, rfl, rfl⟩ := e
 obtain ⟨b, off, ev, ha, hb, hc, rfl, h1, h2⟩ := h k hk
 exact ⟨b, off, ha, hb, hc, h1, h2⟩
/-- The source of numbers: its block, the code that it reads (made before block B0). -/
def Src (B0 SB : Nat) (w : World) : Prop :=
 B0 ≤ SB ∧ ∃ ca cc l, ∃ at_ : Nat, ∃ seed : Int, w.heap[SB]? = some (.cells #[.slice ca (l : List Int).length cc, .int .i64 (at_ : Int), .int .i64 seed] 74 (0, 0)) ∧ VB (fun b => b < B0) w (.slice ca l.length cc) l ∧ at_ ≤ l.length ∧ 0 ≤ seed ∧ seed < 2147483647
theorem Src.lt {B0 SB : Nat} {w : World} (h : Src B0 SB w) : SB < w.heap.size := by
 obtain ⟨_, _, _, _, _, _, h, _⟩ := h
 exact lt_of_heap h
theorem Src.keep {B0 SB : Nat} {F : Nat → Prop} {w w' : World} (h : Src B0 SB w) (hc : Chg F w w') (hF : ∀ b, F b → B0 ≤ b ∧ b ≠ SB) : Src B0 SB w' := by
 obtain ⟨h0, ca, cc, l, at_, seed, h1, h2, h3⟩ := h
 exact ⟨h0, ca, cc, l, at_, seed, hc.heap h1 (fun hf => (hF _ hf).2 rfl), h2.mono (fun _ h _ => h) (hc.keep fun b hb hf => by have := (hF b hf).1; omega), h3⟩
theorem Src.below {B0 SB : Nat} {w w' : World} (h : Src B0 SB w) (hb : Below w.heap.size w w') : Src B0 SB w' := h.keep (Chg.of_below (F := fun _ => False) hb) (fun _ h => h.elim)
/-- Only the source and new memory have turned. -/
abbrev Only (SB : Nat) (w w' : World) : Prop := Chg (fun b => b = SB) w w'
theorem src_put {B0 SB : Nat} {W w' : World} {ca : Option Addr} {cc at0 at1 : Nat} {l : List Int} {s0 s1 : Int} (h0 : B0 ≤ SB) (h1 : W.heap[SB]? = some (.cells #[.slice ca l.length cc, .int .i64 (at0 : Int), .int .i64 s0] 74 (0, 0))) (h2 : VB (fun b => b < B0) W (.slice ca l.length cc) l)
  (hc : Only SB W w') (hh : w'.heap[SB]? = some (.cells #[.slice ca l.length cc, .int .i64 (at1 : Int), .int .i64 s1] 74 (0, 0))) (ha : at1 ≤ l.length) (hs : 0 ≤ s1) (hs2 : s1 < 2147483647) : Src B0 SB w' ∧ Only SB W w' :=
 ⟨⟨h0, ca, cc, l, at1, s1, hh, h2.mono (fun _ h _ => h) (hc.keep fun b hb e => by subst e; have h3 : b < B0 := hb; omega), ha, hs, hs2⟩, hc⟩
set_option maxRecDepth 100000 in
set_option maxHeartbeats 1000000 in
theorem l01Next_any (B0 SB : Nat) (n : Int) (W : World) (h : Src B0 SB W) :
  Calls Tryz.prog 27 #[.pointer (some ⟨SB, 0, none⟩), .int .i64 n] W fun e w' => ∃ x : Int, e = .returned (.int .i64 x) ∧ (0 ≤ x ∧ (x < n ∨ x = 0)) ∧ Src B0 SB w' ∧ Only SB W w' := by
 have hdr : ∀ u : World, u.drew.heap = u.heap := fun _ => rfl
 by_cases hn : n ≤ 1
 ·have hd : decide (n ≤ 1) = true := decide_eq_true hn
  have H := Lib.hid h; clear h
  go_enter Tryz.func27, Tryz.ntmps27
  go_wp2_with fail
  go_ret
  exact ⟨0, rfl, by omega, H.out, Chg.refl _ _⟩
 ·have hd : decide (n ≤ 1) = false := decide_eq_false hn
  have hn1 : 1 < n := by omega
  obtain ⟨h0, ca, cc, l, at_, seed, h1, h2, h3, h4, h5⟩ := h
  obtain ⟨_, _, e, hlm⟩ := h2.form
  have c0 : W.cell? ⟨SB, 0, none⟩ = some (.slice ca l.length cc) := by rw [cell_of_block h1]; rfl
  have c1 : W.cell? ⟨SB, 1, none⟩ = some (.int .i64 (at_ : Int)) := by rw [cell_of_block h1]; rfl
  have c2 : W.cell? ⟨SB, 2, none⟩ = some (.int .i64 seed) := by rw [cell_of_block h1]; rfl
  have f2 := frozen_of_block h1 2
  have f1 := frozen_of_block h1 1
  clear e
  by_cases hA : at_ < l.length
  ·have hA1 : decide (at_ < l.length) = true := decide_eq_true hA
   obtain ⟨b, off, rfl, hb, hcc, hr1, hr2⟩ := h2.cell hA
   have hbS : ¬ b = SB := fun e => by subst e; have h3 : b < B0 := hb; omega
   obtain ⟨x, hx⟩ : ∃ x, geti l at_ = x := ⟨_, rfl⟩
   rw [hx] at hcc hr1 hr2
   have H := Lib.hid (And.intro h1 (And.intro h2 hx)); clear h1 h2 hx hb
   by_cases h256 : n ≤ 256
   ·have hd2 : decide (n ≤ 256) = true := decide_eq_true h256
    by_cases hpar : ((at_ : Int) + 1) % 2 = 0
    ·have hp1 : (((at_ : Int) + 1) % 2 == 0) = true := by rw [beq_iff_eq]; exact hpar
     go_enter Tryz.func27, Tryz.ntmps27
     go_wp2_with fail
     go_region
     all_goals
      go_wp2_with fail
      go_region
      all_goals
       go_wp2_with fail
       go_region
       all_goals
        go_wp2_with fail
        go_ret
        refine ⟨_, rfl, ⟨Int.emod_nonneg _ (by omega), .inl (Int.emod_lt_of_pos _ (by omega))⟩, src_put (at1 := at_ + 1) (s1 := (seed * 48271 + 29) % 2147483647) h0 H.out.1 H.out.2.1 ?_ ?_ (by omega) (by omega) (by omega)⟩
        ·(repeat with_reducible refine Chg.drew ?_)
         exact ((Chg.refl (fun b => b = SB) _).setCell (p := ⟨SB, 2, none⟩) (.inl rfl) _).setCell (p := ⟨SB, 1, none⟩) (.inl rfl) _
        ·(repeat rw [hdr])
         rw [heap_setCell_self (heap_setCell_self H.out.1 _)]; simp
    ·have hp1 : (((at_ : Int) + 1) % 2 == 0) = false := by rw [beq_eq_false_iff_ne]; exact hpar
     go_enter Tryz.func27, Tryz.ntmps27
     go_wp2_with fail
     go_region
     all_goals
      go_wp2_with fail
      go_region
      all_goals
       go_wp2_with fail
       go_ret
       refine ⟨_, rfl, ⟨Int.emod_nonneg _ (by omega), .inl (Int.emod_lt_of_pos _ (by omega))⟩, src_put (at1 := at_ + 1) (s1 := (seed * 48271 + 29) % 2147483647) h0 H.out.1 H.out.2.1 ?_ ?_ (by omega) (by omega) (by omega)⟩
       ·(repeat with_reducible refine Chg.drew ?_)
        exact ((Chg.refl (fun b => b = SB) _).setCell (p := ⟨SB, 2, none⟩) (.inl rfl) _).setCell (p := ⟨SB, 1, none⟩) (.inl rfl) _
       ·(repeat rw [hdr])
        rw [heap_setCell_self (heap_setCell_self H.out.1 _)]; simp
   ·have hd2 : decide (n ≤ 256) = false := decide_eq_false h256
    go_enter Tryz.func27, Tryz.ntmps27
    go_wp2_with fail
    go_region
    all_goals
     go_wp2_with fail
     go_region
     all_goals
      go_wp2_with fail
      go_ret
      refine ⟨_, rfl, ⟨Int.emod_nonneg _ (by omega), .inl (Int.emod_lt_of_pos _ (by omega))⟩, src_put (at1 := at_ + 1) (s1 := (seed * 48271 + 29) % 2147483647) h0 H.out.1 H.out.2.1 ?_ ?_ (by omega) (by omega) (by omega)⟩
      ·(repeat with_reducible refine Chg.drew ?_)
       exact ((Chg.refl (fun b => b = SB) _).setCell (p := ⟨SB, 2, none⟩) (.inl rfl) _).setCell (p := ⟨SB, 1, none⟩) (.inl rfl) _
      ·(repeat rw [hdr])
       rw [heap_setCell_self (heap_setCell_self H.out.1 _)]; simp
  ·have hA1 : decide (at_ < l.length) = false := decide_eq_false hA
   have H := Lib.hid (And.intro h1 h2); clear h1 h2
   go_enter Tryz.func27, Tryz.ntmps27
   go_wp2_with fail
   go_region
   all_goals
    go_wp2_with fail
    go_ret
    refine ⟨_, rfl, ⟨Int.emod_nonneg _ (by omega), .inl (Int.emod_lt_of_pos _ (by omega))⟩, src_put (at1 := at_) (s1 := (seed * 48271 + 29) % 2147483647) h0 H.out.1 H.out.2 ?_ ?_ h3 (by omega) (by omega)⟩
    ·exact ((Chg.refl (fun b => b = SB) _).setCell (p := ⟨SB, 2, none⟩) (.inl rfl) _).drew
    ·rw [hdr, heap_setCell_self H.out.1]; simp
theorem Only.trans {SB : Nat} {a b c : World} (h : Only SB a b) (k : Only SB b c) : Only SB a c := Chg.trans h k (fun _ h => .inl h)
theorem Only.then_below {SB : Nat} {a b c : World} (h : Only SB a b) (k : Below b.heap.size b c) : Only SB a c := Chg.then_below h k
theorem Only.refl (SB : Nat) (a : World) : Only SB a a := Chg.refl _ _
theorem Only.of_below {SB : Nat} {a b : World} (h : Below a.heap.size a b) : Only SB a b := Chg.of_below h
/-- A list with a number in it: one of its numbers is picked. -/
theorem l01Pick_any {S : Nat → Prop} (B0 SB : Nat) (v : Value) (l : List Int) (W : World) (h : Src B0 SB W) (hv : V1 S W v l) (hS : ∀ b, S b → b ≠ SB) (hl : l ≠ []) :
  Calls Tryz.prog 40 #[.pointer (some ⟨SB, 0, none⟩), v] W fun e w' => ∃ x : Int, e = .returned (.int .i64 x) ∧ x ∈ l ∧ Src B0 SB w' ∧ Only SB W w' := by
 obtain ⟨a, c, rfl, hm⟩ := hv.form
 have hpos := List.length_pos_iff.2 hl
 have H := Lib.hid (And.intro h hv); clear h hv
 go_enter Tryz.func40, Tryz.ntmps40
 go_wp2_with fail
 refine (l01Next_any B0 SB _ W H.out.1).mono ?_
 rintro e' w2 ⟨x, rfl, ⟨hx0, hx1⟩, hs, ho⟩
 obtain ⟨k, rfl⟩ : ∃ k : Nat, x = (k : Int) := ⟨x.toNat, by omega⟩
 have hk : k < l.length := by omega
 have hv2 : V1 S w2 (.slice a l.length c) l := H.out.2.mono (fun _ h _ => h) (ho.keep fun b hb e => hS b hb e)
 obtain ⟨b, off, rfl, _, hcc⟩ := hv2.cell hk
 have H2 := Lib.hid (And.intro hs ho); clear hs ho hv2 hx0 hx1
 go_wp2_with fail
 go_ret
 exact ⟨_, rfl, geti_mem hk, H2.out.1, H2.out.2⟩
end Go.Proofs.YtbekpololmahoaaGreatDoor
namespace Go.Proofs.YtbekpololmahoaaGreatDoor
open Go.ChangeShapes Go.WideShapes Go.ChangeAt Go.RowKit Go.Deep
set_option linter.unusedVariables false
set_option linter.unusedSimpArgs false
theorem byte_of_wf {n : Int} (h : (Lit.int .u8 n).wf = true) : 0 ≤ n ∧ n ≤ 255 := by
 simpa [Lit.wf, IntKind.min, IntKind.max, IntKind.signed, IntKind.bits] using h
section
variable {H : Type} {enc : TypeId × Value → H} {P : Program} {w : World} {held : Bool}
theorem open_VB {t e : TypeId} {fuel : Nat} {cs : List Value} {x : DataW H × List MemPlace} (ht : P.underlying t = some (.slice e)) (he : P.underlying e = some (.int .u8)) (ce : P.cellsOf e = 1)
  (h : DataW.trod enc P w 0 (fun _ => true) held fuel t cs = some x) : ∃ v l, cs = [v] ∧ VB (Old w) w v l := by
 rcases open_ints ht he ce h with ⟨rfl, _⟩ | ⟨a, len, cap, zs, rfl, _, hl, hm, hz, _, hcell, hwz⟩
 ·exact ⟨_, [], rfl, ⟨none, 0, rfl, Nat.le_refl _, Nat.zero_le _, fun k hk => absurd hk (by simp)⟩⟩
 ·simp only [if_true] at hz
  have hlen : (zs.take len).length = len := by simp; omega
  refine ⟨_, zs.take len, rfl, ⟨some a, cap, by rw [hlen], by omega, hm, fun k hk => ?_⟩⟩
  have h0 := addr_of_cell (hcell 0 (by omega)) rfl
  have hk' := hcell k (by omega)
  rw [h0, Addr.add_lit] at hk'
  refine ⟨a.block, a.off, _, congrArg some h0, lt_of_cell (a := ⟨a.block, a.off + k, none⟩) hk', hk', ?_⟩
  rw [geti_take (by omega)]
  have hkz : k < zs.length := by omega
  have := byte_of_wf (hwz (geti zs k) (geti_mem hkz))
  exact ⟨rfl, this.1, this.2⟩
theorem arg_bytes {r : Reach} {b0 : Nat} {t e : TypeId} {v : Value} {d : DataW H} {p : List MemPlace} (ht : P.underlying t = some (.slice e)) (he : P.underlying e = some (.int .u8)) (ce : P.cellsOf e = 1)
  (hv : Value.okWide P w r b0 t v) (h : DataW.Trod enc P w 0 (fun _ => true) held t v d p) : ∃ l, VB (Old w) w v l := by
 obtain ⟨a0, len, cap, rfl⟩ := okWide_slice ht hv
 obtain ⟨n, hn⟩ := h
 obtain ⟨v', l, hc, hV⟩ := open_VB ht he ce hn
 simp [Value.cells] at hc
 rw [← hc] at hV
 exact ⟨l, hV⟩
end
end Go.Proofs.YtbekpololmahoaaGreatDoor
