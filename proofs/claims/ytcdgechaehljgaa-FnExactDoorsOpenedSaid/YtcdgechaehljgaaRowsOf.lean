/- The rows of a reason, in increasing order, as the program and as the reference find them. No conditions. -/
import Derived.Test.YtcdgechaehljgaaSort
import Derived.Test.YtcdgechaehljgaaMaker
namespace Go.Proofs.Ytcdgechaehljgaa
open Go.RowKit
set_option linter.unusedVariables false
set_option linter.unusedSimpArgs false

def numB (l : List Int) : Bool := decide (l.length ≤ 100) && l.all fun x => inB x 0 1000000000000
theorem numB_iff {l : List Int} : numB l = true ↔ l.length ≤ 100 ∧ ∀ x ∈ l, 0 ≤ x ∧ x ≤ 1000000000000 := by
  simp [numB, inB]
theorem numWithin_any {S : Nat → Prop} (v : Value) (l : List Int) (lo hi : Int) (W : World) (h : V1 S W v l) :
    Calls Try.prog 124 #[v, .int .i64 lo, .int .i64 hi] W fun e' w' => e' = .returned (.bool (l.all fun x => inB x lo hi)) ∧ W = w' := by
  have hV := h
  obtain ⟨a, c, rfl, hm⟩ := h.form
  go_enter Try.func124, Try.ntmps124
  go_wp2_with fail
  go_loop [8, 11] (fun _ i => ∃ k : Nat, k ≤ l.length ∧ i = .int .i64 k ∧ (l.all fun x => inB x lo hi) = ((l.drop k).all fun x => inB x lo hi)) (fun _ i => l.length - (intOf i).toNat)
  case atStart => exact ⟨0, Nat.zero_le _, rfl, rfl⟩
  case round =>
    obtain ⟨k, hk, rfl, hrem⟩ := hrel
    have Hr := Lib.hid hrem; clear hrem
    by_cases hkk : k < l.length
    · obtain ⟨b1, off1, rfl, _, hc1⟩ := hV.cell hkk
      cases hg : inB (geti l k) lo hi
      · have HG := Lib.hid hg; clear hg
        go_wp2_with (go_at_call 118; refine (within_b _ _ _ _ _ HG.out).mono ?_; rintro e' w' ⟨rfl, rfl⟩)
        go_ret
        exact ⟨ret_bool (by rw [Hr.out, all_stepi _ hkk, HG.out]; rfl), rfl⟩
      · have HG := Lib.hid hg; clear hg
        go_wp2_with (go_at_call 118; refine (within_b _ _ _ _ _ HG.out).mono ?_; rintro e' w' ⟨rfl, rfl⟩)
        go_round
        case rel => exact ⟨k + 1, by omega, by go_num, by rw [Hr.out, all_stepi _ hkk, HG.out]; rfl⟩
        case measure => simp [intOf]; omega
    · have hd : l.drop k = [] := List.drop_of_length_le (by omega)
      have Hd := Lib.hid hd; clear hd
      go_wp2_with fail
      go_ret
      exact ⟨ret_bool (by rw [Hr.out, Hd.out]; rfl), rfl⟩
theorem numWithin_b {S : Nat → Prop} (v : Value) (l : List Int) (lo hi : Int) (W : World) (r : Bool) (hr : (l.all fun x => inB x lo hi) = r) (h : V1 S W v l) :
    Calls Try.prog 124 #[v, .int .i64 lo, .int .i64 hi] W fun e' w' => e' = .returned (.bool r) ∧ W = w' := by subst hr; exact numWithin_any v l lo hi W h
theorem areNumbers_any {S : Nat → Prop} (v : Value) (l : List Int) (W : World) (h : V1 S W v l) :
    Calls Try.prog 82 #[v] W fun e' w' => e' = .returned (.bool (numB l)) ∧ W = w' := by
  have hV := h
  obtain ⟨a, c, rfl, hm⟩ := h.form
  by_cases hl : l.length ≤ 100
  · obtain ⟨r, hr⟩ : ∃ r, (l.all fun x => inB x 0 1000000000000) = r := ⟨_, rfl⟩
    have hfin : numB l = r := by unfold numB; rw [decide_eq_true hl, hr, Bool.true_and]
    rw [hfin]
    have Hr := Lib.hid hr; clear hr hfin
    go_enter Try.func82, Try.ntmps82
    go_wp2_with (go_at_call 124; refine (numWithin_b _ _ _ _ _ _ Hr.out hV).mono ?_; rintro e' w' ⟨rfl, rfl⟩)
    go_ret
    exact ⟨rfl, rfl⟩
  · have hfin : numB l = false := by unfold numB; rw [decide_eq_false hl, Bool.false_and]
    rw [hfin]
    have Hf := Lib.hid hfin; clear hfin
    go_enter Try.func82, Try.ntmps82
    go_wp2_with fail
    go_ret
    exact ⟨rfl, rfl⟩
theorem l01Is_b (n : Int) (w : World) (r : Bool) (hr : inB n 0 1000000000000 = r) :
    Calls Try.prog 123 #[.int .i64 n] w fun e w' => e = .returned (.bool r) ∧ w = w' := by
  have Hr := Lib.hid hr; clear hr
  go_enter Try.func123, Try.ntmps123
  go_wp2_with (go_at_call 116; refine (l01In_b _ _ _ _ _ Hr.out).mono ?_; rintro e' w' ⟨rfl, rfl⟩)
  go_ret
  exact ⟨rfl, rfl⟩
theorem l01Numbers_any {S : Nat → Prop} (v : Value) (l : List Int) (W : World) (h : V1 S W v l) :
    Calls Try.prog 80 #[v] W fun e' w' => e' = .returned (.bool (numB l)) ∧ W = w' := by
  have hV := h
  obtain ⟨a, c, rfl, hm⟩ := h.form
  obtain ⟨r, hr⟩ : ∃ r, numB l = r := ⟨_, rfl⟩
  rw [hr]
  have Hr := Lib.hid hr; clear hr
  go_enter Try.func80, Try.ntmps80
  go_wp2_with fail
  go_loop [3] (fun i => ∃ k : Nat, k ≤ l.length ∧ i = .int .i64 k ∧ (l.all fun x => inB x 0 1000000000000) = ((l.drop k).all fun x => inB x 0 1000000000000)) (fun i => l.length - (intOf i).toNat)
  case atStart => exact ⟨0, Nat.zero_le _, rfl, rfl⟩
  case round =>
    obtain ⟨k, hk, rfl, hrem⟩ := hrel
    have Hm := Lib.hid hrem; clear hrem
    by_cases hkk : k < l.length
    · obtain ⟨b1, off1, rfl, _, hc1⟩ := hV.cell hkk
      cases hg : inB (geti l k) 0 1000000000000
      · have hfin : r = false := by rw [← Hr.out]; unfold numB; rw [Hm.out, all_stepi _ hkk, hg]; simp
        subst hfin
        have HG := Lib.hid hg; clear hg
        go_wp2_with (go_at_call 123; refine (l01Is_b _ _ _ HG.out).mono ?_; rintro e' w' ⟨rfl, rfl⟩)
        go_ret
        exact ⟨rfl, rfl⟩
      · have HG := Lib.hid hg; clear hg
        go_wp2_with (go_at_call 123; refine (l01Is_b _ _ _ HG.out).mono ?_; rintro e' w' ⟨rfl, rfl⟩)
        go_round
        case rel => exact ⟨k + 1, by omega, by go_num, by rw [Hm.out, all_stepi _ hkk, HG.out]; rfl⟩
        case measure => simp [intOf]; omega
    · have hd : l.drop k = [] := List.drop_of_length_le (by omega)
      have hfin : r = decide (l.length ≤ 100) := by rw [← Hr.out]; unfold numB; rw [Hm.out, hd]; simp
      have Hd := Lib.hid hd; clear hd
      have Hfin := Lib.hid hfin; clear hfin
      go_wp2_with fail
      go_ret
      exact ⟨ret_bool (by rw [Hfin.out]; exact decide_eq_decide.2 (by omega)), rfl⟩

theorem rowsOf_any {S : Nat → Prop} (v : Value) (l : List Int) (W : World) (h : V1 S W v l) (hl : l.length ≤ 1048576) :
    Calls Try.prog 83 #[v] W fun e' w' => ∃ v', e' = .returned v' ∧ F1 W.heap.size w' v' (diffI l) ∧ Below W.heap.size W w' := by
  have hV := h
  obtain ⟨a, c, rfl, hm⟩ := h.form
  go_enter Try.func83, Try.ntmps83
  go_wp2_with fail
  refine (slClone_any _ l _ hV hl).mono ?_
  rintro e' w1 ⟨v1, rfl, ⟨b, hx1, hb1⟩, hB1⟩
  obtain ⟨a1, c1, rfl, _⟩ := id hx1
  go_wp2_with fail
  refine (slSort_any _ l b _ hx1 hl).mono ?_
  rintro e' w2 ⟨rfl, hx2, hc2⟩
  have hlz : (l.mergeSort fun x y => decide (x ≤ y)).length = l.length := List.length_mergeSort l
  have hnz : (l.mergeSort fun x y => decide (x ≤ y)) ≠ [] ↔ l ≠ [] := by rw [Ne, ← List.length_eq_zero_iff, hlz, List.length_eq_zero_iff]
  have hB2 := hB1.trans (hc2.to_below (fun i hi => by have := hb1 hi.1; omega) hB1.size)
  have Hx2 := Lib.hid hx2; clear hx2
  have Hlz := Lib.hid (And.intro hlz hnz); clear hlz hnz
  go_wp2_with fail
  have hx2 := Hx2.out
  obtain ⟨a2, c2, e2, _⟩ := id hx2
  refine (slCompact_any _ _ b _ hx2 (by rw [Hlz.out.1]; exact hl)).mono ?_
  rintro e' w3 ⟨v3, rfl, hx3, hc3⟩
  have Hx3 := Lib.hid hx3; clear hx3
  have hB3 := hB2.trans (hc3.to_below (fun i hi => by have := hb1 (Hlz.out.2.1 hi.1); omega) hB2.size)
  have hdn : diffI l ≠ [] → l ≠ [] := fun hn e => hn (by subst e; simp [diffI, Go.Lib.compact, Go.Lib.compactUpTo])
  have Hdn := Lib.hid hdn; clear hdn
  clear e2
  go_wp2_with fail
  go_ret
  exact ⟨_, rfl, ⟨b, Hx3.out, fun hn => hb1 (Hdn.out hn)⟩, hB3⟩

def rowsAns (l : List Int) : List Int × Int := if numB l = true then (diffI l, 0) else ([], 2)
theorem F1.nil {B : Nat} {w : World} : F1 B w (.slice none 0 0) [] := ⟨0, ⟨none, 0, rfl, Nat.le_refl _, Nat.zero_le _, fun hn => absurd rfl hn⟩, fun hn => absurd rfl hn⟩
theorem RowsOf_any {S : Nat → Prop} (v : Value) (l : List Int) (W : World) (h : V1 S W v l) :
    Calls Try.prog 41 #[v] W fun e' w' => ∃ v', e' = .returned (.tuple #[v', .int .i64 (rowsAns l).2]) ∧ F1 W.heap.size w' v' (rowsAns l).1 ∧ Below W.heap.size W w' := by
  have hV := h
  obtain ⟨a, c, rfl, hm⟩ := h.form
  have hnum := areNumbers_any _ l W hV
  by_cases hn : numB l = true
  · have ha : rowsAns l = (diffI l, 0) := by unfold rowsAns; rw [if_pos hn]
    rw [ha]
    have hl := (numB_iff.1 hn).1
    rw [hn] at hnum
    clear hn ha
    go_enter Try.func41, Try.ntmps41
    go_wp2_with fail
    refine hnum.mono ?_
    rintro e' w1 ⟨rfl, rfl⟩
    go_wp2_with fail
    refine (rowsOf_any _ l _ hV (by omega)).mono ?_
    rintro e' w2 ⟨v2, rfl, hF, hB⟩
    have HF := Lib.hid hF; clear hF
    go_wp2_with fail
    go_ret2
    exact ⟨_, rfl, HF.out, hB⟩
  · have ha : rowsAns l = ([], 2) := by unfold rowsAns; rw [if_neg hn]
    rw [ha]
    rw [show numB l = false by simpa using hn] at hnum
    clear hn ha
    go_enter Try.func41, Try.ntmps41
    go_wp2_with fail
    refine hnum.mono ?_
    rintro e' w1 ⟨rfl, rfl⟩
    go_wp2_with fail
    go_ret2
    exact ⟨_, rfl, F1.nil, Below.refl _ _⟩
end Go.Proofs.Ytcdgechaehljgaa
