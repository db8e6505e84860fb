/- The rows of a reason, in increasing order, as the program and as the reference find them. No conditions. -/
import Derived.Test.YtjkfgldmeenmjaaSort
import Derived.Test.YtjkfgldmeenmjaaMaker
namespace Go.Proofs.Ytjkfgldmeenmjaa
open Go.RowKit
set_option linter.unusedVariables false
set_option linter.unusedSimpArgs false

def numB (l : List Int) : Bool := decide (l.length ≤ 100) && l.all fun x => inB x 0 1000000000000
theorem numB_iff {l : List Int} : numB l = true ↔ l.length ≤ 100 ∧ ∀ x ∈ l, 0 ≤ x ∧ x ≤ 1000000000000 := by
  simp [numB, inB]
theorem numWithin_any {S : Nat → Prop} (v : Value) (l : List Int) (lo hi : Int) (W : World) (h : V1 S W v l) :
    Calls Try.prog 112 #[v, .int .i64 lo, .int .i64 hi] W fun e' w' => e' = .returned (.bool (l.all fun x => inB x lo hi)) ∧ W = w' := by
  have hV := h
  obtain ⟨a, c, rfl, hm⟩ := h.form
  go_enter Try.func112, Try.ntmps112
  go_wp2_with fail
  go_loop [8, 11] (fun _ i => ∃ k : Nat, k ≤ l.length ∧ i = .int .i64 k ∧ (l.all fun x => inB x lo hi) = ((l.drop k).all fun x => inB x lo hi)) (fun _ i => l.length - (intOf i).toNat)
  case atStart => exact ⟨0, Nat.zero_le _, rfl, rfl⟩
  case round =>
    obtain ⟨k, hk, rfl, hrem⟩ := hrel
    have Hr := Lib.hid hrem; clear hrem
    by_cases hkk : k < l.length
    · obtain ⟨b1, off1, rfl, _, hc1⟩ := hV.cell hkk
      cases hg : inB (geti l k) lo hi
      · have HG := Lib.hid hg; clear hg
        go_wp2_with (go_at_call 111; refine (within_b _ _ _ _ _ HG.out).mono ?_; rintro e' w' ⟨rfl, rfl⟩)
        go_ret
        exact ⟨ret_bool (by rw [Hr.out, all_stepi _ hkk, HG.out]; rfl), rfl⟩
      · have HG := Lib.hid hg; clear hg
        go_wp2_with (go_at_call 111; refine (within_b _ _ _ _ _ HG.out).mono ?_; rintro e' w' ⟨rfl, rfl⟩)
        go_round
        case rel => exact ⟨k + 1, by omega, by go_num, by rw [Hr.out, all_stepi _ hkk, HG.out]; rfl⟩
        case measure => simp [intOf]; omega
    · have hd : l.drop k = [] := List.drop_of_length_le (by omega)
      have Hd := Lib.hid hd; clear hd
      go_wp2_with fail
      go_ret
      exact ⟨ret_bool (by rw [Hr.out, Hd.out]; rfl), rfl⟩
theorem numWithin_b {S : Nat → Prop} (v : Value) (l : List Int) (lo hi : Int) (W : World) (r : Bool) (hr : (l.all fun x => inB x lo hi) = r) (h : V1 S W v l) :
    Calls Try.prog 112 #[v, .int .i64 lo, .int .i64 hi] W fun e' w' => e' = .returned (.bool r) ∧ W = w' := by subst hr; exact numWithin_any v l lo hi W h
theorem rowsOf_any {S : Nat → Prop} (v : Value) (l : List Int) (W : World) (h : V1 S W v l) (hl : l.length ≤ 1048576) :
    Calls Try.prog 48 #[v] W fun e' w' => ∃ v', e' = .returned v' ∧ F1 W.heap.size w' v' (diffI l) ∧ Below W.heap.size W w' := by
  have hV := h
  obtain ⟨a, c, rfl, hm⟩ := h.form
  go_enter Try.func48, Try.ntmps48
  go_wp2_with fail
  refine (slClone_any _ l _ hV hl).mono ?_
  rintro e' w1 ⟨v1, rfl, ⟨b, hx1, hb1⟩, hB1⟩
  obtain ⟨a1, c1, rfl, _⟩ := id hx1
  go_wp2_with fail
  refine (slSort_any _ l b _ hx1 hl).mono ?_
  rintro e' w2 ⟨rfl, hx2, hc2⟩
  have hlz : (l.mergeSort fun x y => decide (x ≤ y)).length = l.length := List.length_mergeSort l
  have hnz : (l.mergeSort fun x y => decide (x ≤ y)) ≠ [] ↔ l ≠ [] := by rw [Ne, ← List.length_eq_zero_iff, hlz, List.length_eq_zero_iff]
  have hB2 := hB1.trans (hc2.to_below (fun i hi => by have := hb1 hi.1; omega) hB1.size)
  have Hx2 := Lib.hid hx2; clear hx2
  have Hlz := Lib.hid (And.intro hlz hnz); clear hlz hnz
  go_wp2_with fail
  have hx2 := Hx2.out
  obtain ⟨a2, c2, e2, _⟩ := id hx2
  refine (slCompact_any _ _ b _ hx2 (by rw [Hlz.out.1]; exact hl)).mono ?_
  rintro e' w3 ⟨v3, rfl, hx3, hc3⟩
  have Hx3 := Lib.hid hx3; clear hx3
  have hB3 := hB2.trans (hc3.to_below (fun i hi => by have := hb1 (Hlz.out.2.1 hi.1); omega) hB2.size)
  have hdn : diffI l ≠ [] → l ≠ [] := fun hn e => hn (by subst e; simp [diffI, Go.Lib.compact, Go.Lib.compactUpTo])
  have Hdn := Lib.hid hdn; clear hdn
  clear e2
  go_wp2_with fail
  go_ret
  exact ⟨_, rfl, ⟨b, Hx3.out, fun hn => hb1 (Hdn.out hn)⟩, hB3⟩

def rowsAns (l : List Int) : List Int × Int := if numB l = true then (diffI l, 0) else ([], 2)
theorem F1.nil {B : Nat} {w : World} : F1 B w (.slice none 0 0) [] := ⟨0, ⟨none, 0, rfl, Nat.le_refl _, Nat.zero_le _, fun hn => absurd rfl hn⟩, fun hn => absurd rfl hn⟩
end Go.Proofs.Ytjkfgldmeenmjaa
