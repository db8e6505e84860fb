/- What the program and the reference answer on single steps and lists of steps. No conditions. -/
import Derived.Test.YtjkfgldmeenmjaaChecked
import Derived.StillTailTactics
import Derived.Laws.StructEq
import Derived.WalkSmall
import Derived.Deep.QuietTactic
import Derived.BigQuiet
import Derived.Test.YtjkfgldmeenmjaaLib
import Derived.Test.YtjkfgldmeenmjaaOwn
namespace Go.Proofs.Ytjkfgldmeenmjaa
open Go.RowKit
set_option linter.unusedVariables false
set_option linter.unusedSimpArgs false

def openS (x : Int × Int) : Bool := x.1 == -1 && x.2 == 0
def eqS (x y : Int × Int) : Bool := x.1 == y.1 && x.2 == y.2
theorem eqS_iff {x y : Int × Int} : eqS x y = true ↔ x = y := by
  obtain ⟨a, b⟩ := x; obtain ⟨c, d⟩ := y; simp [eqS]

theorem isOpenStep_any (x : Int × Int) (W : World) :
    Calls Try.prog 97 #[.agg #[.int .i64 x.1, .int .i64 x.2]] W fun e' w' => e' = .returned (.bool (openS x)) ∧ Below W.heap.size W w' := by
  obtain ⟨k, d⟩ := x
  go_enter Try.func97, Try.ntmps97
  go_wp2
  all_goals go_ret
  all_goals exact ⟨by simp_all [openS], by (repeat (first | (with_reducible refine Below.setCell ?_ ?_ _) | (with_reducible refine Below.alloc ?_ ?_ _) | (with_reducible refine Below.drew ?_) | (with_reducible refine below_drewN ?_ _) | (with_reducible exact Below.refl _ _) | (with_reducible assumption) | (with_reducible refine Below.trans ?_ (Below.mono (by with_reducible assumption) ?_)) | go_size))⟩
theorem toStep_any (x : Int × Int) (W : World) :
    Calls Try.prog 68 #[.agg #[.int .i64 x.1, .int .i64 x.2]] W fun e' w' => e' = .returned (.agg #[.int .i64 x.1, .int .i64 x.2]) ∧ Below W.heap.size W w' := by
  obtain ⟨k, d⟩ := x
  go_enter Try.func68, Try.ntmps68
  go_wp2
  exact bodyPost_ret (v := .agg #[.int .i64 k, .int .i64 d]) (by simp [results, Try.results68, go_sem]) rfl ⟨rfl, by (repeat (first | (with_reducible refine Below.setCell ?_ ?_ _) | (with_reducible refine Below.alloc ?_ ?_ _) | (with_reducible refine Below.drew ?_) | (with_reducible refine below_drewN ?_ _) | (with_reducible exact Below.refl _ _) | (with_reducible assumption) | (with_reducible refine Below.trans ?_ (Below.mono (by with_reducible assumption) ?_)) | go_size))⟩
theorem eqStep_any (x y : Int × Int) (W : World) :
    Calls Try.prog 66 #[.agg #[.int .i64 x.1, .int .i64 x.2], .agg #[.int .i64 y.1, .int .i64 y.2]] W fun e' w' => e' = .returned (.bool (eqS x y)) ∧ Below W.heap.size W w' := by
  obtain ⟨k, d⟩ := x
  obtain ⟨k', d'⟩ := y
  go_enter Try.func66, Try.ntmps66
  go_wp2
  all_goals go_ret
  all_goals exact ⟨by simp_all [eqS], by (repeat (first | (with_reducible refine Below.setCell ?_ ?_ _) | (with_reducible refine Below.alloc ?_ ?_ _) | (with_reducible refine Below.drew ?_) | (with_reducible refine below_drewN ?_ _) | (with_reducible exact Below.refl _ _) | (with_reducible assumption) | (with_reducible refine Below.trans ?_ (Below.mono (by with_reducible assumption) ?_)) | go_size))⟩

def szI' (n : Nat) (left : Int) : Int := if left < n then -1 else left - n
theorem szI'_ok {n : Nat} {left : Int} (h0 : 0 ≤ left) : (szI' n left = -1 ∧ left < n) ∨ (szI' n left = left - n ∧ (n : Int) ≤ left) := by
  unfold szI'; split
  · exact .inl ⟨rfl, by assumption⟩
  · exact .inr ⟨rfl, by omega⟩
theorem szStepS_any {S : Nat → Prop} (v : Value) (l : List (Int × Int)) (left : Int) (W : World) (h : VS S W v l) (hl : 0 ≤ left ∧ left ≤ 1048576) :
    Calls Try.prog 32 #[v, .int .i64 left] W fun e' w' => e' = .returned (.int .i64 (szI' l.length left)) ∧ W = w' := by
  obtain ⟨a, c, rfl, hm⟩ := h.form
  go_enter Try.func32, Try.ntmps32
  go_wp2
  all_goals go_ret
  · exact ⟨ret_int (by rw [szI', if_pos (by omega)]), rfl⟩
  · exact ⟨ret_int (by rw [szI', if_neg (by omega)]), rfl⟩
end Go.Proofs.Ytjkfgldmeenmjaa

namespace Go.Proofs.Ytjkfgldmeenmjaa
open Go.RowKit
set_option linter.unusedVariables false
set_option linter.unusedSimpArgs false

def openTo (l : List (Int × Int)) : Nat → Nat
  | 0 => 0
  | k + 1 => openTo l k + if openS (gets l k) = true then 1 else 0
theorem openTo_le (l : List (Int × Int)) : ∀ k, openTo l k ≤ k
  | 0 => Nat.le_refl _
  | k + 1 => by have := openTo_le l k; unfold openTo; split <;> omega

theorem isOpenStep_b (x : Int × Int) (W : World) (r : Bool) (hr : openS x = r) :
    Calls Try.prog 97 #[.agg #[.int .i64 x.1, .int .i64 x.2]] W fun e' w' => e' = .returned (.bool r) ∧ Below W.heap.size W w' := by subst hr; exact isOpenStep_any _ _
theorem inf_step : (Try.prog.info? 82).map (fun i => (i.zero, i.size, i.bytes)) = some (some (.agg #[.int .i64 0, .int .i64 0]), 2, 16) := by kernel_rfl

/-- v holds steps, in block b alone. -/
def XS (w : World) (v : Value) (l : List (Int × Int)) (b : Nat) : Prop :=
  ∃ a c, v = .slice a l.length c ∧ l.length ≤ c ∧ c ≤ maxLen ∧
    (l ≠ [] → ∃ off cs e, a = some ⟨b, off, none⟩ ∧ w.heap[b]? = some (.cells cs e (0, 0)) ∧ ∀ k, k < l.length → cs[off + k * 2]? = some (.int .i64 (gets l k).1) ∧ cs[off + k * 2 + 1]? = some (.int .i64 (gets l k).2))
theorem XS.keep {w w' : World} {v : Value} {l : List (Int × Int)} {b : Nat} (h : XS w v l b) (hk : l ≠ [] → w'.heap[b]? = w.heap[b]?) : XS w' v l b := by
  obtain ⟨a, c, rfl, h1, h2, h⟩ := h
  refine ⟨a, c, rfl, h1, h2, fun hn => ?_⟩
  obtain ⟨off, cs, e, ha, hh, hc⟩ := h hn
  exact ⟨off, cs, e, ha, by rw [hk hn, hh], hc⟩
theorem XS.lt {w : World} {v : Value} {l : List (Int × Int)} {b : Nat} (h : XS w v l b) (hn : l ≠ []) : b < w.heap.size := by
  obtain ⟨a, c, rfl, h1, h2, h⟩ := h
  obtain ⟨off, cs, e, ha, hh, hc⟩ := h hn
  exact lt_of_heap hh
theorem XS.vs {w : World} {v : Value} {l : List (Int × Int)} {b : Nat} {S : Nat → Prop} (h : XS w v l b) (hS : l ≠ [] → S b) : VS S w v l := by
  obtain ⟨a, c, rfl, h1, h2, h⟩ := h
  refine ⟨a, c, rfl, h1, h2, fun k hk => ?_⟩
  have hn : l ≠ [] := by intro e; subst e; simp at hk
  obtain ⟨off, cs, e, ha, hh, hc⟩ := h hn
  exact ⟨b, off, ha, hS hn, by rw [cell_of_block hh]; exact (hc k hk).1, by rw [cell_of_block hh]; exact (hc k hk).2⟩

set_option maxRecDepth 100000 in
theorem toStepS_any {S : Nat → Prop} (v : Value) (l : List (Int × Int)) (W : World) (h : VS S W v l) (hlen : l.length ≤ 1048576) :
    Calls Try.prog 34 #[v] W fun e' w' => ∃ v', e' = .returned v' ∧ XS w' v' l W.heap.size ∧ W.heap.size < w'.heap.size ∧ Below W.heap.size W w' := by
  have hV := h
  obtain ⟨a, c, rfl, hm⟩ := h.form
  go_enter Try.func34, Try.ntmps34
  go_wp2_with (at_make; refine wp_mk _ rfl _ _ 47 rfl 82 (.agg #[.int .i64 0, .int .i64 0]) 2 16 Try.underlying47 inf_step l.length rfl rfl (by omega) (by omega) ?_; intro w1 cs0 hh0 hs0 _ hB0 hsz0)
  go_loopw [4] (fun i wr => ∃ (k : Nat) (cs : Array Value), k ≤ l.length ∧ i = .int .i64 k ∧ wr.heap[W.heap.size]? = some (.cells cs 82 (0, 0)) ∧ cs.size = l.length * 2 ∧ (∀ j, j < k → cs[j * 2]? = some (.int .i64 (gets l j).1) ∧ cs[j * 2 + 1]? = some (.int .i64 (gets l j).2)) ∧ Below W.heap.size W wr ∧ W.heap.size < wr.heap.size) (fun i _ => l.length - (intOf i).toNat)
  case atStart => exact ⟨0, cs0, Nat.zero_le _, rfl, hh0, by omega, fun j hj => by omega, hB0, hsz0⟩
  case round =>
    obtain ⟨k, cs, hk, rfl, hh, hs, hcs, hB, hsz⟩ := hrel
    by_cases hkk : k < l.length
    · obtain ⟨b1, off1, rfl, _, hc1, hc2⟩ := (hV.below hB).cell hkk
      have Hh := Lib.hid hh; clear hh
      have Hcs := Lib.hid hcs; clear hcs
      have Hs := Lib.hid hs; clear hs
      go_wp2_with fail
      refine (toStep_any _ _).mono ?_
      rintro e' w2 ⟨rfl, hb2⟩
      have hzB := hb2.size
      have hh2 := heap_below Hh.out hb2 hsz
      obtain ⟨u0, hco⟩ : ∃ u0, w2.cell? ⟨W.heap.size, k * 2, none⟩ = some u0 := ⟨cs[k * 2]'(by have := Hs.out; omega), by rw [cell_of_block hh2]; exact Array.getElem?_eq_getElem (by have := Hs.out; omega)⟩
      obtain ⟨u1, hco1⟩ : ∃ u1, w2.cell? ⟨W.heap.size, k * 2 + 1, none⟩ = some u1 := ⟨cs[k * 2 + 1]'(by have := Hs.out; omega), by rw [cell_of_block hh2]; exact Array.getElem?_eq_getElem (by have := Hs.out; omega)⟩
      have hfo := frozen_of_block hh2 (k * 2)
      have hfo1 := frozen_of_block hh2 (k * 2 + 1)
      have Hh2 := Lib.hid hh2; clear hh2
      go_wp2_with fail
      go_roundw
      case rel =>
        refine ⟨k + 1, _, by omega, by go_num, heap_setCell_self (heap_setCell_self Hh2.out _) _, by simp [Hs.out], fun j hj => ?_, by (repeat (first | (with_reducible refine Below.setCell ?_ ?_ _) | (with_reducible refine Below.alloc ?_ ?_ _) | (with_reducible refine Below.drew ?_) | (with_reducible refine below_drewN ?_ _) | (with_reducible exact Below.refl _ _) | (with_reducible assumption) | (with_reducible refine Below.trans ?_ (Below.mono (by with_reducible assumption) ?_)) | go_size)), by simp; omega⟩
        have hs0 := Hs.out
        by_cases e : j = k
        · subst e
          exact ⟨by rw [Array.getElem?_setIfInBounds, if_neg (by omega), Array.getElem?_setIfInBounds, if_pos rfl, if_pos (by omega)], by rw [Array.getElem?_setIfInBounds, if_pos rfl, if_pos (by simp; omega)]⟩
        · have := Hcs.out j (by omega)
          exact ⟨by rw [Array.getElem?_setIfInBounds, if_neg (by omega), Array.getElem?_setIfInBounds, if_neg (by omega)]; exact this.1, by rw [Array.getElem?_setIfInBounds, if_neg (by omega), Array.getElem?_setIfInBounds, if_neg (by omega)]; exact this.2⟩
      case measure => simp [intOf]; omega
    · have Hh := Lib.hid hh; clear hh
      have Hcs := Lib.hid hcs; clear hcs
      have Hs := Lib.hid hs; clear hs
      go_wp2_with fail
      go_ret
      exact ⟨_, rfl, ⟨_, _, rfl, Nat.le_refl _, by unfold maxLen; omega, fun hn => ⟨0, cs, _, rfl, Hh.out, fun j hj => by rw [Nat.zero_add]; exact Hcs.out j (by omega)⟩⟩, hsz, hB⟩

theorem eqStep_b (x y : Int × Int) (W : World) (r : Bool) (hr : eqS x y = r) :
    Calls Try.prog 66 #[.agg #[.int .i64 x.1, .int .i64 x.2], .agg #[.int .i64 y.1, .int .i64 y.2]] W fun e' w' => e' = .returned (.bool r) ∧ Below W.heap.size W w' := by subst hr; exact eqStep_any _ _ _

set_option maxRecDepth 100000 in
theorem eqStepS_any {S S' : Nat → Prop} (va vb : Value) (a b : List (Int × Int)) (W : World) (ha : VS S W va a) (hb : VS S' W vb b) :
    Calls Try.prog 29 #[va, vb] W fun e' w' => e' = .returned (.bool (decide (a = b))) ∧ Below W.heap.size W w' := by
  have hA := ha
  have hB := hb
  obtain ⟨pa, ca, rfl, hma⟩ := ha.form
  obtain ⟨pb, cb, rfl, hmb⟩ := hb.form
  by_cases hl : a.length = b.length
  · have hle : ((a.length : Int) == (b.length : Int)) = true := by simp; omega
    have hle2 : ((a.length : Int) != (b.length : Int)) = false := by simp; omega
    have Hl := Lib.hid hl; clear hl
    go_enter Try.func29, Try.ntmps29
    go_wp2_with fail
    go_loopw [5] (fun i wr => ∃ k : Nat, k ≤ a.length ∧ i = .int .i64 k ∧ a.take k = b.take k ∧ Below W.heap.size W wr) (fun i _ => a.length - (intOf i).toNat)
    case atStart => exact ⟨0, Nat.zero_le _, rfl, rfl, Below.refl _ _⟩
    case round =>
      obtain ⟨k, hk, rfl, hpre, hBw⟩ := hrel
      have Hpre := Lib.hid hpre; clear hpre
      have hzW := hBw.size
      by_cases hkk : k < a.length
      · have hkb : k < b.length := by rw [← Hl.out]; exact hkk
        obtain ⟨b1, off1, rfl, _, hc1, hc1'⟩ := (hA.below hBw).cell hkk
        obtain ⟨b2, off2, rfl, _, hc2, hc2'⟩ := (hB.below hBw).cell hkb
        cases he : eqS (gets a k) (gets b k)
        · have hne : decide (a = b) = false := decide_eq_false (fun e => by
            have : eqS (gets a k) (gets b k) = true := eqS_iff.2 (by rw [e])
            rw [he] at this; cases this)
          have Hne := Lib.hid hne; clear hne
          have He := Lib.hid he; clear he
          go_wp2_with fail
          go_still_tail 8, (by kernel_rfl)
          change wpList _ _ _ _ _ wr.drew
          go_wp2_with (go_at_call 66; refine (eqStep_b _ _ _ _ He.out).mono ?_; rintro e' w' ⟨rfl, hb⟩; have hzB := hb.size; (try simp only [World.size_alloc, World.size_setCell, World.size_drew] at hzB))
          go_ret
          exact ⟨ret_bool Hne.out.symm, by (repeat (first | (with_reducible refine Below.setCell ?_ ?_ _) | (with_reducible refine Below.alloc ?_ ?_ _) | (with_reducible refine Below.drew ?_) | (with_reducible refine below_drewN ?_ _) | (with_reducible exact Below.refl _ _) | (with_reducible assumption) | (with_reducible refine Below.trans ?_ (Below.mono (by with_reducible assumption) ?_)) | go_size))⟩
        · have heq := eqS_iff.1 he
          have Heq := Lib.hid heq; clear heq
          have He := Lib.hid he; clear he
          go_wp2_with fail
          go_still_tail 8, (by kernel_rfl)
          change wpList _ _ _ _ _ wr.drew
          go_wp2_with (go_at_call 66; refine (eqStep_b _ _ _ _ He.out).mono ?_; rintro e' w' ⟨rfl, hb⟩; have hzB := hb.size; (try simp only [World.size_alloc, World.size_setCell, World.size_drew] at hzB))
          go_roundw
          case rel => exact ⟨k + 1, by omega, by go_num, by rw [take_gets hkk, take_gets hkb, Hpre.out, Heq.out], by (repeat (first | (with_reducible refine Below.setCell ?_ ?_ _) | (with_reducible refine Below.alloc ?_ ?_ _) | (with_reducible refine Below.drew ?_) | (with_reducible refine below_drewN ?_ _) | (with_reducible exact Below.refl _ _) | (with_reducible assumption) | (with_reducible refine Below.trans ?_ (Below.mono (by with_reducible assumption) ?_)) | go_size))⟩
          case measure => simp [intOf]; omega
      · have hab : a = b := by
          have := Hpre.out
          rw [List.take_of_length_le (by omega), List.take_of_length_le (by rw [← Hl.out]; omega)] at this
          exact this
        have heq : decide (a = b) = true := decide_eq_true hab
        have Heq := Lib.hid heq; clear heq hab
        go_wp2_with fail
        go_ret
        exact ⟨ret_bool Heq.out.symm, hBw⟩
  · have hne : decide (a = b) = false := decide_eq_false (fun e => hl (by rw [e]))
    rw [hne]
    have hne2 : ((a.length : Int) == (b.length : Int)) = false := by simp; omega
    have hne3 : ((a.length : Int) != (b.length : Int)) = true := by simp; omega
    clear hne
    go_enter Try.func29, Try.ntmps29
    go_wp2_with fail
    go_ret
    exact ⟨rfl, Below.refl _ _⟩
theorem eqStepS_b {S S' : Nat → Prop} (va vb : Value) (a b : List (Int × Int)) (W : World) (r : Bool) (hr : decide (a = b) = r) (ha : VS S W va a) (hb : VS S' W vb b) :
    Calls Try.prog 29 #[va, vb] W fun e' w' => e' = .returned (.bool r) ∧ Below W.heap.size W w' := by subst hr; exact eqStepS_any va vb a b W ha hb
end Go.Proofs.Ytjkfgldmeenmjaa
