/- What the laws' own helpers answer: sizes, copies, comparisons of slices. No conditions. -/
import Derived.Test.YtmjplkbmhdkggaaGreatProg
import Derived.Deep.QuietTactic
import Derived.BigQuiet
import Derived.WalkSmall
import Derived.StillTailTactics
import Derived.Test.YtmjplkbmhdkggaaGreatMLib
namespace Go.Proofs.YtmjplkbmhdkggaaGreat
open Go.RowKit
set_option linter.unusedVariables false
set_option linter.unusedSimpArgs false
/-- What szInt64S answers. -/
def szI (n : Nat) (left : Int) : Int := if left < n then -1 else left - n
def szR : List (List Int) → Int → Int
 | [], left => left
 | r :: rs, left => if left < r.length then -1 else szR rs (left - r.length)
def szL (ls : List (List Int)) (left : Int) : Int := if left < ls.length then -1 else szR ls (left - ls.length)
theorem szI_ok {n : Nat} {left : Int} (h0 : 0 ≤ left) : (szI n left = -1 ∧ left < n) ∨ (szI n left = left - n ∧ (n : Int) ≤ left) := by
 unfold szI; split
 ·exact .inl ⟨rfl, by assumption⟩
 ·exact .inr ⟨rfl, by omega⟩
theorem szR_le : ∀ (ls : List (List Int)) (left : Int), 0 ≤ left → szR ls left ≤ left ∧ (0 ≤ szR ls left → ∀ r ∈ ls, (r.length : Int) ≤ left) := by
 intro ls
 induction ls with
 | nil => intro left h; exact ⟨Int.le_refl _, by simp⟩
 | cons r rs ih =>
   intro left h
   unfold szR
   split
   ·exact ⟨by omega, fun h' => by omega⟩
   ·obtain ⟨h1, h2⟩ := ih (left - r.length) (by omega)
    refine ⟨by omega, fun h' x hx => ?_⟩
    cases hx with
    | head => omega
    | tail _ hm => have := h2 h' x hm; omega
theorem szL_ok {ls : List (List Int)} {left : Int} (h0 : 0 ≤ left) (h : 0 ≤ szL ls left) : (ls.length : Int) ≤ left ∧ ∀ r ∈ ls, (r.length : Int) ≤ left := by
 unfold szL at h
 split at h
 ·omega
 ·obtain ⟨h1, h2⟩ := szR_le ls (left - ls.length) (by omega)
  exact ⟨by omega, fun r hr => by have := h2 h r hr; omega⟩
theorem szL_le {ls : List (List Int)} {left : Int} (h0 : 0 ≤ left) : szL ls left ≤ left := by
 unfold szL; split
 ·omega
 ·have := (szR_le ls (left - ls.length) (by omega)).1; omega
theorem szR_ge : ∀ (ls : List (List Int)) (left : Int), -1 ≤ left → -1 ≤ szR ls left
 | [], left, h => h
 | r :: rs, left, h => by
   unfold szR
   split
   ·omega
   ·exact szR_ge rs _ (by omega)
theorem szR_step {ls : List (List Int)} {k : Nat} (hk : k < ls.length) (left : Int) : szR (ls.drop k) left = if left < (getl ls k).length then -1 else szR (ls.drop (k + 1)) (left - (getl ls k).length) := by
 rw [List.drop_eq_getElem_cons hk, szR, getl_eq hk]
theorem szInt64S_any {S : Nat → Prop} (v : Value) (l : List Int) (left : Int) (W : World) (h : V1 S W v l) (h0 : 0 ≤ left) (h1 : left ≤ 1048576) :
  Calls Tryz.prog 51 #[v, .int .i64 left] W fun e' w' => e' = .returned (.int .i64 (szI l.length left)) ∧ W = w' := by
 obtain ⟨a, c, rfl, hm⟩ := h.form
 go_enter Tryz.func51, Tryz.ntmps51
 go_wp2
 all_goals go_ret
 ·exact ⟨ret_int (by rw [szI, if_pos (by omega)]), rfl⟩
 ·exact ⟨ret_int (by rw [szI, if_neg (by omega)]), rfl⟩
theorem szInt64SS_any {S : Nat → Prop} (v : Value) (ls : List (List Int)) (left : Int) (W : World) (h : V2 S W v ls) (h0 : 0 ≤ left) (h1 : left ≤ 1048576) :
  Calls Tryz.prog 8 #[v, .int .i64 left] W fun e' w' => e' = .returned (.int .i64 (szL ls left)) ∧ W = w' := by
 have hV := h
 obtain ⟨a, c, rfl, hm⟩ := h.form
 by_cases hlt : left < ls.length
 ·go_enter Tryz.func8, Tryz.ntmps8
  go_wp2_with fail
  go_ret
  exact ⟨ret_int (by rw [szL, if_pos hlt]), rfl⟩
 ·have hfin : szL ls left = szR (ls.drop 0) (left - ls.length) := by rw [szL, if_neg hlt]; rfl
  have Hf := Lib.hid hfin; clear hfin
  go_enter Tryz.func8, Tryz.ntmps8
  go_wp2_with fail
  go_loop [1, 5] (fun t i => ∃ (k : Nat) (lf : Int), k ≤ ls.length ∧ i = .int .i64 k ∧ t = .int .i64 lf ∧ 0 ≤ lf ∧ lf ≤ 1048576 ∧ szL ls left = szR (ls.drop k) lf) (fun _ i => ls.length - (intOf i).toNat)
  case atStart => exact ⟨0, _, Nat.zero_le _, rfl, rfl, by omega, by omega, Hf.out⟩
  case round =>
   obtain ⟨k, lf, hk, rfl, rfl, hlf0, hlf1, hrem⟩ := hrel
   have Hr := Lib.hid hrem; clear hrem
   by_cases hkk : k < ls.length
   ·obtain ⟨b, off, a', c', rfl, _, hcell, hrow⟩ := hV.cell hkk
    rcases szI_ok (n := (getl ls k).length) hlf0 with ⟨hs, hs'⟩ | ⟨hs, hs'⟩
    ·have Hs := Lib.hid hs; clear hs
     go_wp2_with (go_at_call 51; refine (szInt64S_any _ _ _ _ hrow hlf0 hlf1).mono ?_; rintro e' w' ⟨rfl, rfl⟩; rw [Hs.out])
     go_ret
     exact ⟨ret_int (by rw [Hr.out, szR_step hkk, if_pos hs']), rfl⟩
    ·have Hs := Lib.hid hs; clear hs
     go_wp2_with (go_at_call 51; refine (szInt64S_any _ _ _ _ hrow hlf0 hlf1).mono ?_; rintro e' w' ⟨rfl, rfl⟩; rw [Hs.out])
     go_round
     case rel => exact ⟨k + 1, _, by omega, by go_num, rfl, by omega, by omega, by rw [Hr.out, szR_step hkk, if_neg (by omega)]⟩
     case measure => simp [intOf]; omega
   ·have hd : ls.drop k = [] := List.drop_of_length_le (by omega)
    have Hd := Lib.hid hd; clear hd
    go_wp2_with fail
    go_ret
    exact ⟨ret_int (by rw [Hr.out, Hd.out]; rfl), rfl⟩
theorem eqInt64S_q {S S' : Nat → Prop} (va vb : Value) (a b : List Int) (W : World) (ha : V1 S W va a) (hb : V1 S' W vb b) :
  Calls Tryz.prog 64 #[va, vb] W fun e' w' => e' = .returned (.bool (decide (a = b))) ∧ ∃ n, w' = W.drewN n := by
 have hA := ha
 have hB := hb
 obtain ⟨pa, ca, rfl, hma⟩ := ha.form
 obtain ⟨pb, cb, rfl, hmb⟩ := hb.form
 by_cases hl : a.length = b.length
 ·have hle : ((a.length : Int) == (b.length : Int)) = true := by simp; omega
  have hle2 : ((a.length : Int) != (b.length : Int)) = false := by simp; omega
  have Hl := Lib.hid hl; clear hl
  go_enter Tryz.func64, Tryz.ntmps64
  go_wp2_with fail
  go_loopw [5] (fun i wr => ∃ (k n : Nat), k ≤ a.length ∧ i = .int .i64 k ∧ a.take k = b.take k ∧ wr = W.drewN n) (fun i _ => a.length - (intOf i).toNat)
  case atStart => exact ⟨0, 0, Nat.zero_le _, rfl, rfl, rfl⟩
  case round =>
   obtain ⟨k, n, hk, rfl, hpre, rfl⟩ := hrel
   have Hpre := Lib.hid hpre; clear hpre
   by_cases hkk : k < a.length
   ·have hkb : k < b.length := by rw [← Hl.out]; exact hkk
    obtain ⟨b1, off1, rfl, _, hc1⟩ := hA.cell hkk
    obtain ⟨b2, off2, rfl, _, hc2⟩ := hB.cell hkb
    by_cases he : geti a k = geti b k
    ·have e1 : (geti a k == geti b k) = true := by simp [he]
     have e2 : (geti a k != geti b k) = false := by simp [he]
     have He := Lib.hid he; clear he
     go_wp2_with fail
     go_quiet (fail)
     go_wp2_with fail
     go_roundw
     case rel => exact ⟨k + 1, _, by omega, by go_num, by rw [take_geti hkk, take_geti hkb, Hpre.out, He.out], rfl⟩
     case measure => simp [intOf]; omega
    ·have hne : decide (a = b) = false := decide_eq_false (fun e => he (by rw [e]))
     have e1 : (geti a k == geti b k) = false := by simp [he]
     have e2 : (geti a k != geti b k) = true := by simp [he]
     have Hne := Lib.hid hne; clear hne
     have He := Lib.hid he; clear he
     go_wp2_with fail
     go_quiet (fail)
     go_wp2_with fail
     go_ret
     exact ⟨ret_bool Hne.out.symm, _, by first | rfl | rw [World.drewN_drewN]⟩
   ·have hab : a = b := by
     have := Hpre.out
     rw [List.take_of_length_le (by omega), List.take_of_length_le (by rw [← Hl.out]; omega)] at this
     exact this
    have heq : decide (a = b) = true := decide_eq_true hab
    have Heq := Lib.hid heq; clear heq hab
    go_wp2_with fail
    go_ret
    exact ⟨ret_bool Heq.out.symm, _, rfl⟩
 ·have hne : decide (a = b) = false := decide_eq_false (fun e => hl (by rw [e]))
  rw [hne]
  have hne2 : ((a.length : Int) == (b.length : Int)) = false := by simp; omega
  have hne3 : ((a.length : Int) != (b.length : Int)) = true := by simp; omega
  clear hne
  go_enter Tryz.func64, Tryz.ntmps64
  go_wp2_with fail
  go_ret
  exact ⟨rfl, 0, rfl⟩
theorem eqInt64S_b {S S' : Nat → Prop} (va vb : Value) (a b : List Int) (W : World) (r : Bool) (hr : decide (a = b) = r) (ha : V1 S W va a) (hb : V1 S' W vb b) :
  Calls Tryz.prog 64 #[va, vb] W fun e' w' => e' = .returned (.bool r) ∧ ∃ n, w' = W.drewN n := by
 subst hr; exact eqInt64S_q va vb a b W ha hb
theorem eqInt64SS_q {S S' : Nat → Prop} (va vb : Value) (a b : List (List Int)) (W : World) (ha : V2 S W va a) (hb : V2 S' W vb b) :
  Calls Tryz.prog 13 #[va, vb] W fun e' w' => e' = .returned (.bool (decide (a = b))) ∧ ∃ n, w' = W.drewN n := by
 have hA := ha
 have hB := hb
 obtain ⟨pa, ca, rfl, hma⟩ := ha.form
 obtain ⟨pb, cb, rfl, hmb⟩ := hb.form
 by_cases hl : a.length = b.length
 ·have hle : ((a.length : Int) == (b.length : Int)) = true := by simp; omega
  have hle2 : ((a.length : Int) != (b.length : Int)) = false := by simp; omega
  have Hl := Lib.hid hl; clear hl
  go_enter Tryz.func13, Tryz.ntmps13
  go_wp2_with fail
  go_loopw [5] (fun i wr => ∃ (k n : Nat), k ≤ a.length ∧ i = .int .i64 k ∧ a.take k = b.take k ∧ wr = W.drewN n) (fun i _ => a.length - (intOf i).toNat)
  case atStart => exact ⟨0, 0, Nat.zero_le _, rfl, rfl, rfl⟩
  case round =>
   obtain ⟨k, n, hk, rfl, hpre, rfl⟩ := hrel
   have Hpre := Lib.hid hpre; clear hpre
   by_cases hkk : k < a.length
   ·have hkb : k < b.length := by rw [← Hl.out]; exact hkk
    obtain ⟨b1, off1, a1, c1, rfl, _, hc1, hr1⟩ := hA.cell hkk
    obtain ⟨b2, off2, a2, c2, rfl, _, hc2, hr2⟩ := hB.cell hkb
    by_cases he : getl a k = getl b k
    ·have e1 : decide (getl a k = getl b k) = true := decide_eq_true he
     have He := Lib.hid he; clear he
     have E1 := Lib.hid e1; clear e1
     go_wp2_with fail
     go_quiet ((go_at_call 64; exact quiet_at (eqInt64S_b _ _ _ _ _ _ E1.out (V1.drewN hr1) (V1.drewN hr2))))
     go_wp2_with fail
     go_roundw
     case rel => exact ⟨k + 1, _, by omega, by go_num, by rw [take_getl hkk, take_getl hkb, Hpre.out, He.out], by first | rfl | rw [World.drewN_drewN]⟩
     case measure => simp [intOf]; omega
    ·have hne : decide (a = b) = false := decide_eq_false (fun e => he (by rw [e]))
     have e1 : decide (getl a k = getl b k) = false := decide_eq_false he
     have Hne := Lib.hid hne; clear hne
     have He := Lib.hid he; clear he
     have E1 := Lib.hid e1; clear e1
     go_wp2_with fail
     go_quiet ((go_at_call 64; exact quiet_at (eqInt64S_b _ _ _ _ _ _ E1.out (V1.drewN hr1) (V1.drewN hr2))))
     go_wp2_with fail
     go_ret
     exact ⟨ret_bool Hne.out.symm, _, by first | rfl | rw [World.drewN_drewN]⟩
   ·have hab : a = b := by
     have := Hpre.out
     rw [List.take_of_length_le (by omega), List.take_of_length_le (by rw [← Hl.out]; omega)] at this
     exact this
    have heq : decide (a = b) = true := decide_eq_true hab
    have Heq := Lib.hid heq; clear heq hab
    go_wp2_with fail
    go_ret
    exact ⟨ret_bool Heq.out.symm, _, rfl⟩
 ·have hne : decide (a = b) = false := decide_eq_false (fun e => hl (by rw [e]))
  rw [hne]
  have hne2 : ((a.length : Int) == (b.length : Int)) = false := by simp; omega
  have hne3 : ((a.length : Int) != (b.length : Int)) = true := by simp; omega
  clear hne
  go_enter Tryz.func13, Tryz.ntmps13
  go_wp2_with fail
  go_ret
  exact ⟨rfl, 0, rfl⟩
theorem eqInt64SS_b {S S' : Nat → Prop} (va vb : Value) (a b : List (List Int)) (W : World) (r : Bool) (hr : decide (a = b) = r) (ha : V2 S W va a) (hb : V2 S' W vb b) :
  Calls Tryz.prog 13 #[va, vb] W fun e' w' => e' = .returned (.bool r) ∧ ∃ n, w' = W.drewN n := by
 subst hr; exact eqInt64SS_q va vb a b W ha hb
theorem inf_int : (Tryz.prog.info? 2).map (fun i => (i.zero, i.size, i.bytes)) = some (some (.int .i64 0), 1, 8) := by kernel_rfl
theorem inf_ints : (Tryz.prog.info? 44).map (fun i => (i.zero, i.size, i.bytes)) = some (some (.slice none 0 0), 1, 24) := by kernel_rfl
theorem toInt64S_any {S : Nat → Prop} (v : Value) (l : List Int) (W : World) (h : V1 S W v l) (hlen : l.length ≤ 1048576) :
  Calls Tryz.prog 57 #[v] W fun e' w' => ∃ v', e' = .returned v' ∧ X1 w' v' l W.heap.size ∧ W.heap.size < w'.heap.size ∧ Below W.heap.size W w' := by
 have hV := h
 obtain ⟨a, c, rfl, hm⟩ := h.form
 go_enter Tryz.func57, Tryz.ntmps57
 go_wp2_with (at_make; refine wp_mk _ rfl _ _ 44 rfl 2 (.int .i64 0) 1 8 Tryz.underlying44 inf_int l.length rfl rfl (by omega) (by omega) ?_; intro w1 cs0 hh0 hs0 _ hB0 hsz0)
 go_loopw [4] (fun i wr => ∃ (k : Nat) (cs : Array Value), k ≤ l.length ∧ i = .int .i64 k ∧ wr.heap[W.heap.size]? = some (.cells cs 2 (0, 0)) ∧ cs.size = l.length ∧ (∀ j, j < k → cs[j]? = some (.int .i64 (geti l j))) ∧ Below W.heap.size W wr) (fun i _ => l.length - (intOf i).toNat)
 case atStart => exact ⟨0, cs0, Nat.zero_le _, rfl, hh0, by omega, fun j hj => by omega, hB0⟩
 case round =>
  obtain ⟨k, cs, hk, rfl, hh, hs, hcs, hB⟩ := hrel
  by_cases hkk : k < l.length
  ·obtain ⟨b1, off1, rfl, _, hc1⟩ := (hV.below hB).cell hkk
   obtain ⟨u0, hco⟩ : ∃ u0, wr.cell? ⟨W.heap.size, k, none⟩ = some u0 := ⟨cs[k]'(by omega), by rw [cell_of_block hh]; exact Array.getElem?_eq_getElem (by omega)⟩
   have hfo := frozen_of_block hh k
   have Hh := Lib.hid hh; clear hh
   have Hcs := Lib.hid hcs; clear hcs
   have Hs := Lib.hid hs; clear hs
   go_wp2_with fail
   go_roundw
   case rel =>
    refine ⟨k + 1, cs.setIfInBounds k (.int .i64 (geti l k)), by omega, by go_num, heap_setCell_self Hh.out _, by simp [Hs.out], fun j hj => ?_, by (repeat (first | (with_reducible refine Below.setCell ?_ ?_ _) | (with_reducible refine Below.alloc ?_ ?_ _) | (with_reducible refine Below.drew ?_) | (with_reducible refine below_drewN ?_ _) | (with_reducible exact Below.refl _ _) | (with_reducible assumption) | (with_reducible refine Below.trans ?_ (Below.mono (by with_reducible assumption) ?_)) | go_size))⟩
    rw [Array.getElem?_setIfInBounds]
    split
    ·rename_i e; subst e; simp [Hs.out, hkk]
    ·exact Hcs.out j (by omega)
   case measure => simp [intOf]; omega
  ·have Hh := Lib.hid hh; clear hh
   have Hcs := Lib.hid hcs; clear hcs
   have Hs := Lib.hid hs; clear hs
   go_wp2_with fail
   go_ret
   refine ⟨_, rfl, ⟨_, _, rfl, Nat.le_refl _, by unfold maxLen; omega, fun hn => ⟨0, cs, _, rfl, Hh.out, fun j hj => by rw [Nat.zero_add]; exact Hcs.out j (by omega)⟩⟩, lt_of_heap Hh.out, hB⟩
/-- How far a copy of rows has come. -/
structure CopyRel (B : Nat) (w : World) (cs : Array Value) (ls : List (List Int)) (k : Nat) (bk : Nat → Nat) : Prop where
 heap : w.heap[B]? = some (.cells cs 44 (0, 0))
 size : cs.size = ls.length
 rows : ∀ j, j < k → ∃ rv, cs[j]? = some rv ∧ X1 w rv (getl ls j) (bk j)
 at_ : ∀ j, j < k → B < bk j ∧ bk j < w.heap.size
 inc : ∀ i j, i < j → j < k → bk i < bk j
theorem CopyRel.done {B : Nat} {w : World} {cs : Array Value} {ls : List (List Int)} {bk : Nat → Nat} (h : CopyRel B w cs ls ls.length bk) (hl : ls.length ≤ 1048576) : X2 w (.slice (some ⟨B, 0, none⟩) ls.length ls.length) ls B bk := by
 refine ⟨_, _, rfl, Nat.le_refl _, by unfold maxLen; omega, fun _ => ⟨0, cs, _, rfl, h.heap, fun k hk => by rw [Nat.zero_add]; exact h.rows k hk⟩, fun k hk _ => ⟨by have := (h.at_ k hk).1; omega, fun j hj hne _ => ?_⟩⟩
 rcases Nat.lt_or_gt_of_ne hne with h1 | h1
 ·have := h.inc j k h1 hk; omega
 ·have := h.inc k j h1 hj; omega
theorem CopyRel.step {B : Nat} {w w1 w2 : World} {cs : Array Value} {ls : List (List Int)} {k : Nat} {bk : Nat → Nat} {rv : Value} (h : CopyRel B w cs ls k bk) (hk : k < ls.length) (hB : B < w.heap.size)
  (hb : Below w.heap.size w w1) (hx : X1 w1 rv (getl ls k) w.heap.size) (hsz : w.heap.size < w1.heap.size) (hw2 : w2 = w1.setCell ⟨B, k, none⟩ rv) :
  CopyRel B w2 (cs.setIfInBounds k rv) ls (k + 1) (fun j => if j < k then bk j else w.heap.size) := by
 subst hw2
 have h1 : w1.heap[B]? = some (.cells cs 44 (0, 0)) := heap_below h.heap hb hB
 have hs2 : (w1.setCell ⟨B, k, none⟩ rv).heap.size = w1.heap.size := by simp [World.setCell]
 refine ⟨heap_setCell_self h1 rv, by simp [h.size], fun j hj => ?_, fun j hj => ?_, fun i j hij hj => ?_⟩
 ·rw [Array.getElem?_setIfInBounds]
  by_cases e : k = j
  ·subst e
   refine ⟨rv, by simp [h.size, hk], ?_⟩
   rw [if_neg (by omega)]
   exact hx.keep fun _ => heap_setCell_other _ (by omega)
  ·rw [if_neg e, if_pos (by omega : j < k)]
   obtain ⟨u, hu, hxu⟩ := h.rows j (by omega)
   have ha := h.at_ j (by omega)
   exact ⟨u, hu, (hxu.keep fun _ => hb.block _ ha.2).keep fun _ => heap_setCell_other _ (by omega)⟩
 ·rw [hs2]
  split
  ·have ha := h.at_ j (by omega); omega
  ·omega
 ·have hjk : j ≤ k := by omega
  simp only [show i < k from by omega, if_true]
  split
  ·exact h.inc i j hij (by omega)
  ·exact (h.at_ i (by omega)).2
theorem toInt64SS_any {S : Nat → Prop} (v : Value) (ls : List (List Int)) (W : World) (h : V2 S W v ls) (hlen : ls.length ≤ 1048576) (hrow : ∀ r ∈ ls, r.length ≤ 1048576) :
  Calls Tryz.prog 11 #[v] W fun e' w' => ∃ v' bk, e' = .returned v' ∧ X2 w' v' ls W.heap.size bk ∧ (∀ k, k < ls.length → W.heap.size < bk k) ∧ (W.heap.size < w'.heap.size ∧ PV v') ∧ Below W.heap.size W w' := by
 have hV := h
 obtain ⟨a, c, rfl, hm⟩ := h.form
 have Hrow := Lib.hid hrow; clear hrow
 go_enter Tryz.func11, Tryz.ntmps11
 go_wp2_with (at_make; refine wp_mk _ rfl _ _ 24 rfl 44 (.slice none 0 0) 1 24 Tryz.underlying24 inf_ints ls.length rfl rfl (by omega) (by omega) ?_; intro w1 cs0 hh0 hs0 _ hB0 hsz0)
 go_loopw [4] (fun i wr => ∃ (k : Nat) (cs : Array Value) (bk : Nat → Nat), k ≤ ls.length ∧ i = .int .i64 k ∧ CopyRel W.heap.size wr cs ls k bk ∧ W.heap.size < wr.heap.size ∧ Below W.heap.size W wr) (fun i _ => ls.length - (intOf i).toNat)
 case atStart => exact ⟨0, cs0, fun _ => 0, Nat.zero_le _, rfl, ⟨hh0, by omega, fun j hj => by omega, fun j hj => by omega, fun i j _ hj => by omega⟩, hsz0, hB0⟩
 case round =>
  obtain ⟨k, cs, bk, hk, rfl, hR, hsz, hB⟩ := hrel
  by_cases hkk : k < ls.length
  ·obtain ⟨b1, off1, a1, c1, rfl, _, hc1, hr1⟩ := (hV.below hB).cell hkk
   have hrl : (getl ls k).length ≤ 1048576 := Hrow.out _ (getl_mem hkk)
   have HR := Lib.hid hR; clear hR
   go_wp2_with fail
   refine (toInt64S_any _ _ _ hr1 hrl).mono ?_
   rintro e' w2 ⟨rv, rfl, hx, hsz2, hb2⟩
   have hh2 := heap_below HR.out.heap hb2 hsz
   obtain ⟨u0, hco⟩ : ∃ u0, w2.cell? ⟨W.heap.size, k, none⟩ = some u0 := ⟨cs[k]'(by have := HR.out.size; omega), by rw [cell_of_block hh2]; exact Array.getElem?_eq_getElem (by have := HR.out.size; omega)⟩
   have hfo := frozen_of_block hh2 k
   clear hh2
   have hx' := hx
   obtain ⟨a2, c2, rfl, _⟩ := hx'
   have Hx := Lib.hid hx; clear hx
   go_wp2_with fail
   go_roundw
   case rel => exact ⟨k + 1, _, _, by omega, by go_num, HR.out.step hkk hsz hb2 Hx.out hsz2 rfl, by simp; omega, by (repeat (first | (with_reducible refine Below.setCell ?_ ?_ _) | (with_reducible refine Below.alloc ?_ ?_ _) | (with_reducible refine Below.drew ?_) | (with_reducible refine below_drewN ?_ _) | (with_reducible exact Below.refl _ _) | (with_reducible assumption) | (with_reducible refine Below.trans ?_ (Below.mono (by with_reducible assumption) ?_)) | go_size))⟩
   case measure => simp [intOf]; omega
  ·obtain rfl : k = ls.length := by omega
   have HR := Lib.hid hR; clear hR
   go_wp2_with fail
   go_ret
   exact ⟨_, bk, rfl, HR.out.done hlen, fun j hj => (HR.out.at_ j hj).1, ⟨hsz, .inr ⟨_, _, _, _, rfl⟩⟩, hB⟩
theorem within_any (n lo hi : Int) (w : World) :
  Calls Tryz.prog 59 #[.int .i64 n, .int .i64 lo, .int .i64 hi] w fun e w' => e = .returned (.bool (inB n lo hi)) ∧ w = w' := by
 go_enter Tryz.func59, Tryz.ntmps59
 go_wp2
 all_goals go_ret
 all_goals refine ⟨?_, rfl⟩
 all_goals simp [inB]
 all_goals omega
theorem l01In_any (n lo hi : Int) (w : World) :
  Calls Tryz.prog 53 #[.int .i64 n, .int .i64 lo, .int .i64 hi] w fun e w' => e = .returned (.bool (inB n lo hi)) ∧ w = w' := by
 go_enter Tryz.func53, Tryz.ntmps53
 go_wp2
 all_goals go_ret
 all_goals refine ⟨?_, rfl⟩
 all_goals simp [inB]
 all_goals omega
theorem within_b (n lo hi : Int) (w : World) (r : Bool) (hr : inB n lo hi = r) :
  Calls Tryz.prog 59 #[.int .i64 n, .int .i64 lo, .int .i64 hi] w fun e w' => e = .returned (.bool r) ∧ w = w' := by subst hr; exact within_any _ _ _ _
theorem l01In_b (n lo hi : Int) (w : World) (r : Bool) (hr : inB n lo hi = r) :
  Calls Tryz.prog 53 #[.int .i64 n, .int .i64 lo, .int .i64 hi] w fun e w' => e = .returned (.bool r) ∧ w = w' := by subst hr; exact l01In_any _ _ _ _
theorem isMaker_any (c d s e l : Int) (w : World) :
  Calls Tryz.prog 88 #[.agg #[.int .i64 c, .int .i64 d, .int .i64 s, .int .i64 e, .int .i64 l]] w fun e' w' => e' = .returned (.bool (isMk c d s e l)) ∧ Below w.heap.size w w' := by
 have hw : inB d 2 8 = true → wrap64 (d - 1) = d - 1 := fun h => by rw [inB_iff] at h; exact IntWalk.wrap64_in _ ⟨by omega, by omega⟩
 have HW := Lib.hid hw; clear hw
 go_enter Tryz.func88, Tryz.ntmps88
 go_wp2_with (go_at_call 59; refine (within_any _ _ _ _).mono ?_; rintro e w' ⟨rfl, rfl⟩)
 all_goals go_ret
 all_goals refine ⟨?_, by go_grown⟩
 all_goals simp_all [isMk, Int.min_def, HW.out]
 rw [if_neg (by omega)]
theorem isMakerR_any (c d s e l : Int) (w : World) :
  Calls Tryz.prog 152 #[.agg #[.int .i64 c, .int .i64 d, .int .i64 s, .int .i64 e, .int .i64 l]] w fun e' w' => e' = .returned (.bool (isMk c d s e l)) ∧ Below w.heap.size w w' := by
 have hw : inB d 2 8 = true → wrap64 (d - 1) = d - 1 := fun h => by rw [inB_iff] at h; exact IntWalk.wrap64_in _ ⟨by omega, by omega⟩
 have HW := Lib.hid hw; clear hw
 go_enter Tryz.func152, Tryz.ntmps152
 go_wp2_with (go_at_call 53; refine (l01In_any _ _ _ _).mono ?_; rintro e w' ⟨rfl, rfl⟩)
 all_goals go_ret
 all_goals refine ⟨?_, by go_grown⟩
 all_goals simp_all [isMk, Int.min_def, HW.out]
 rw [if_neg (by omega)]
theorem toMaker_any (c d s e l : Int) (w : World) :
  Calls Tryz.prog 56 #[.agg #[.int .i64 c, .int .i64 d, .int .i64 s, .int .i64 e, .int .i64 l]] w fun e' w' => e' = .returned (.agg #[.int .i64 c, .int .i64 d, .int .i64 s, .int .i64 e, .int .i64 l]) ∧ Below w.heap.size w w' := by
 go_enter Tryz.func56, Tryz.ntmps56
 go_wp2
 exact bodyPost_ret (v := .agg #[.int .i64 c, .int .i64 d, .int .i64 s, .int .i64 e, .int .i64 l]) (by simp [results, Tryz.results56, go_sem]) rfl ⟨rfl, by go_grown⟩
theorem l01Same_q {S S' : Nat → Prop} (va vb : Value) (a b : List Int) (W : World) (ha : V1 S W va a) (hb : V1 S' W vb b) :
  Calls Tryz.prog 173 #[va, vb] W fun e' w' => e' = .returned (.bool (decide (a = b))) ∧ ∃ n, w' = W.drewN n := by
 have hA := ha
 have hB := hb
 obtain ⟨pa, ca, rfl, hma⟩ := ha.form
 obtain ⟨pb, cb, rfl, hmb⟩ := hb.form
 by_cases hl : a.length = b.length
 ·have hle : ((a.length : Int) == (b.length : Int)) = true := by simp; omega
  have hle2 : ((a.length : Int) != (b.length : Int)) = false := by simp; omega
  have Hl := Lib.hid hl; clear hl
  go_enter Tryz.func173, Tryz.ntmps173
  go_wp2_with fail
  go_loopw [5] (fun i wr => ∃ (k n : Nat), k ≤ a.length ∧ i = .int .i64 k ∧ a.take k = b.take k ∧ wr = W.drewN n) (fun i _ => a.length - (intOf i).toNat)
  case atStart => exact ⟨0, 0, Nat.zero_le _, rfl, rfl, rfl⟩
  case round =>
   obtain ⟨k, n, hk, rfl, hpre, rfl⟩ := hrel
   have Hpre := Lib.hid hpre; clear hpre
   by_cases hkk : k < a.length
   ·have hkb : k < b.length := by rw [← Hl.out]; exact hkk
    obtain ⟨b1, off1, rfl, _, hc1⟩ := hA.cell hkk
    obtain ⟨b2, off2, rfl, _, hc2⟩ := hB.cell hkb
    by_cases he : geti a k = geti b k
    ·have e1 : (geti a k == geti b k) = true := by simp [he]
     have e2 : (geti a k != geti b k) = false := by simp [he]
     have He := Lib.hid he; clear he
     go_wp2_with fail
     go_quiet (fail)
     go_wp2_with fail
     go_roundw
     case rel => exact ⟨k + 1, _, by omega, by go_num, by rw [take_geti hkk, take_geti hkb, Hpre.out, He.out], rfl⟩
     case measure => simp [intOf]; omega
    ·have hne : decide (a = b) = false := decide_eq_false (fun e => he (by rw [e]))
     have e1 : (geti a k == geti b k) = false := by simp [he]
     have e2 : (geti a k != geti b k) = true := by simp [he]
     have Hne := Lib.hid hne; clear hne
     have He := Lib.hid he; clear he
     go_wp2_with fail
     go_quiet (fail)
     go_wp2_with fail
     go_ret
     exact ⟨ret_bool Hne.out.symm, _, by first | rfl | rw [World.drewN_drewN]⟩
   ·have hab : a = b := by
     have := Hpre.out
     rw [List.take_of_length_le (by omega), List.take_of_length_le (by rw [← Hl.out]; omega)] at this
     exact this
    have heq : decide (a = b) = true := decide_eq_true hab
    have Heq := Lib.hid heq; clear heq hab
    go_wp2_with fail
    go_ret
    exact ⟨ret_bool Heq.out.symm, _, rfl⟩
 ·have hne : decide (a = b) = false := decide_eq_false (fun e => hl (by rw [e]))
  rw [hne]
  have hne2 : ((a.length : Int) == (b.length : Int)) = false := by simp; omega
  have hne3 : ((a.length : Int) != (b.length : Int)) = true := by simp; omega
  clear hne
  go_enter Tryz.func173, Tryz.ntmps173
  go_wp2_with fail
  go_ret
  exact ⟨rfl, 0, rfl⟩
theorem l01Same_b {S S' : Nat → Prop} (va vb : Value) (a b : List Int) (W : World) (r : Bool) (hr : decide (a = b) = r) (ha : V1 S W va a) (hb : V1 S' W vb b) :
  Calls Tryz.prog 173 #[va, vb] W fun e' w' => e' = .returned (.bool r) ∧ ∃ n, w' = W.drewN n := by
 subst hr; exact l01Same_q va vb a b W ha hb
theorem slEqual_q {S S' : Nat → Prop} (va vb : Value) (a b : List Int) (W : World) (ha : V1 S W va a) (hb : V1 S' W vb b) :
  Calls Tryz.prog 171 #[va, vb] W fun e' w' => e' = .returned (.bool (decide (a = b))) ∧ ∃ n, w' = W.drewN n := by
 have hA := ha
 have hB := hb
 obtain ⟨pa, ca, rfl, hma⟩ := ha.form
 obtain ⟨pb, cb, rfl, hmb⟩ := hb.form
 by_cases hl : a.length = b.length
 ·have hle : ((a.length : Int) == (b.length : Int)) = true := by simp; omega
  have hle2 : ((a.length : Int) != (b.length : Int)) = false := by simp; omega
  have Hl := Lib.hid hl; clear hl
  go_enter Tryz.func171, Tryz.ntmps171
  go_wp2_with fail
  go_loopw [13] (fun i wr => ∃ (k n : Nat), k ≤ a.length ∧ i = .int .i64 k ∧ a.take k = b.take k ∧ wr = W.drewN n) (fun i _ => a.length - (intOf i).toNat)
  case atStart => exact ⟨0, 0, Nat.zero_le _, rfl, rfl, rfl⟩
  case round =>
   obtain ⟨k, n, hk, rfl, hpre, rfl⟩ := hrel
   have Hpre := Lib.hid hpre; clear hpre
   by_cases hkk : k < a.length
   ·have hkb : k < b.length := by rw [← Hl.out]; exact hkk
    obtain ⟨b1, off1, rfl, _, hc1⟩ := hA.cell hkk
    obtain ⟨b2, off2, rfl, _, hc2⟩ := hB.cell hkb
    by_cases he : geti a k = geti b k
    ·have e1 : (geti a k == geti b k) = true := by simp [he]
     have e2 : (geti a k != geti b k) = false := by simp [he]
     have He := Lib.hid he; clear he
     go_wp2_with fail
     go_quiet (fail)
     go_wp2_with fail
     go_roundw
     case rel => exact ⟨k + 1, _, by omega, by go_num, by rw [take_geti hkk, take_geti hkb, Hpre.out, He.out], rfl⟩
     case measure => simp [intOf]; omega
    ·have hne : decide (a = b) = false := decide_eq_false (fun e => he (by rw [e]))
     have e1 : (geti a k == geti b k) = false := by simp [he]
     have e2 : (geti a k != geti b k) = true := by simp [he]
     have Hne := Lib.hid hne; clear hne
     have He := Lib.hid he; clear he
     go_wp2_with fail
     go_quiet (fail)
     go_wp2_with fail
     go_ret
     exact ⟨ret_bool Hne.out.symm, _, by first | rfl | rw [World.drewN_drewN]⟩
   ·have hab : a = b := by
     have := Hpre.out
     rw [List.take_of_length_le (by omega), List.take_of_length_le (by rw [← Hl.out]; omega)] at this
     exact this
    have heq : decide (a = b) = true := decide_eq_true hab
    have Heq := Lib.hid heq; clear heq hab
    go_wp2_with fail
    go_ret
    exact ⟨ret_bool Heq.out.symm, _, rfl⟩
 ·have hne : decide (a = b) = false := decide_eq_false (fun e => hl (by rw [e]))
  rw [hne]
  have hne2 : ((a.length : Int) == (b.length : Int)) = false := by simp; omega
  have hne3 : ((a.length : Int) != (b.length : Int)) = true := by simp; omega
  clear hne
  go_enter Tryz.func171, Tryz.ntmps171
  go_wp2_with fail
  go_ret
  exact ⟨rfl, 0, rfl⟩
def hasL (ls : List (List Int)) (l : List Int) : Bool := ls.any fun o => decide (o = l)
theorem any_step {α : Type} (p : α → Bool) {l : List α} {k : Nat} (h : k < l.length) : (l.drop k).any p = (p l[k] || (l.drop (k + 1)).any p) := by
 rw [List.drop_eq_getElem_cons h, List.any_cons]
theorem hasL_step {ls : List (List Int)} {k : Nat} (h : k < ls.length) (l : List Int) : hasL (ls.drop k) l = (decide (getl ls k = l) || hasL (ls.drop (k + 1)) l) := by
 unfold hasL; rw [any_step _ h, getl_eq h]
theorem l14Has_q {S S' : Nat → Prop} (v u : Value) (ls : List (List Int)) (l : List Int) (W : World) (h : V2 S W v ls) (hl : V1 S' W u l) :
  Calls Tryz.prog 112 #[v, u] W fun e' w' => e' = .returned (.bool (hasL ls l)) ∧ ∃ n, w' = W.drewN n := by
 have hV := h
 obtain ⟨a, c, rfl, hm⟩ := h.form
 go_enter Tryz.func112, Tryz.ntmps112
 go_wp2_with fail
 go_loopw [5] (fun i wr => ∃ (k n : Nat), k ≤ ls.length ∧ i = .int .i64 k ∧ hasL ls l = hasL (ls.drop k) l ∧ wr = W.drewN n) (fun i _ => ls.length - (intOf i).toNat)
 case atStart => exact ⟨0, 0, Nat.zero_le _, rfl, rfl, rfl⟩
 case round =>
  obtain ⟨k, n, hk, rfl, hrem, rfl⟩ := hrel
  have Hr := Lib.hid hrem; clear hrem
  by_cases hkk : k < ls.length
  ·obtain ⟨b1, off1, a1, c1, rfl, _, hc1, hr1⟩ := hV.cell hkk
   by_cases he : getl ls k = l
   ·have E1 := Lib.hid (decide_eq_true he)
    have He := Lib.hid he; clear he
    go_wp2_with (go_at_call 173; refine (l01Same_b _ _ _ _ _ _ E1.out (V1.drewN hr1) (V1.drewN hl)).mono ?_; rintro e' w' ⟨rfl, m, rfl⟩)
    go_ret
    exact ⟨ret_bool (by rw [Hr.out, hasL_step hkk, E1.out]; rfl), _, by first | rfl | rw [World.drewN_drewN]⟩
   ·have E1 := Lib.hid (decide_eq_false he)
    have He := Lib.hid he; clear he
    go_wp2_with (go_at_call 173; refine (l01Same_b _ _ _ _ _ _ E1.out (V1.drewN hr1) (V1.drewN hl)).mono ?_; rintro e' w' ⟨rfl, m, rfl⟩)
    go_roundw
    case rel => exact ⟨k + 1, _, by omega, by go_num, by rw [Hr.out, hasL_step hkk, E1.out]; rfl, by first | rfl | rw [World.drewN_drewN]⟩
    case measure => simp [intOf]; omega
  ·have hd : ls.drop k = [] := List.drop_of_length_le (by omega)
   have Hd := Lib.hid hd; clear hd
   go_wp2_with fail
   go_ret
   exact ⟨ret_bool (by rw [Hr.out, Hd.out]; rfl), _, by first | rfl | rw [World.drewN_drewN]⟩
theorem l14Has_b {S S' : Nat → Prop} (v u : Value) (ls : List (List Int)) (l : List Int) (W : World) (r : Bool) (hr : hasL ls l = r) (h : V2 S W v ls) (hl : V1 S' W u l) :
  Calls Tryz.prog 112 #[v, u] W fun e' w' => e' = .returned (.bool r) ∧ ∃ n, w' = W.drewN n := by subst hr; exact l14Has_q v u ls l W h hl
def allB (l : List Int) (lo hi : Int) : Bool := l.all fun n => inB n lo hi
theorem allB_step {l : List Int} {k : Nat} (h : k < l.length) (lo hi : Int) : allB (l.drop k) lo hi = (inB (geti l k) lo hi && allB (l.drop (k + 1)) lo hi) := all_stepi _ h
theorem allB_iff {l : List Int} {lo hi : Int} : allB l lo hi = true ↔ ∀ n ∈ l, lo ≤ n ∧ n ≤ hi := by simp [allB, inB_iff]
theorem allWithin_any {S : Nat → Prop} (v : Value) (l : List Int) (lo hi : Int) (W : World) (h : V1 S W v l) :
  Calls Tryz.prog 144 #[v, .int .i64 lo, .int .i64 hi] W fun e' w' => e' = .returned (.bool (allB l lo hi)) ∧ W = w' := by
 have hV := h
 obtain ⟨a, c, rfl, hm⟩ := h.form
 go_enter Tryz.func144, Tryz.ntmps144
 go_wp2_with fail
 go_loop [8, 11] (fun _ i => ∃ k : Nat, k ≤ l.length ∧ i = .int .i64 k ∧ allB l lo hi = allB (l.drop k) lo hi) (fun _ i => l.length - (intOf i).toNat)
 case atStart => exact ⟨0, Nat.zero_le _, rfl, rfl⟩
 case round =>
  obtain ⟨k, hk, rfl, hrem⟩ := hrel
  have Hr := Lib.hid hrem; clear hrem
  by_cases hkk : k < l.length
  ·obtain ⟨b1, off1, rfl, _, hc1⟩ := hV.cell hkk
   cases hin : inB (geti l k) lo hi
   ·have E1 := Lib.hid hin; clear hin
    go_wp2_with (go_at_call 59; refine (within_b _ _ _ _ _ E1.out).mono ?_; rintro e' w' ⟨rfl, rfl⟩)
    go_ret
    exact ⟨ret_bool (by rw [Hr.out, allB_step hkk, E1.out]; rfl), rfl⟩
   ·have E1 := Lib.hid hin; clear hin
    go_wp2_with (go_at_call 59; refine (within_b _ _ _ _ _ E1.out).mono ?_; rintro e' w' ⟨rfl, rfl⟩)
    go_round
    case rel => exact ⟨k + 1, by omega, by go_num, by rw [Hr.out, allB_step hkk, E1.out]; rfl⟩
    case measure => simp [intOf]; omega
  ·have hd : l.drop k = [] := List.drop_of_length_le (by omega)
   have Hd := Lib.hid hd; clear hd
   go_wp2_with fail
   go_ret
   exact ⟨ret_bool (by rw [Hr.out, Hd.out]; rfl), rfl⟩
theorem allWithin_b {S : Nat → Prop} (v : Value) (l : List Int) (lo hi : Int) (W : World) (r : Bool) (hr : allB l lo hi = r) (h : V1 S W v l) :
  Calls Tryz.prog 144 #[v, .int .i64 lo, .int .i64 hi] W fun e' w' => e' = .returned (.bool r) ∧ W = w' := by subst hr; exact allWithin_any v l lo hi W h
/-- A row of a table of n columns; a table. -/
def rowOk (n : Nat) (r : List Int) : Bool := decide (r.length = n) && inB r.length 1 12 && allB r 0 1
def isTab (t : List (List Int)) : Bool := inB t.length 1 10 && t.all (rowOk (getl t 0).length)
def rowsOk (n : Nat) (t : List (List Int)) : Bool := t.all (rowOk n)
theorem rowsOk_step {n : Nat} {t : List (List Int)} {k : Nat} (h : k < t.length) : rowsOk n (t.drop k) = (rowOk n (getl t k) && rowsOk n (t.drop (k + 1))) := all_stepl _ h
theorem isTable_any {S : Nat → Prop} (v : Value) (t : List (List Int)) (W : World) (h : V2 S W v t) :
  Calls Tryz.prog 89 #[v] W fun e' w' => e' = .returned (.bool (isTab t)) ∧ W = w' := by
 have hV := h
 obtain ⟨a, c, rfl, hm⟩ := h.form
 have hfin : isTab t = (inB t.length 1 10 && rowsOk (getl t 0).length t) := rfl
 have Hf := Lib.hid hfin; clear hfin
 go_enter Tryz.func89, Tryz.ntmps89
 go_wp2_with fail
 go_loop [4, 7] (fun _ i => ∃ k : Nat, k ≤ t.length ∧ i = .int .i64 k ∧ rowsOk (getl t 0).length t = rowsOk (getl t 0).length (t.drop k)) (fun _ i => t.length - (intOf i).toNat)
 case atStart => exact ⟨0, Nat.zero_le _, rfl, rfl⟩
 case round =>
  obtain ⟨k, hk, rfl, hrem⟩ := hrel
  have Hr := Lib.hid hrem; clear hrem
  by_cases hkk : k < t.length
  ·obtain ⟨b1, off1, a1, c1, rfl, _, hc1, hr1⟩ := hV.cell hkk
   obtain ⟨b2, off2, a2, c2, e2, _, hc2, hr2⟩ := hV.cell (k := 0) (by omega)
   simp only [Option.some.injEq, Addr.mk.injEq, and_true] at e2
   obtain ⟨rfl, rfl⟩ := e2
   simp only [Nat.add_zero] at hc2
   have hl1 := hr1.len
   have hl2 := hr2.len
   unfold maxLen at hl1 hl2
   by_cases h1 : (getl t k).length = (getl t 0).length
   ·have e1 : (((getl t k).length : Int) == ((getl t 0).length : Int)) = true := by simp; omega
    have e2 : (((getl t k).length : Int) != ((getl t 0).length : Int)) = false := by simp; omega
    by_cases h2 : 1 ≤ (getl t k).length ∧ (getl t k).length ≤ 12
    ·cases h3 : allB (getl t k) 0 1
     ·have hrow : rowOk (getl t 0).length (getl t k) = false := by simp [rowOk, h3]
      have Hrow := Lib.hid hrow; clear hrow
      have H3 := Lib.hid h3; clear h3
      have H1 := Lib.hid h1; clear h1
      obtain ⟨h2a, h2b⟩ := h2
      go_wp2_with (go_at_call 144; refine (allWithin_b _ _ _ _ _ _ H3.out hr1).mono ?_; rintro e' w' ⟨rfl, rfl⟩)
      go_ret
      exact ⟨ret_bool (by rw [Hf.out, Hr.out, rowsOk_step hkk, Hrow.out]; simp), rfl⟩
     ·have hrow : rowOk (getl t 0).length (getl t k) = true := by simp [rowOk, h3, h1, inB_iff]; omega
      have Hrow := Lib.hid hrow; clear hrow
      have H3 := Lib.hid h3; clear h3
      have H1 := Lib.hid h1; clear h1
      obtain ⟨h2a, h2b⟩ := h2
      go_wp2_with (go_at_call 144; refine (allWithin_b _ _ _ _ _ _ H3.out hr1).mono ?_; rintro e' w' ⟨rfl, rfl⟩)
      go_round
      case rel => exact ⟨k + 1, by omega, by go_num, by rw [Hr.out, rowsOk_step hkk, Hrow.out]; rfl⟩
      case measure => simp [intOf]; omega
    ·have hrow : rowOk (getl t 0).length (getl t k) = false := by
      have : inB (getl t k).length 1 12 = false := inB_false.2 (by omega)
      simp [rowOk, this]
     have Hrow := Lib.hid hrow; clear hrow
     have H1 := Lib.hid h1; clear h1
     by_cases h4 : (getl t k).length < 1
     ·go_wp2_with fail
      go_ret
      exact ⟨ret_bool (by rw [Hf.out, Hr.out, rowsOk_step hkk, Hrow.out]; simp), rfl⟩
     ·have h5 : 12 < (getl t k).length := by omega
      clear h2
      go_wp2_with fail
      go_ret
      exact ⟨ret_bool (by rw [Hf.out, Hr.out, rowsOk_step hkk, Hrow.out]; simp), rfl⟩
   ·have e1 : (((getl t k).length : Int) == ((getl t 0).length : Int)) = false := by simp; omega
    have e2 : (((getl t k).length : Int) != ((getl t 0).length : Int)) = true := by simp; omega
    have hrow : rowOk (getl t 0).length (getl t k) = false := by simp [rowOk, h1]
    have Hrow := Lib.hid hrow; clear hrow
    go_wp2_with fail
    go_ret
    exact ⟨ret_bool (by rw [Hf.out, Hr.out, rowsOk_step hkk, Hrow.out]; simp), rfl⟩
  ·have hd : t.drop k = [] := List.drop_of_length_le (by omega)
   have Hd := Lib.hid hd; clear hd
   go_wp2_with fail
   all_goals go_ret
   ·exact ⟨ret_bool (by rw [Hf.out, Hr.out, Hd.out]; simp [rowsOk, inB]; omega), rfl⟩
   ·exact ⟨ret_bool (by rw [Hf.out, Hr.out, Hd.out]; simp [rowsOk, inB]; omega), rfl⟩
theorem isTableR_q {S : Nat → Prop} (v : Value) (t : List (List Int)) (W : World) (h : V2 S W v t) :
  Calls Tryz.prog 153 #[v] W fun e' w' => e' = .returned (.bool (isTab t)) ∧ ∃ n, w' = W.drewN n := by
 have hV := h
 obtain ⟨a, c, rfl, hm⟩ := h.form
 have hfin : isTab t = (inB t.length 1 10 && rowsOk (getl t 0).length t) := rfl
 have Hf := Lib.hid hfin; clear hfin
 cases h0 : inB t.length 1 10
 ·have H0 := Lib.hid h0; clear h0
  go_enter Tryz.func153, Tryz.ntmps153
  go_wp2_with (go_at_call 53; refine (l01In_b _ _ _ _ _ H0.out).mono ?_; rintro e' w' ⟨rfl, rfl⟩)
  go_ret
  exact ⟨ret_bool (by rw [Hf.out, H0.out]; rfl), 0, rfl⟩
 ·have H0 := Lib.hid h0; clear h0
  go_enter Tryz.func153, Tryz.ntmps153
  go_wp2_with (go_at_call 53; refine (l01In_b _ _ _ _ _ H0.out).mono ?_; rintro e' w' ⟨rfl, rfl⟩)
  go_loopw [3] (fun i wr => ∃ k n : Nat, k ≤ t.length ∧ i = .int .i64 k ∧ rowsOk (getl t 0).length t = rowsOk (getl t 0).length (t.drop k) ∧ wr = W.drewN n) (fun i _ => t.length - (intOf i).toNat)
  case atStart => exact ⟨0, 0, Nat.zero_le _, rfl, rfl, rfl⟩
  case round =>
   obtain ⟨k, n, hk, rfl, hrem, rfl⟩ := hrel
   have Hr := Lib.hid hrem; clear hrem
   by_cases hkk : k < t.length
   ·obtain ⟨b1, off1, a1, c1, rfl, _, hc1, hr1⟩ := hV.cell hkk
    obtain ⟨b2, off2, a2, c2, e2, _, hc2, hr2⟩ := hV.cell (k := 0) (by omega)
    simp only [Option.some.injEq, Addr.mk.injEq, and_true] at e2
    obtain ⟨rfl, rfl⟩ := e2
    simp only [Nat.add_zero] at hc2
    have hl1 := hr1.len
    have hl2 := hr2.len
    unfold maxLen at hl1 hl2
    by_cases h1 : (getl t k).length = (getl t 0).length
    ·have e1 : (((getl t k).length : Int) == ((getl t 0).length : Int)) = true := by simp; omega
     have e2 : (((getl t k).length : Int) != ((getl t 0).length : Int)) = false := by simp; omega
     cases h2 : inB (getl t k).length 1 12
     ·have hrow : rowOk (getl t 0).length (getl t k) = false := by simp [rowOk, h2]
      have Hrow := Lib.hid hrow; clear hrow
      have H2 := Lib.hid h2; clear h2
      have H1 := Lib.hid h1; clear h1
      go_wp2_with fail
      go_quiet ((go_at_call 53; first | exact quiet_same (l01In_b _ _ _ _ _ H2.out) | exact quiet_same0 (l01In_b _ _ _ _ _ H2.out)))
      go_wp2_with fail
      go_ret
      exact ⟨ret_bool (by rw [Hf.out, Hr.out, rowsOk_step hkk, Hrow.out]; simp), _, by first | rfl | rw [World.drewN_drewN]⟩
     ·have hrow : rowOk (getl t 0).length (getl t k) = allB (getl t k) 0 1 := by simp [rowOk, h1, h2]; intro _; rw [← h1, h2]
      have Hrow := Lib.hid hrow; clear hrow
      have H2 := Lib.hid h2; clear h2
      have H1 := Lib.hid h1; clear h1
      go_wp2_with fail
      go_quiet ((go_at_call 53; first | exact quiet_same (l01In_b _ _ _ _ _ H2.out) | exact quiet_same0 (l01In_b _ _ _ _ _ H2.out)))
      go_wp2_with fail
      go_loopw [4] (fun j wr => ∃ m n' : Nat, m ≤ (getl t k).length ∧ j = .int .i64 m ∧ allB (getl t k) 0 1 = allB ((getl t k).drop m) 0 1 ∧ wr = W.drewN n') (fun j _ => (getl t k).length - (intOf j).toNat)
      case atStart => exact ⟨0, _, Nat.zero_le _, rfl, rfl, by first | rfl | rw [World.drewN_drewN]⟩
      case round =>
       obtain ⟨m, n', hmm, rfl, hremj, rfl⟩ := hrel
       have Hj := Lib.hid hremj; clear hremj
       by_cases hmk : m < (getl t k).length
       ·obtain ⟨b3, off3, rfl, _, hc3⟩ := hr1.cell hmk
        cases hin : inB (geti (getl t k) m) 0 1
        ·have E1 := Lib.hid hin; clear hin
         go_wp2_with (go_at_call 53; refine (l01In_b _ _ _ _ _ E1.out).mono ?_; rintro e' w' ⟨rfl, rfl⟩)
         go_ret
         exact ⟨ret_bool (by rw [Hf.out, Hr.out, rowsOk_step hkk, Hrow.out, Hj.out, allB_step hmk, E1.out]; simp), _, by first | rfl | rw [World.drewN_drewN]⟩
        ·have E1 := Lib.hid hin; clear hin
         go_wp2_with (go_at_call 53; refine (l01In_b _ _ _ _ _ E1.out).mono ?_; rintro e' w' ⟨rfl, rfl⟩)
         go_roundw
         case rel => exact ⟨m + 1, _, by omega, by go_num, by rw [Hj.out, allB_step hmk, E1.out]; rfl, by first | rfl | rw [World.drewN_drewN]⟩
         case measure => simp [intOf]; omega
       ·have hd : (getl t k).drop m = [] := List.drop_of_length_le (by omega)
        have Hd := Lib.hid hd; clear hd
        go_wp2_with fail
        go_roundw
        case rel => exact ⟨k + 1, _, by omega, by go_num, by rw [Hr.out, rowsOk_step hkk, Hrow.out, Hj.out, Hd.out]; rfl, by first | rfl | rw [World.drewN_drewN]⟩
        case measure => simp [intOf]; omega
    ·have e1 : (((getl t k).length : Int) == ((getl t 0).length : Int)) = false := by simp; omega
     have e2 : (((getl t k).length : Int) != ((getl t 0).length : Int)) = true := by simp; omega
     have hrow : rowOk (getl t 0).length (getl t k) = false := by simp [rowOk, h1]
     have Hrow := Lib.hid hrow; clear hrow
     go_wp2_with fail
     go_quiet (fail)
     go_wp2_with fail
     go_ret
     exact ⟨ret_bool (by rw [Hf.out, Hr.out, rowsOk_step hkk, Hrow.out]; simp), _, by first | rfl | rw [World.drewN_drewN]⟩
   ·have hd : t.drop k = [] := List.drop_of_length_le (by omega)
    have Hd := Lib.hid hd; clear hd
    go_wp2_with fail
    go_ret
    exact ⟨ret_bool (by rw [Hf.out, Hr.out, Hd.out, H0.out]; rfl), _, by first | rfl | rw [World.drewN_drewN]⟩
theorem isTable_b {S : Nat → Prop} (v : Value) (t : List (List Int)) (W : World) (r : Bool) (hr : isTab t = r) (h : V2 S W v t) :
  Calls Tryz.prog 89 #[v] W fun e' w' => e' = .returned (.bool r) ∧ W = w' := by subst hr; exact isTable_any v t W h
theorem isTableR_b {S : Nat → Prop} (v : Value) (t : List (List Int)) (W : World) (r : Bool) (hr : isTab t = r) (h : V2 S W v t) :
  Calls Tryz.prog 153 #[v] W fun e' w' => e' = .returned (.bool r) ∧ ∃ n, w' = W.drewN n := by subst hr; exact isTableR_q v t W h
/-- The function f may be entered. -/
def Enters (f : FuncId) : Prop := ∀ (args : Array Value) (w : World), Sem.run Tryz.prog (callFunc f args) w = .ok (.enter f args) w
/-- A function value that answers g of a list, and makes at most new memory. -/
def PredL (f : FuncId) (caps : Array Value) (W : World) (g : List Int → Bool) : Prop :=
 ∀ (S : Nat → Prop) (w : World) (v : Value) (l : List Int), Below W.heap.size W w → V1 S w v l → Calls Tryz.prog f (#[v] ++ caps) w fun e w' => e = .returned (.bool (g l)) ∧ Below w.heap.size w w'
def idxR {α : Type} (g : α → Bool) : List α → Nat → Int
 | [], _ => -1
 | x :: xs, k => if g x then k else idxR g xs (k + 1)
theorem idxR_step {g : List Int → Bool} {ls : List (List Int)} {k : Nat} (h : k < ls.length) : idxR g (ls.drop k) k = if g (getl ls k) then (k : Int) else idxR g (ls.drop (k + 1)) (k + 1) := by
 rw [List.drop_eq_getElem_cons h, idxR, getl_eq h]
theorem idxR_any {α : Type} (g : α → Bool) : ∀ (l : List α) (k : Nat), decide (0 ≤ idxR g l k) = l.any g ∧ (idxR g l k = -1 ∨ (k : Int) ≤ idxR g l k)
 | [], k => ⟨by simp [idxR], .inl rfl⟩
 | x :: xs, k => by
   have ih := idxR_any g xs (k + 1)
   unfold idxR
   by_cases hx : g x = true
   ·simp [hx]
   ·simp only [hx, if_false, List.any_cons]
    exact ⟨by simpa using ih.1, by rcases ih.2 with h | h; exact .inl h; right; omega⟩
theorem indexFunc_any {S : Nat → Prop} (v : Value) (ls : List (List Int)) (f : FuncId) (caps : Array Value) (g : List Int → Bool) (W : World) (h : V2 S W v ls) (hf : Enters f) (hp : PredL f caps W g) :
  Calls Tryz.prog 197 #[v, .func (.func f) #[] caps] W fun e' w' => e' = .returned (.int .i64 (idxR g ls 0)) ∧ Below W.heap.size W w' := by
 have hV := h
 obtain ⟨a, c, rfl, hm⟩ := h.form
 have Hp := Lib.hid hp; clear hp
 go_enter Tryz.func197, Tryz.ntmps197
 go_wp2_with fail
 go_loopw [5, 8] (fun _ i wr => ∃ k : Nat, k ≤ ls.length ∧ i = .int .i64 k ∧ idxR g ls 0 = idxR g (ls.drop k) k ∧ Below W.heap.size W wr) (fun _ i _ => ls.length - (intOf i).toNat)
 case atStart => exact ⟨0, Nat.zero_le _, rfl, rfl, Below.refl _ _⟩
 case round =>
  obtain ⟨k, hk, rfl, hrem, hB⟩ := hrel
  have Hr := Lib.hid hrem; clear hrem
  by_cases hkk : k < ls.length
  ·obtain ⟨b1, off1, a1, c1, rfl, _, hc1, hr1⟩ := (hV.below hB).cell hkk
   have hf' := hf
   unfold Enters at hf'
   cases hg : g (getl ls k)
   ·have HG := Lib.hid hg; clear hg
    go_wp2_with fail
    have hcl := Hp.out _ _ _ _ hB hr1
    rw [HG.out] at hcl
    refine hcl.mono ?_
    rintro e' w' ⟨rfl, hb⟩
    have hzB := hb.size
    have hzW := hB.size
    go_wp2_with fail
    go_roundw
    case rel => exact ⟨k + 1, by omega, by go_num, by rw [Hr.out, idxR_step hkk, HG.out]; rfl, hB.trans (hb.mono hzW)⟩
    case measure => simp [intOf]; omega
   ·have HG := Lib.hid hg; clear hg
    go_wp2_with fail
    have hcl := Hp.out _ _ _ _ hB hr1
    rw [HG.out] at hcl
    refine hcl.mono ?_
    rintro e' w' ⟨rfl, hb⟩
    have hzB := hb.size
    have hzW := hB.size
    go_wp2_with fail
    go_ret
    exact ⟨ret_int (by rw [Hr.out, idxR_step hkk, HG.out]; rfl), hB.trans (hb.mono hzW)⟩
  ·have hd : ls.drop k = [] := List.drop_of_length_le (by omega)
   have Hd := Lib.hid hd; clear hd
   go_wp2_with fail
   go_ret
   exact ⟨ret_int (by rw [Hr.out, Hd.out]; rfl), hB⟩
theorem containsFunc_any {S : Nat → Prop} (v : Value) (ls : List (List Int)) (f : FuncId) (caps : Array Value) (g : List Int → Bool) (W : World) (h : V2 S W v ls) (hf : Enters f) (hp : PredL f caps W g) :
  Calls Tryz.prog 169 #[v, .func (.func f) #[] caps] W fun e' w' => e' = .returned (.bool (ls.any g)) ∧ Below W.heap.size W w' := by
 have hfin := (idxR_any g ls 0).1
 have Hfin := Lib.hid hfin; clear hfin
 go_enter Tryz.func169, Tryz.ntmps169
 go_wp2_with fail
 refine (indexFunc_any _ _ _ _ _ _ h hf hp).mono ?_
 rintro e' w' ⟨rfl, hb⟩
 go_wp2_with fail
 go_ret
 exact ⟨ret_bool (by rw [← Hfin.out]), hb⟩
theorem enters_contains : Enters 170 := fun args w => by kernel_rfl
theorem contains1_any {S S' : Nat → Prop} (v u : Value) (l key : List Int) (b : Nat) (W : World) (h : V1 S W v l) (hc : W.cell? ⟨b, 0, none⟩ = some u) (hu : V1 S' W u key) :
  Calls Tryz.prog 170 #[v, .pointer (some ⟨b, 0, none⟩)] W fun e' w' => e' = .returned (.bool (decide (l = key))) ∧ ∃ n, w' = W.drewN n := by
 go_enter Tryz.func170, Tryz.ntmps170
 go_wp2_with fail
 refine (slEqual_q _ _ _ _ _ h hu).mono ?_
 rintro e' w' ⟨rfl, n, rfl⟩
 go_wp2_with fail
 go_ret
 exact ⟨rfl, _, rfl⟩
theorem contains_any {S S' : Nat → Prop} (v u : Value) (ls : List (List Int)) (key : List Int) (W : World) (h : V2 S W v ls) (hu : V1 S' W u key) :
  Calls Tryz.prog 110 #[v, u] W fun e' w' => e' = .returned (.bool (hasL ls key)) ∧ Below W.heap.size W w' := by
 have hU := hu
 obtain ⟨a2, c2, rfl, _⟩ := hu.form
 go_enter Tryz.func110, Tryz.ntmps110
 go_wp2_with fail
 have hb0 : Below W.heap.size W (W.alloc (.cells #[.slice a2 key.length c2] 44)) := (Below.refl _ _).alloc (Nat.le_refl _) _
 refine (containsFunc_any (S := S) _ ls _ _ (fun o => decide (o = key)) _ (h.below hb0) enters_contains ?_).mono ?_
 ·intro S2 w v2 l hb hv
  have hc : w.cell? ⟨W.heap.size, 0, none⟩ = some (.slice a2 key.length c2) := by
   rw [(bcell hb).1 _ _ (by simp), cell_of_block (heap_alloc_self _ _)]; rfl
  refine (contains1_any v2 _ l key W.heap.size w hv hc ((hU.below hb0).below hb)).mono ?_
  rintro e' w' ⟨rfl, n, rfl⟩
  exact ⟨rfl, below_drewN (Below.refl _ _) _⟩
 ·rintro e' w' ⟨rfl, hb⟩
  go_wp2_with fail
  go_ret
  exact ⟨rfl, by (repeat (first | (with_reducible refine Below.setCell ?_ ?_ _) | (with_reducible refine Below.alloc ?_ ?_ _) | (with_reducible refine Below.drew ?_) | (with_reducible refine below_drewN ?_ _) | (with_reducible exact Below.refl _ _) | (with_reducible assumption) | (with_reducible refine Below.trans ?_ (Below.mono (by with_reducible assumption) ?_)) | go_size))⟩
theorem contains_b {S S' : Nat → Prop} (v u : Value) (ls : List (List Int)) (key : List Int) (W : World) (r : Bool) (hr : hasL ls key = r) (h : V2 S W v ls) (hu : V1 S' W u key) :
  Calls Tryz.prog 110 #[v, u] W fun e' w' => e' = .returned (.bool r) ∧ Below W.heap.size W w' := by subst hr; exact contains_any v u ls key W h hu
/-- The rows that open door d, among the first k. -/
def rowsF (t : List (List Int)) (d : Nat) : Nat → List Int
 | 0 => []
 | k + 1 => if geti (getl t k) d = 1 then rowsF t d k ++ [(k : Int)] else rowsF t d k
theorem rowsF_len (t : List (List Int)) (d : Nat) : ∀ k, (rowsF t d k).length ≤ k
 | 0 => Nat.le_refl _
 | k + 1 => by have := rowsF_len t d k; unfold rowsF; split <;> simp <;> omega
theorem mem_rowsF {t : List (List Int)} {d : Nat} {x : Int} : ∀ {k}, x ∈ rowsF t d k ↔ ∃ i : Nat, i < k ∧ x = i ∧ geti (getl t i) d = 1
 | 0 => by simp [rowsF]
 | k + 1 => by
   unfold rowsF
   split
   ·rename_i h
    rw [List.mem_append, mem_rowsF]
    constructor
    ·rintro (⟨i, h1, h2, h3⟩ | h1)
     ·exact ⟨i, by omega, h2, h3⟩
     ·simp at h1; exact ⟨k, by omega, h1, h⟩
    ·rintro ⟨i, h1, h2, h3⟩
     by_cases e : i = k
     ·subst e; right; simp [h2]
     ·exact .inl ⟨i, by omega, h2, h3⟩
   ·rename_i h
    rw [mem_rowsF]
    constructor
    ·rintro ⟨i, h1, h2, h3⟩; exact ⟨i, by omega, h2, h3⟩
    ·rintro ⟨i, h1, h2, h3⟩
     refine ⟨i, ?_, h2, h3⟩
     by_cases e : i = k
     ·subst e; exact absurd h3 h
     ·omega
set_option maxRecDepth 100000 in
theorem rowsFor_any {S : Nat → Prop} (m : Mk) (u : Value) (t : List (List Int)) (d : Nat) (W : World) (h : V2 S W u t) (hd : ∀ k, k < t.length → d < (getl t k).length) (hlen : t.length ≤ 1000000) :
  Calls Tryz.prog 90 #[.agg #[.int .i64 m.c, .int .i64 m.d, .int .i64 m.s, .int .i64 m.e, .int .i64 m.l, u], .int .i64 d] W fun e' w' => ∃ v', e' = .returned v' ∧ F1 W.heap.size w' v' (rowsF t d t.length) ∧ Below W.heap.size W w' := by
 have hV := h
 obtain ⟨a, c, rfl, hm⟩ := h.form
 have Hd := Lib.hid hd; clear hd
 obtain ⟨W1, hW1, hB01, hz01, HZ01, hc01, hh01⟩ := box_facts W #[.int .i64 m.c, .int .i64 m.d, .int .i64 m.s, .int .i64 m.e, .int .i64 m.l, .slice a t.length c] 33
 go_enter Tryz.func90, Tryz.ntmps90
 go_wp2_with fail
 rw [← hW1]
 have HW1 := Lib.hid hW1; clear hW1
 have hown0 := own_lit0 W1 W1.heap.size 2 1 (Nat.le_refl _)
 have hV1 := hV.below hB01
 go_loopw [5, 6, 7, 12] (fun o _ _ i wr => ∃ k : Nat, k ≤ t.length ∧ i = .int .i64 k ∧ wr.ownsRow W1.heap.size 2 1 o (rowsF t d k).length ((rowsF t d k).map (Value.int .i64)) ∧ Below W1.heap.size W1 wr) (fun _ _ _ i _ => t.length - (intOf i).toNat)
 case atStart => exact ⟨0, Nat.zero_le _, rfl, by rw [← HZ01.out]; simpa [rowsF] using hown0, (Below.refl _ _).alloc (Nat.le_refl _) _⟩
 case round =>
  obtain ⟨k, hk, rfl, hown, hB⟩ := hrel
  have hrl := rowsF_len t d k
  have hzW := hB.size
  by_cases hkk : k < t.length
  ·obtain ⟨b1, off1, a1, c1, rfl, _, hc1, hr1⟩ := (hV1.below hB).cell hkk
   obtain ⟨b2, off2, rfl, _, hc2⟩ := hr1.cell (Hd.out k hkk)
   have hdl : d < (getl t k).length := Hd.out k hkk
   have hll := hr1.len
   unfold maxLen at hll
   by_cases h1 : geti (getl t k) d = 1
   ·have e1 : (geti (getl t k) d == 1) = true := by simp [h1]
    have hst : rowsF t d (k + 1) = rowsF t d k ++ [(k : Int)] := by rw [rowsF, if_pos h1]
    have Hst := Lib.hid hst; clear hst
    have H1 := Lib.hid h1; clear h1
    go_wp2_with (at_builtin; refine wp_app1 _ rfl _ _ 44 rfl W1.heap.size 2 (.int .i64 0) 8 Tryz.underlying44 inf_int rfl _ _ _ rfl hown (.int .i64 k) _ rfl rfl (by omega) (by omega) (by omega) ?_; intro v1 w1 hown1 hgrow1 hblk1 hB1)
    go_roundw
    case rel => exact ⟨k + 1, by omega, by go_num, by rw [Hst.out, List.map_append, List.length_append]; exact hown1, hB.trans (hB1.mono (Nat.le_refl _))⟩
    case measure => simp [intOf]; omega
   ·have e1 : (geti (getl t k) d == 1) = false := by simp [h1]
    have hst : rowsF t d (k + 1) = rowsF t d k := by rw [rowsF, if_neg h1]
    have Hst := Lib.hid hst; clear hst
    have H1 := Lib.hid h1; clear h1
    go_wp2_with fail
    go_roundw
    case rel => exact ⟨k + 1, by omega, by go_num, by rw [Hst.out]; exact hown, hB⟩
    case measure => simp [intOf]; omega
  ·obtain rfl : k = t.length := by omega
   go_wp2_with fail
   go_ret
   obtain ⟨b, hx, hb⟩ := own_F1 hown
   exact ⟨_, rfl, ⟨b, hx, fun hn => by have := hb hn; omega⟩, hB01.trans (hB.mono (by omega))⟩
def doorTo (t : List (List Int)) (d : Nat) : Nat → Bool
 | 0 => false
 | k + 1 => doorTo t d k || decide (geti (getl t k) d = 1)
def doorOpen (t : List (List Int)) (d : Nat) : Bool := doorTo t d t.length
theorem doorTo_iff {t : List (List Int)} {d : Nat} : ∀ {k}, doorTo t d k = true ↔ ∃ i, i < k ∧ geti (getl t i) d = 1
 | 0 => by simp [doorTo]
 | k + 1 => by
   simp only [doorTo, Bool.or_eq_true, decide_eq_true_eq, doorTo_iff (k := k)]
   constructor
   ·rintro (⟨i, h1, h2⟩ | h)
    ·exact ⟨i, by omega, h2⟩
    ·exact ⟨k, by omega, h⟩
   ·rintro ⟨i, h1, h2⟩
    by_cases e : i = k
    ·subst e; exact .inr h2
    ·exact .inl ⟨i, by omega, h2⟩
theorem rowsF_door {t : List (List Int)} {d k : Nat} : ((rowsF t d k).length = 0) ↔ doorTo t d k = false := by
 rw [← Bool.not_eq_true, doorTo_iff]
 constructor
 ·rintro h ⟨i, h1, h2⟩
  have : (i : Int) ∈ rowsF t d k := mem_rowsF.2 ⟨i, h1, rfl, h2⟩
  rw [List.eq_nil_of_length_eq_zero h] at this
  cases this
 ·intro h
  cases hr : rowsF t d k with
  | nil => rfl
  | cons x xs =>
    obtain ⟨i, h1, _, h3⟩ := mem_rowsF.1 (by rw [hr]; exact List.mem_cons_self .. : x ∈ rowsF t d k)
    exact absurd ⟨i, h1, h3⟩ h
/-- p holds from k on, below n. -/
def upAll (p : Nat → Bool) (n k : Nat) : Bool := (List.range' k (n - k)).all p
theorem upAll_step {p : Nat → Bool} {n k : Nat} (h : k < n) : upAll p n k = (p k && upAll p n (k + 1)) := by
 unfold upAll
 rw [show n - k = (n - (k + 1)) + 1 from by omega, List.range'_succ, List.all_cons]
theorem upAll_end {p : Nat → Bool} {n : Nat} : upAll p n n = true := by unfold upAll; rw [Nat.sub_self]; rfl
/-- A system: a valid maker, a table, each column with a 1. -/
def isSys (m : Mk) (t : List (List Int)) : Bool := m.ok && (isTab t && upAll (doorOpen t) (getl t 0).length 0)
theorem isTab_iff {t : List (List Int)} : isTab t = true ↔ (1 ≤ t.length ∧ t.length ≤ 10) ∧ ∀ k, k < t.length → (getl t k).length = (getl t 0).length ∧ (1 ≤ (getl t 0).length ∧ (getl t 0).length ≤ 12) ∧ ∀ x ∈ getl t k, 0 ≤ x ∧ x ≤ 1 := by
 simp only [isTab, Bool.and_eq_true, inB_iff, List.all_eq_true, rowOk, decide_eq_true_eq, allB_iff]
 constructor
 ·rintro ⟨h1, h2⟩
  refine ⟨by omega, fun k hk => ?_⟩
  obtain ⟨⟨h3, h4⟩, h5⟩ := h2 _ (getl_mem hk)
  exact ⟨h3, by omega, h5⟩
 ·rintro ⟨h1, h2⟩
  refine ⟨by omega, fun r hr => ?_⟩
  obtain ⟨k, hk, rfl⟩ := List.getElem_of_mem hr
  have := h2 k hk
  rw [getl_eq hk] at this
  exact ⟨⟨this.1, by omega⟩, this.2.2⟩
set_option maxRecDepth 100000 in
theorem isSystem_any {S : Nat → Prop} (m : Mk) (u : Value) (t : List (List Int)) (W : World) (h : V2 S W u t) :
  Calls Tryz.prog 31 #[.agg #[.int .i64 m.c, .int .i64 m.d, .int .i64 m.s, .int .i64 m.e, .int .i64 m.l, u]] W fun e' w' => e' = .returned (.bool (isSys m t)) ∧ Below W.heap.size W w' := by
 have hV := h
 obtain ⟨a, c, rfl, hm⟩ := h.form
 obtain ⟨W1, hW1, hB01, hz01, HZ01, hc01, hh01⟩ := box_facts W #[.int .i64 m.c, .int .i64 m.d, .int .i64 m.s, .int .i64 m.e, .int .i64 m.l, .slice a t.length c] 33
 have hV1 := hV.below hB01
 cases hok : m.ok
 ·have hfin : isSys m t = false := by rw [isSys, hok]; rfl
  have Hf := Lib.hid hfin; clear hfin
  have Hok := Lib.hid hok; clear hok
  go_enter Tryz.func31, Tryz.ntmps31
  go_wp2_with fail
  rw [← hW1]
  refine (isMaker_any _ _ _ _ _ _).mono ?_; rintro e' w2 ⟨rfl, hb_w2⟩; have hB2 := (Below.refl W1.heap.size W1).trans (hb_w2.mono (Below.refl W1.heap.size W1).size)
  rw [show isMk m.c m.d m.s m.e m.l = false from Hok.out]
  clear hc01 hh01
  go_wp2_with fail
  go_ret
  exact ⟨ret_bool Hf.out.symm, hB01.trans (hB2.mono (by omega))⟩
 ·cases htab : isTab t
  ·have hfin : isSys m t = false := by rw [isSys, htab]; simp
   have Hf := Lib.hid hfin; clear hfin
   have Hok := Lib.hid hok; clear hok
   have Ht := Lib.hid htab; clear htab
   go_enter Tryz.func31, Tryz.ntmps31
   go_wp2_with fail
   rw [← hW1]
   refine (isMaker_any _ _ _ _ _ _).mono ?_; rintro e' w2 ⟨rfl, hb_w2⟩; have hB2 := (Below.refl W1.heap.size W1).trans (hb_w2.mono (Below.refl W1.heap.size W1).size)
   rw [show isMk m.c m.d m.s m.e m.l = true from Hok.out]
   have hx2 : ∀ o, (w2).cell? ⟨W.heap.size, o, none⟩ = (#[.int .i64 m.c, .int .i64 m.d, .int .i64 m.s, .int .i64 m.e, .int .i64 m.l, .slice a t.length c] : Array Value)[o]? := fun o => by rw [(bcell hB2).1 _ _ hz01, hc01]
   clear hc01 hh01
   go_wp2_with (go_at_call 89; refine (isTable_b _ _ _ _ Ht.out (hV1.below hB2)).mono ?_; rintro e' w' ⟨rfl, rfl⟩)
   go_ret
   exact ⟨ret_bool Hf.out.symm, hB01.trans (hB2.mono (by omega))⟩
  ·have hfin : isSys m t = upAll (doorOpen t) (getl t 0).length 0 := by rw [isSys, hok, htab]; rfl
   have htabs := isTab_iff.1 htab
   obtain ⟨htl, htr⟩ := htabs
   have ht0 := (htr 0 (by omega)).2.1
   have hcols : ∀ k, k < t.length → (getl t k).length = (getl t 0).length := fun k hk => (htr k hk).1
   have Hcols := Lib.hid hcols; clear hcols htr
   have Hf := Lib.hid hfin; clear hfin
   have Hok := Lib.hid hok; clear hok
   have Ht := Lib.hid htab; clear htab
   obtain ⟨b0, off0, a0, c0, rfl, _, hcc0, hr0⟩ := hV1.cell (k := 0) (by omega)
   simp only [Nat.add_zero] at hcc0
   go_enter Tryz.func31, Tryz.ntmps31
   go_wp2_with fail
   rw [← hW1]
   refine (isMaker_any _ _ _ _ _ _).mono ?_; rintro e' w2 ⟨rfl, hb_w2⟩; have hB2 := (Below.refl W1.heap.size W1).trans (hb_w2.mono (Below.refl W1.heap.size W1).size)
   rw [show isMk m.c m.d m.s m.e m.l = true from Hok.out]
   have hx2 : ∀ o, (w2).cell? ⟨W.heap.size, o, none⟩ = (#[.int .i64 m.c, .int .i64 m.d, .int .i64 m.s, .int .i64 m.e, .int .i64 m.l, .slice (some ⟨b0, off0, none⟩) t.length c] : Array Value)[o]? := fun o => by rw [(bcell hB2).1 _ _ hz01, hc01]
   have hcc2 : w2.cell? ⟨b0, off0, none⟩ = some (.slice a0 (getl t 0).length c0) := cell_keep hcc0 (hB2.block _ (lt_of_cell hcc0))
   have Hc01 := Lib.hid hc01; clear hc01
   have Hh01 := Lib.hid hh01; clear hh01
   have HW1 := Lib.hid hW1; clear hW1
   clear hcc0
   go_wp2_with (go_at_call 89; refine (isTable_b _ _ _ _ Ht.out (hV1.below hB2)).mono ?_; rintro e' w' ⟨rfl, rfl⟩)
   have Hx2 := Lib.hid hx2; clear hx2
   go_loopw [3, 19] (fun _ i wr => ∃ k : Nat, k ≤ (getl t 0).length ∧ i = .int .i64 k ∧ isSys m t = upAll (doorOpen t) (getl t 0).length k ∧ Below W1.heap.size W1 wr) (fun _ i _ => (getl t 0).length - (intOf i).toNat)
   case atStart => exact ⟨0, Nat.zero_le _, rfl, Hf.out, hB2⟩
   case round =>
    obtain ⟨k, hk, rfl, hrem, hB⟩ := hrel
    have Hr := Lib.hid hrem; clear hrem
    have hx : ∀ o, wr.cell? ⟨W.heap.size, o, none⟩ = (#[.int .i64 m.c, .int .i64 m.d, .int .i64 m.s, .int .i64 m.e, .int .i64 m.l, .slice (some ⟨b0, off0, none⟩) t.length c] : Array Value)[o]? := fun o => by rw [(bcell hB).1 _ _ hz01, Hc01.out]
    by_cases hkk : k < (getl t 0).length
    ·have hdd : ∀ j, j < t.length → k < (getl t j).length := fun j hj => by rw [Hcols.out j hj]; exact hkk
     have Hdd := Lib.hid hdd; clear hdd
     go_wp2_with fail
     refine (rowsFor_any m _ t k _ (hV1.below hB) Hdd.out (by omega)).mono ?_
     rintro e' w3 ⟨v3, rfl, hF, hb3⟩
     have hB3 := hB.trans (hb3.mono hB.size)
     obtain ⟨a3, c3, rfl, hl3⟩ := hF.v1.form
     cases hdo : doorOpen t k
     ·have hz : (rowsF t k t.length).length = 0 := rowsF_door.2 hdo
      have e1 : (((rowsF t k t.length).length : Int) == 0) = true := by simp [hz]
      have Hdo := Lib.hid hdo; clear hdo
      have Hz := Lib.hid hz; clear hz
      go_wp2_with fail
      go_ret
      exact ⟨ret_bool (by rw [Hr.out, upAll_step hkk, Hdo.out]; rfl), hB01.trans (hB3.mono (by omega))⟩
     ·have hz : (rowsF t k t.length).length ≠ 0 := fun e => by
       have := rowsF_door.1 e
       rw [doorOpen, this] at hdo; cases hdo
      have e1 : (((rowsF t k t.length).length : Int) == 0) = false := by simp; simpa using hz
      have Hdo := Lib.hid hdo; clear hdo
      have Hz := Lib.hid hz; clear hz
      go_wp2_with fail
      go_roundw
      case rel => exact ⟨k + 1, by omega, by go_num, by rw [Hr.out, upAll_step hkk, Hdo.out]; rfl, hB3⟩
      case measure => simp [intOf]; omega
    ·obtain rfl : k = (getl t 0).length := by omega
     go_wp2_with fail
     go_ret
     exact ⟨ret_bool (by rw [Hr.out, upAll_end]), hB01.trans (hB.mono (by omega))⟩
end Go.Proofs.YtmjplkbmhdkggaaGreat
