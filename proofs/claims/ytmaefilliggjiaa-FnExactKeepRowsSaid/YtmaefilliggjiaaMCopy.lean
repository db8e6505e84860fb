/- What the laws' own helpers answer: sizes, copies, comparisons of slices. No conditions. -/
import Derived.Test.YtmaefilliggjiaaProg
import Derived.Deep.QuietTactic
import Derived.BigQuiet
import Derived.WalkSmall
import Derived.StillTailTactics
import Derived.Test.YtmaefilliggjiaaMLib
namespace Go.Proofs.Ytmaefilliggjiaa
open Go.RowKit
set_option linter.unusedVariables false
set_option linter.unusedSimpArgs false
/-- What szInt64S answers. -/
def szI (n : Nat) (left : Int) : Int := if left < n then -1 else left - n
def szR : List (List Int) → Int → Int
 | [], left => left
 | r :: rs, left => if left < r.length then -1 else szR rs (left - r.length)
def szL (ls : List (List Int)) (left : Int) : Int := if left < ls.length then -1 else szR ls (left - ls.length)
theorem szI_ok {n : Nat} {left : Int} (h0 : 0 ≤ left) : (szI n left = -1 ∧ left < n) ∨ (szI n left = left - n ∧ (n : Int) ≤ left) := by
 unfold szI; split
 ·exact .inl ⟨rfl, by assumption⟩
 ·exact .inr ⟨rfl, by omega⟩
theorem szR_le : ∀ (ls : List (List Int)) (left : Int), 0 ≤ left → szR ls left ≤ left ∧ (0 ≤ szR ls left → ∀ r ∈ ls, (r.length : Int) ≤ left) := by
 intro ls
 induction ls with
 | nil => intro left h; exact ⟨Int.le_refl _, by simp⟩
 | cons r rs ih =>
   intro left h
   unfold szR
   split
   ·exact ⟨by omega, fun h' => by omega⟩
   ·obtain ⟨h1, h2⟩ := ih (left - r.length) (by omega)
    refine ⟨by omega, fun h' x hx => ?_⟩
    cases hx with
    | head => omega
    | tail _ hm => have := h2 h' x hm; omega
theorem szL_ok {ls : List (List Int)} {left : Int} (h0 : 0 ≤ left) (h : 0 ≤ szL ls left) : (ls.length : Int) ≤ left ∧ ∀ r ∈ ls, (r.length : Int) ≤ left := by
 unfold szL at h
 split at h
 ·omega
 ·obtain ⟨h1, h2⟩ := szR_le ls (left - ls.length) (by omega)
  exact ⟨by omega, fun r hr => by have := h2 h r hr; omega⟩
theorem szL_le {ls : List (List Int)} {left : Int} (h0 : 0 ≤ left) : szL ls left ≤ left := by
 unfold szL; split
 ·omega
 ·have := (szR_le ls (left - ls.length) (by omega)).1; omega
theorem szR_ge : ∀ (ls : List (List Int)) (left : Int), -1 ≤ left → -1 ≤ szR ls left
 | [], left, h => h
 | r :: rs, left, h => by
   unfold szR
   split
   ·omega
   ·exact szR_ge rs _ (by omega)
theorem szR_step {ls : List (List Int)} {k : Nat} (hk : k < ls.length) (left : Int) : szR (ls.drop k) left = if left < (getl ls k).length then -1 else szR (ls.drop (k + 1)) (left - (getl ls k).length) := by
 rw [List.drop_eq_getElem_cons hk, szR, getl_eq hk]
theorem szInt64S_any {S : Nat → Prop} (v : Value) (l : List Int) (left : Int) (W : World) (h : V1 S W v l) (h0 : 0 ≤ left) (h1 : left ≤ 1048576) :
  Calls Try.prog 19 #[v, .int .i64 left] W fun e' w' => e' = .returned (.int .i64 (szI l.length left)) ∧ W = w' := by
 obtain ⟨a, c, rfl, hm⟩ := h.form
 go_enter Try.func19, Try.ntmps19
 go_wp2
 all_goals go_ret
 ·exact ⟨ret_int (by rw [szI, if_pos (by omega)]), rfl⟩
 ·exact ⟨ret_int (by rw [szI, if_neg (by omega)]), rfl⟩
theorem szInt64SS_any {S : Nat → Prop} (v : Value) (ls : List (List Int)) (left : Int) (W : World) (h : V2 S W v ls) (h0 : 0 ≤ left) (h1 : left ≤ 1048576) :
  Calls Try.prog 5 #[v, .int .i64 left] W fun e' w' => e' = .returned (.int .i64 (szL ls left)) ∧ W = w' := by
 have hV := h
 obtain ⟨a, c, rfl, hm⟩ := h.form
 by_cases hlt : left < ls.length
 ·go_enter Try.func5, Try.ntmps5
  go_wp2_with fail
  go_ret
  exact ⟨ret_int (by rw [szL, if_pos hlt]), rfl⟩
 ·have hfin : szL ls left = szR (ls.drop 0) (left - ls.length) := by rw [szL, if_neg hlt]; rfl
  have Hf := Lib.hid hfin; clear hfin
  go_enter Try.func5, Try.ntmps5
  go_wp2_with fail
  go_loop [1, 5] (fun t i => ∃ (k : Nat) (lf : Int), k ≤ ls.length ∧ i = .int .i64 k ∧ t = .int .i64 lf ∧ 0 ≤ lf ∧ lf ≤ 1048576 ∧ szL ls left = szR (ls.drop k) lf) (fun _ i => ls.length - (intOf i).toNat)
  case atStart => exact ⟨0, _, Nat.zero_le _, rfl, rfl, by omega, by omega, Hf.out⟩
  case round =>
   obtain ⟨k, lf, hk, rfl, rfl, hlf0, hlf1, hrem⟩ := hrel
   have Hr := Lib.hid hrem; clear hrem
   by_cases hkk : k < ls.length
   ·obtain ⟨b, off, a', c', rfl, _, hcell, hrow⟩ := hV.cell hkk
    rcases szI_ok (n := (getl ls k).length) hlf0 with ⟨hs, hs'⟩ | ⟨hs, hs'⟩
    ·have Hs := Lib.hid hs; clear hs
     go_wp2_with (go_at_call 19; refine (szInt64S_any _ _ _ _ hrow hlf0 hlf1).mono ?_; rintro e' w' ⟨rfl, rfl⟩; rw [Hs.out])
     go_ret
     exact ⟨ret_int (by rw [Hr.out, szR_step hkk, if_pos hs']), rfl⟩
    ·have Hs := Lib.hid hs; clear hs
     go_wp2_with (go_at_call 19; refine (szInt64S_any _ _ _ _ hrow hlf0 hlf1).mono ?_; rintro e' w' ⟨rfl, rfl⟩; rw [Hs.out])
     go_round
     case rel => exact ⟨k + 1, _, by omega, by go_num, rfl, by omega, by omega, by rw [Hr.out, szR_step hkk, if_neg (by omega)]⟩
     case measure => simp [intOf]; omega
   ·have hd : ls.drop k = [] := List.drop_of_length_le (by omega)
    have Hd := Lib.hid hd; clear hd
    go_wp2_with fail
    go_ret
    exact ⟨ret_int (by rw [Hr.out, Hd.out]; rfl), rfl⟩
theorem eqInt64S_q {S S' : Nat → Prop} (va vb : Value) (a b : List Int) (W : World) (ha : V1 S W va a) (hb : V1 S' W vb b) :
  Calls Try.prog 13 #[va, vb] W fun e' w' => e' = .returned (.bool (decide (a = b))) ∧ ∃ n, w' = W.drewN n := by
 have hA := ha
 have hB := hb
 obtain ⟨pa, ca, rfl, hma⟩ := ha.form
 obtain ⟨pb, cb, rfl, hmb⟩ := hb.form
 by_cases hl : a.length = b.length
 ·have hle : ((a.length : Int) == (b.length : Int)) = true := by simp; omega
  have hle2 : ((a.length : Int) != (b.length : Int)) = false := by simp; omega
  have Hl := Lib.hid hl; clear hl
  go_enter Try.func13, Try.ntmps13
  go_wp2_with fail
  go_loopw [5] (fun i wr => ∃ (k n : Nat), k ≤ a.length ∧ i = .int .i64 k ∧ a.take k = b.take k ∧ wr = W.drewN n) (fun i _ => a.length - (intOf i).toNat)
  case atStart => exact ⟨0, 0, Nat.zero_le _, rfl, rfl, rfl⟩
  case round =>
   obtain ⟨k, n, hk, rfl, hpre, rfl⟩ := hrel
   have Hpre := Lib.hid hpre; clear hpre
   by_cases hkk : k < a.length
   ·have hkb : k < b.length := by rw [← Hl.out]; exact hkk
    obtain ⟨b1, off1, rfl, _, hc1⟩ := hA.cell hkk
    obtain ⟨b2, off2, rfl, _, hc2⟩ := hB.cell hkb
    by_cases he : geti a k = geti b k
    ·have e1 : (geti a k == geti b k) = true := by simp [he]
     have e2 : (geti a k != geti b k) = false := by simp [he]
     have He := Lib.hid he; clear he
     go_wp2_with fail
     go_quiet (fail)
     go_wp2_with fail
     go_roundw
     case rel => exact ⟨k + 1, _, by omega, by go_num, by rw [take_geti hkk, take_geti hkb, Hpre.out, He.out], rfl⟩
     case measure => simp [intOf]; omega
    ·have hne : decide (a = b) = false := decide_eq_false (fun e => he (by rw [e]))
     have e1 : (geti a k == geti b k) = false := by simp [he]
     have e2 : (geti a k != geti b k) = true := by simp [he]
     have Hne := Lib.hid hne; clear hne
     have He := Lib.hid he; clear he
     go_wp2_with fail
     go_quiet (fail)
     go_wp2_with fail
     go_ret
     exact ⟨ret_bool Hne.out.symm, _, by first | rfl | rw [World.drewN_drewN]⟩
   ·have hab : a = b := by
     have := Hpre.out
     rw [List.take_of_length_le (by omega), List.take_of_length_le (by rw [← Hl.out]; omega)] at this
     exact this
    have heq : decide (a = b) = true := decide_eq_true hab
    have Heq := Lib.hid heq; clear heq hab
    go_wp2_with fail
    go_ret
    exact ⟨ret_bool Heq.out.symm, _, rfl⟩
 ·have hne : decide (a = b) = false := decide_eq_false (fun e => hl (by rw [e]))
  rw [hne]
  have hne2 : ((a.length : Int) == (b.length : Int)) = false := by simp; omega
  have hne3 : ((a.length : Int) != (b.length : Int)) = true := by simp; omega
  clear hne
  go_enter Try.func13, Try.ntmps13
  go_wp2_with fail
  go_ret
  exact ⟨rfl, 0, rfl⟩
theorem eqInt64S_b {S S' : Nat → Prop} (va vb : Value) (a b : List Int) (W : World) (r : Bool) (hr : decide (a = b) = r) (ha : V1 S W va a) (hb : V1 S' W vb b) :
  Calls Try.prog 13 #[va, vb] W fun e' w' => e' = .returned (.bool r) ∧ ∃ n, w' = W.drewN n := by
 subst hr; exact eqInt64S_q va vb a b W ha hb
theorem eqInt64SS_q {S S' : Nat → Prop} (va vb : Value) (a b : List (List Int)) (W : World) (ha : V2 S W va a) (hb : V2 S' W vb b) :
  Calls Try.prog 12 #[va, vb] W fun e' w' => e' = .returned (.bool (decide (a = b))) ∧ ∃ n, w' = W.drewN n := by
 have hA := ha
 have hB := hb
 obtain ⟨pa, ca, rfl, hma⟩ := ha.form
 obtain ⟨pb, cb, rfl, hmb⟩ := hb.form
 by_cases hl : a.length = b.length
 ·have hle : ((a.length : Int) == (b.length : Int)) = true := by simp; omega
  have hle2 : ((a.length : Int) != (b.length : Int)) = false := by simp; omega
  have Hl := Lib.hid hl; clear hl
  go_enter Try.func12, Try.ntmps12
  go_wp2_with fail
  go_loopw [5] (fun i wr => ∃ (k n : Nat), k ≤ a.length ∧ i = .int .i64 k ∧ a.take k = b.take k ∧ wr = W.drewN n) (fun i _ => a.length - (intOf i).toNat)
  case atStart => exact ⟨0, 0, Nat.zero_le _, rfl, rfl, rfl⟩
  case round =>
   obtain ⟨k, n, hk, rfl, hpre, rfl⟩ := hrel
   have Hpre := Lib.hid hpre; clear hpre
   by_cases hkk : k < a.length
   ·have hkb : k < b.length := by rw [← Hl.out]; exact hkk
    obtain ⟨b1, off1, a1, c1, rfl, _, hc1, hr1⟩ := hA.cell hkk
    obtain ⟨b2, off2, a2, c2, rfl, _, hc2, hr2⟩ := hB.cell hkb
    by_cases he : getl a k = getl b k
    ·have e1 : decide (getl a k = getl b k) = true := decide_eq_true he
     have He := Lib.hid he; clear he
     have E1 := Lib.hid e1; clear e1
     go_wp2_with fail
     go_quiet ((go_at_call 13; exact quiet_at (eqInt64S_b _ _ _ _ _ _ E1.out (V1.drewN hr1) (V1.drewN hr2))))
     go_wp2_with fail
     go_roundw
     case rel => exact ⟨k + 1, _, by omega, by go_num, by rw [take_getl hkk, take_getl hkb, Hpre.out, He.out], by first | rfl | rw [World.drewN_drewN]⟩
     case measure => simp [intOf]; omega
    ·have hne : decide (a = b) = false := decide_eq_false (fun e => he (by rw [e]))
     have e1 : decide (getl a k = getl b k) = false := decide_eq_false he
     have Hne := Lib.hid hne; clear hne
     have He := Lib.hid he; clear he
     have E1 := Lib.hid e1; clear e1
     go_wp2_with fail
     go_quiet ((go_at_call 13; exact quiet_at (eqInt64S_b _ _ _ _ _ _ E1.out (V1.drewN hr1) (V1.drewN hr2))))
     go_wp2_with fail
     go_ret
     exact ⟨ret_bool Hne.out.symm, _, by first | rfl | rw [World.drewN_drewN]⟩
   ·have hab : a = b := by
     have := Hpre.out
     rw [List.take_of_length_le (by omega), List.take_of_length_le (by rw [← Hl.out]; omega)] at this
     exact this
    have heq : decide (a = b) = true := decide_eq_true hab
    have Heq := Lib.hid heq; clear heq hab
    go_wp2_with fail
    go_ret
    exact ⟨ret_bool Heq.out.symm, _, rfl⟩
 ·have hne : decide (a = b) = false := decide_eq_false (fun e => hl (by rw [e]))
  rw [hne]
  have hne2 : ((a.length : Int) == (b.length : Int)) = false := by simp; omega
  have hne3 : ((a.length : Int) != (b.length : Int)) = true := by simp; omega
  clear hne
  go_enter Try.func12, Try.ntmps12
  go_wp2_with fail
  go_ret
  exact ⟨rfl, 0, rfl⟩
theorem eqInt64SS_b {S S' : Nat → Prop} (va vb : Value) (a b : List (List Int)) (W : World) (r : Bool) (hr : decide (a = b) = r) (ha : V2 S W va a) (hb : V2 S' W vb b) :
  Calls Try.prog 12 #[va, vb] W fun e' w' => e' = .returned (.bool r) ∧ ∃ n, w' = W.drewN n := by
 subst hr; exact eqInt64SS_q va vb a b W ha hb
theorem inf_int : (Try.prog.info? 2).map (fun i => (i.zero, i.size, i.bytes)) = some (some (.int .i64 0), 1, 8) := by kernel_rfl
theorem inf_ints : (Try.prog.info? 27).map (fun i => (i.zero, i.size, i.bytes)) = some (some (.slice none 0 0), 1, 24) := by kernel_rfl
theorem toInt64S_any {S : Nat → Prop} (v : Value) (l : List Int) (W : World) (h : V1 S W v l) (hlen : l.length ≤ 1048576) :
  Calls Try.prog 9 #[v] W fun e' w' => ∃ v', e' = .returned v' ∧ X1 w' v' l W.heap.size ∧ W.heap.size < w'.heap.size ∧ Below W.heap.size W w' := by
 have hV := h
 obtain ⟨a, c, rfl, hm⟩ := h.form
 go_enter Try.func9, Try.ntmps9
 go_wp2_with (at_make; refine wp_mk _ rfl _ _ 27 rfl 2 (.int .i64 0) 1 8 Try.underlying27 inf_int l.length rfl rfl (by omega) (by omega) ?_; intro w1 cs0 hh0 hs0 _ hB0 hsz0)
 go_loopw [4] (fun i wr => ∃ (k : Nat) (cs : Array Value), k ≤ l.length ∧ i = .int .i64 k ∧ wr.heap[W.heap.size]? = some (.cells cs 2 (0, 0)) ∧ cs.size = l.length ∧ (∀ j, j < k → cs[j]? = some (.int .i64 (geti l j))) ∧ Below W.heap.size W wr) (fun i _ => l.length - (intOf i).toNat)
 case atStart => exact ⟨0, cs0, Nat.zero_le _, rfl, hh0, by omega, fun j hj => by omega, hB0⟩
 case round =>
  obtain ⟨k, cs, hk, rfl, hh, hs, hcs, hB⟩ := hrel
  by_cases hkk : k < l.length
  ·obtain ⟨b1, off1, rfl, _, hc1⟩ := (hV.below hB).cell hkk
   obtain ⟨u0, hco⟩ : ∃ u0, wr.cell? ⟨W.heap.size, k, none⟩ = some u0 := ⟨cs[k]'(by omega), by rw [cell_of_block hh]; exact Array.getElem?_eq_getElem (by omega)⟩
   have hfo := frozen_of_block hh k
   have Hh := Lib.hid hh; clear hh
   have Hcs := Lib.hid hcs; clear hcs
   have Hs := Lib.hid hs; clear hs
   go_wp2_with fail
   go_roundw
   case rel =>
    refine ⟨k + 1, cs.setIfInBounds k (.int .i64 (geti l k)), by omega, by go_num, heap_setCell_self Hh.out _, by simp [Hs.out], fun j hj => ?_, by (repeat (first | (with_reducible refine Below.setCell ?_ ?_ _) | (with_reducible refine Below.alloc ?_ ?_ _) | (with_reducible refine Below.drew ?_) | (with_reducible refine below_drewN ?_ _) | (with_reducible exact Below.refl _ _) | (with_reducible assumption) | (with_reducible refine Below.trans ?_ (Below.mono (by with_reducible assumption) ?_)) | go_size))⟩
    rw [Array.getElem?_setIfInBounds]
    split
    ·rename_i e; subst e; simp [Hs.out, hkk]
    ·exact Hcs.out j (by omega)
   case measure => simp [intOf]; omega
  ·have Hh := Lib.hid hh; clear hh
   have Hcs := Lib.hid hcs; clear hcs
   have Hs := Lib.hid hs; clear hs
   go_wp2_with fail
   go_ret
   refine ⟨_, rfl, ⟨_, _, rfl, Nat.le_refl _, by unfold maxLen; omega, fun hn => ⟨0, cs, _, rfl, Hh.out, fun j hj => by rw [Nat.zero_add]; exact Hcs.out j (by omega)⟩⟩, lt_of_heap Hh.out, hB⟩
/-- How far a copy of rows has come. -/
structure CopyRel (B : Nat) (w : World) (cs : Array Value) (ls : List (List Int)) (k : Nat) (bk : Nat → Nat) : Prop where
 heap : w.heap[B]? = some (.cells cs 27 (0, 0))
 size : cs.size = ls.length
 rows : ∀ j, j < k → ∃ rv, cs[j]? = some rv ∧ X1 w rv (getl ls j) (bk j)
 at_ : ∀ j, j < k → B < bk j ∧ bk j < w.heap.size
 inc : ∀ i j, i < j → j < k → bk i < bk j
theorem CopyRel.done {B : Nat} {w : World} {cs : Array Value} {ls : List (List Int)} {bk : Nat → Nat} (h : CopyRel B w cs ls ls.length bk) (hl : ls.length ≤ 1048576) : X2 w (.slice (some ⟨B, 0, none⟩) ls.length ls.length) ls B bk := by
 refine ⟨_, _, rfl, Nat.le_refl _, by unfold maxLen; omega, fun _ => ⟨0, cs, _, rfl, h.heap, fun k hk => by rw [Nat.zero_add]; exact h.rows k hk⟩, fun k hk _ => ⟨by have := (h.at_ k hk).1; omega, fun j hj hne _ => ?_⟩⟩
 rcases Nat.lt_or_gt_of_ne hne with h1 | h1
 ·have := h.inc j k h1 hk; omega
 ·have := h.inc k j h1 hj; omega
theorem CopyRel.step {B : Nat} {w w1 w2 : World} {cs : Array Value} {ls : List (List Int)} {k : Nat} {bk : Nat → Nat} {rv : Value} (h : CopyRel B w cs ls k bk) (hk : k < ls.length) (hB : B < w.heap.size)
  (hb : Below w.heap.size w w1) (hx : X1 w1 rv (getl ls k) w.heap.size) (hsz : w.heap.size < w1.heap.size) (hw2 : w2 = w1.setCell ⟨B, k, none⟩ rv) :
  CopyRel B w2 (cs.setIfInBounds k rv) ls (k + 1) (fun j => if j < k then bk j else w.heap.size) := by
 subst hw2
 have h1 : w1.heap[B]? = some (.cells cs 27 (0, 0)) := heap_below h.heap hb hB
 have hs2 : (w1.setCell ⟨B, k, none⟩ rv).heap.size = w1.heap.size := by simp [World.setCell]
 refine ⟨heap_setCell_self h1 rv, by simp [h.size], fun j hj => ?_, fun j hj => ?_, fun i j hij hj => ?_⟩
 ·rw [Array.getElem?_setIfInBounds]
  by_cases e : k = j
  ·subst e
   refine ⟨rv, by simp [h.size, hk], ?_⟩
   rw [if_neg (by omega)]
   exact hx.keep fun _ => heap_setCell_other _ (by omega)
  ·rw [if_neg e, if_pos (by omega : j < k)]
   obtain ⟨u, hu, hxu⟩ := h.rows j (by omega)
   have ha := h.at_ j (by omega)
   exact ⟨u, hu, (hxu.keep fun _ => hb.block _ ha.2).keep fun _ => heap_setCell_other _ (by omega)⟩
 ·rw [hs2]
  split
  ·have ha := h.at_ j (by omega); omega
  ·omega
 ·have hjk : j ≤ k := by omega
  simp only [show i < k from by omega, if_true]
  split
  ·exact h.inc i j hij (by omega)
  ·exact (h.at_ i (by omega)).2
theorem toInt64SS_any {S : Nat → Prop} (v : Value) (ls : List (List Int)) (W : World) (h : V2 S W v ls) (hlen : ls.length ≤ 1048576) (hrow : ∀ r ∈ ls, r.length ≤ 1048576) :
  Calls Try.prog 8 #[v] W fun e' w' => ∃ v' bk, e' = .returned v' ∧ X2 w' v' ls W.heap.size bk ∧ (∀ k, k < ls.length → W.heap.size < bk k) ∧ (W.heap.size < w'.heap.size ∧ PV v') ∧ Below W.heap.size W w' := by
 have hV := h
 obtain ⟨a, c, rfl, hm⟩ := h.form
 have Hrow := Lib.hid hrow; clear hrow
 go_enter Try.func8, Try.ntmps8
 go_wp2_with (at_make; refine wp_mk _ rfl _ _ 24 rfl 27 (.slice none 0 0) 1 24 Try.underlying24 inf_ints ls.length rfl rfl (by omega) (by omega) ?_; intro w1 cs0 hh0 hs0 _ hB0 hsz0)
 go_loopw [4] (fun i wr => ∃ (k : Nat) (cs : Array Value) (bk : Nat → Nat), k ≤ ls.length ∧ i = .int .i64 k ∧ CopyRel W.heap.size wr cs ls k bk ∧ W.heap.size < wr.heap.size ∧ Below W.heap.size W wr) (fun i _ => ls.length - (intOf i).toNat)
 case atStart => exact ⟨0, cs0, fun _ => 0, Nat.zero_le _, rfl, ⟨hh0, by omega, fun j hj => by omega, fun j hj => by omega, fun i j _ hj => by omega⟩, hsz0, hB0⟩
 case round =>
  obtain ⟨k, cs, bk, hk, rfl, hR, hsz, hB⟩ := hrel
  by_cases hkk : k < ls.length
  ·obtain ⟨b1, off1, a1, c1, rfl, _, hc1, hr1⟩ := (hV.below hB).cell hkk
   have hrl : (getl ls k).length ≤ 1048576 := Hrow.out _ (getl_mem hkk)
   have HR := Lib.hid hR; clear hR
   go_wp2_with fail
   refine (toInt64S_any _ _ _ hr1 hrl).mono ?_
   rintro e' w2 ⟨rv, rfl, hx, hsz2, hb2⟩
   have hh2 := heap_below HR.out.heap hb2 hsz
   obtain ⟨u0, hco⟩ : ∃ u0, w2.cell? ⟨W.heap.size, k, none⟩ = some u0 := ⟨cs[k]'(by have := HR.out.size; omega), by rw [cell_of_block hh2]; exact Array.getElem?_eq_getElem (by have := HR.out.size; omega)⟩
   have hfo := frozen_of_block hh2 k
   clear hh2
   have hx' := hx
   obtain ⟨a2, c2, rfl, _⟩ := hx'
   have Hx := Lib.hid hx; clear hx
   go_wp2_with fail
   go_roundw
   case rel => exact ⟨k + 1, _, _, by omega, by go_num, HR.out.step hkk hsz hb2 Hx.out hsz2 rfl, by simp; omega, by (repeat (first | (with_reducible refine Below.setCell ?_ ?_ _) | (with_reducible refine Below.alloc ?_ ?_ _) | (with_reducible refine Below.drew ?_) | (with_reducible refine below_drewN ?_ _) | (with_reducible exact Below.refl _ _) | (with_reducible assumption) | (with_reducible refine Below.trans ?_ (Below.mono (by with_reducible assumption) ?_)) | go_size))⟩
   case measure => simp [intOf]; omega
  ·obtain rfl : k = ls.length := by omega
   have HR := Lib.hid hR; clear hR
   go_wp2_with fail
   go_ret
   exact ⟨_, bk, rfl, HR.out.done hlen, fun j hj => (HR.out.at_ j hj).1, ⟨hsz, .inr ⟨_, _, _, _, rfl⟩⟩, hB⟩
theorem within_any (n lo hi : Int) (w : World) :
  Calls Try.prog 49 #[.int .i64 n, .int .i64 lo, .int .i64 hi] w fun e w' => e = .returned (.bool (inB n lo hi)) ∧ w = w' := by
 go_enter Try.func49, Try.ntmps49
 go_wp2
 all_goals go_ret
 all_goals refine ⟨?_, rfl⟩
 all_goals simp [inB]
 all_goals omega
theorem l01In_any (n lo hi : Int) (w : World) :
  Calls Try.prog 45 #[.int .i64 n, .int .i64 lo, .int .i64 hi] w fun e w' => e = .returned (.bool (inB n lo hi)) ∧ w = w' := by
 go_enter Try.func45, Try.ntmps45
 go_wp2
 all_goals go_ret
 all_goals refine ⟨?_, rfl⟩
 all_goals simp [inB]
 all_goals omega
theorem within_b (n lo hi : Int) (w : World) (r : Bool) (hr : inB n lo hi = r) :
  Calls Try.prog 49 #[.int .i64 n, .int .i64 lo, .int .i64 hi] w fun e w' => e = .returned (.bool r) ∧ w = w' := by subst hr; exact within_any _ _ _ _
theorem l01In_b (n lo hi : Int) (w : World) (r : Bool) (hr : inB n lo hi = r) :
  Calls Try.prog 45 #[.int .i64 n, .int .i64 lo, .int .i64 hi] w fun e w' => e = .returned (.bool r) ∧ w = w' := by subst hr; exact l01In_any _ _ _ _
theorem isMaker_any (c d s e l : Int) (w : World) :
  Calls Try.prog 39 #[.agg #[.int .i64 c, .int .i64 d, .int .i64 s, .int .i64 e, .int .i64 l]] w fun e' w' => e' = .returned (.bool (isMk c d s e l)) ∧ Below w.heap.size w w' := by
 have hw : inB d 2 8 = true → wrap64 (d - 1) = d - 1 := fun h => by rw [inB_iff] at h; exact IntWalk.wrap64_in _ ⟨by omega, by omega⟩
 have HW := Lib.hid hw; clear hw
 go_enter Try.func39, Try.ntmps39
 go_wp2_with (go_at_call 49; refine (within_any _ _ _ _).mono ?_; rintro e w' ⟨rfl, rfl⟩)
 all_goals go_ret
 all_goals refine ⟨?_, by go_grown⟩
 all_goals simp_all [isMk, Int.min_def, HW.out]
 rw [if_neg (by omega)]
theorem isMakerR_any (c d s e l : Int) (w : World) :
  Calls Try.prog 36 #[.agg #[.int .i64 c, .int .i64 d, .int .i64 s, .int .i64 e, .int .i64 l]] w fun e' w' => e' = .returned (.bool (isMk c d s e l)) ∧ Below w.heap.size w w' := by
 have hw : inB d 2 8 = true → wrap64 (d - 1) = d - 1 := fun h => by rw [inB_iff] at h; exact IntWalk.wrap64_in _ ⟨by omega, by omega⟩
 have HW := Lib.hid hw; clear hw
 go_enter Try.func36, Try.ntmps36
 go_wp2_with (go_at_call 45; refine (l01In_any _ _ _ _).mono ?_; rintro e w' ⟨rfl, rfl⟩)
 all_goals go_ret
 all_goals refine ⟨?_, by go_grown⟩
 all_goals simp_all [isMk, Int.min_def, HW.out]
 rw [if_neg (by omega)]
theorem toMaker_any (c d s e l : Int) (w : World) :
  Calls Try.prog 23 #[.agg #[.int .i64 c, .int .i64 d, .int .i64 s, .int .i64 e, .int .i64 l]] w fun e' w' => e' = .returned (.agg #[.int .i64 c, .int .i64 d, .int .i64 s, .int .i64 e, .int .i64 l]) ∧ Below w.heap.size w w' := by
 go_enter Try.func23, Try.ntmps23
 go_wp2
 exact bodyPost_ret (v := .agg #[.int .i64 c, .int .i64 d, .int .i64 s, .int .i64 e, .int .i64 l]) (by simp [results, Try.results23, go_sem]) rfl ⟨rfl, by go_grown⟩
theorem any_step {α : Type} (p : α → Bool) {l : List α} {k : Nat} (h : k < l.length) : (l.drop k).any p = (p l[k] || (l.drop (k + 1)).any p) := by
 rw [List.drop_eq_getElem_cons h, List.any_cons]
def allB (l : List Int) (lo hi : Int) : Bool := l.all fun n => inB n lo hi
theorem allB_step {l : List Int} {k : Nat} (h : k < l.length) (lo hi : Int) : allB (l.drop k) lo hi = (inB (geti l k) lo hi && allB (l.drop (k + 1)) lo hi) := all_stepi _ h
theorem allB_iff {l : List Int} {lo hi : Int} : allB l lo hi = true ↔ ∀ n ∈ l, lo ≤ n ∧ n ≤ hi := by simp [allB, inB_iff]
theorem allWithin_any {S : Nat → Prop} (v : Value) (l : List Int) (lo hi : Int) (W : World) (h : V1 S W v l) :
  Calls Try.prog 50 #[v, .int .i64 lo, .int .i64 hi] W fun e' w' => e' = .returned (.bool (allB l lo hi)) ∧ W = w' := by
 have hV := h
 obtain ⟨a, c, rfl, hm⟩ := h.form
 go_enter Try.func50, Try.ntmps50
 go_wp2_with fail
 go_loop [8, 11] (fun _ i => ∃ k : Nat, k ≤ l.length ∧ i = .int .i64 k ∧ allB l lo hi = allB (l.drop k) lo hi) (fun _ i => l.length - (intOf i).toNat)
 case atStart => exact ⟨0, Nat.zero_le _, rfl, rfl⟩
 case round =>
  obtain ⟨k, hk, rfl, hrem⟩ := hrel
  have Hr := Lib.hid hrem; clear hrem
  by_cases hkk : k < l.length
  ·obtain ⟨b1, off1, rfl, _, hc1⟩ := hV.cell hkk
   cases hin : inB (geti l k) lo hi
   ·have E1 := Lib.hid hin; clear hin
    go_wp2_with (go_at_call 49; refine (within_b _ _ _ _ _ E1.out).mono ?_; rintro e' w' ⟨rfl, rfl⟩)
    go_ret
    exact ⟨ret_bool (by rw [Hr.out, allB_step hkk, E1.out]; rfl), rfl⟩
   ·have E1 := Lib.hid hin; clear hin
    go_wp2_with (go_at_call 49; refine (within_b _ _ _ _ _ E1.out).mono ?_; rintro e' w' ⟨rfl, rfl⟩)
    go_round
    case rel => exact ⟨k + 1, by omega, by go_num, by rw [Hr.out, allB_step hkk, E1.out]; rfl⟩
    case measure => simp [intOf]; omega
  ·have hd : l.drop k = [] := List.drop_of_length_le (by omega)
   have Hd := Lib.hid hd; clear hd
   go_wp2_with fail
   go_ret
   exact ⟨ret_bool (by rw [Hr.out, Hd.out]; rfl), rfl⟩
theorem allWithin_b {S : Nat → Prop} (v : Value) (l : List Int) (lo hi : Int) (W : World) (r : Bool) (hr : allB l lo hi = r) (h : V1 S W v l) :
  Calls Try.prog 50 #[v, .int .i64 lo, .int .i64 hi] W fun e' w' => e' = .returned (.bool r) ∧ W = w' := by subst hr; exact allWithin_any v l lo hi W h
/-- A row of a table of n columns; a table. -/
def rowOk (n : Nat) (r : List Int) : Bool := decide (r.length = n) && inB r.length 1 12 && allB r 0 1
def isTab (t : List (List Int)) : Bool := inB t.length 1 10 && t.all (rowOk (getl t 0).length)
def rowsOk (n : Nat) (t : List (List Int)) : Bool := t.all (rowOk n)
theorem rowsOk_step {n : Nat} {t : List (List Int)} {k : Nat} (h : k < t.length) : rowsOk n (t.drop k) = (rowOk n (getl t k) && rowsOk n (t.drop (k + 1))) := all_stepl _ h
theorem isTable_any {S : Nat → Prop} (v : Value) (t : List (List Int)) (W : World) (h : V2 S W v t) :
  Calls Try.prog 40 #[v] W fun e' w' => e' = .returned (.bool (isTab t)) ∧ W = w' := by
 have hV := h
 obtain ⟨a, c, rfl, hm⟩ := h.form
 have hfin : isTab t = (inB t.length 1 10 && rowsOk (getl t 0).length t) := rfl
 have Hf := Lib.hid hfin; clear hfin
 go_enter Try.func40, Try.ntmps40
 go_wp2_with fail
 go_loop [4, 7] (fun _ i => ∃ k : Nat, k ≤ t.length ∧ i = .int .i64 k ∧ rowsOk (getl t 0).length t = rowsOk (getl t 0).length (t.drop k)) (fun _ i => t.length - (intOf i).toNat)
 case atStart => exact ⟨0, Nat.zero_le _, rfl, rfl⟩
 case round =>
  obtain ⟨k, hk, rfl, hrem⟩ := hrel
  have Hr := Lib.hid hrem; clear hrem
  by_cases hkk : k < t.length
  ·obtain ⟨b1, off1, a1, c1, rfl, _, hc1, hr1⟩ := hV.cell hkk
   obtain ⟨b2, off2, a2, c2, e2, _, hc2, hr2⟩ := hV.cell (k := 0) (by omega)
   simp only [Option.some.injEq, Addr.mk.injEq, and_true] at e2
   obtain ⟨rfl, rfl⟩ := e2
   simp only [Nat.add_zero] at hc2
   have hl1 := hr1.len
   have hl2 := hr2.len
   unfold maxLen at hl1 hl2
   by_cases h1 : (getl t k).length = (getl t 0).length
   ·have e1 : (((getl t k).length : Int) == ((getl t 0).length : Int)) = true := by simp; omega
    have e2 : (((getl t k).length : Int) != ((getl t 0).length : Int)) = false := by simp; omega
    by_cases h2 : 1 ≤ (getl t k).length ∧ (getl t k).length ≤ 12
    ·cases h3 : allB (getl t k) 0 1
     ·have hrow : rowOk (getl t 0).length (getl t k) = false := by simp [rowOk, h3]
      have Hrow := Lib.hid hrow; clear hrow
      have H3 := Lib.hid h3; clear h3
      have H1 := Lib.hid h1; clear h1
      obtain ⟨h2a, h2b⟩ := h2
      go_wp2_with (go_at_call 50; refine (allWithin_b _ _ _ _ _ _ H3.out hr1).mono ?_; rintro e' w' ⟨rfl, rfl⟩)
      go_ret
      exact ⟨ret_bool (by rw [Hf.out, Hr.out, rowsOk_step hkk, Hrow.out]; simp), rfl⟩
     ·have hrow : rowOk (getl t 0).length (getl t k) = true := by simp [rowOk, h3, h1, inB_iff]; omega
      have Hrow := Lib.hid hrow; clear hrow
      have H3 := Lib.hid h3; clear h3
      have H1 := Lib.hid h1; clear h1
      obtain ⟨h2a, h2b⟩ := h2
      go_wp2_with (go_at_call 50; refine (allWithin_b _ _ _ _ _ _ H3.out hr1).mono ?_; rintro e' w' ⟨rfl, rfl⟩)
      go_round
      case rel => exact ⟨k + 1, by omega, by go_num, by rw [Hr.out, rowsOk_step hkk, Hrow.out]; rfl⟩
      case measure => simp [intOf]; omega
    ·have hrow : rowOk (getl t 0).length (getl t k) = false := by
      have : inB (getl t k).length 1 12 = false := inB_false.2 (by omega)
      simp [rowOk, this]
     have Hrow := Lib.hid hrow; clear hrow
     have H1 := Lib.hid h1; clear h1
     by_cases h4 : (getl t k).length < 1
     ·go_wp2_with fail
      go_ret
      exact ⟨ret_bool (by rw [Hf.out, Hr.out, rowsOk_step hkk, Hrow.out]; simp), rfl⟩
     ·have h5 : 12 < (getl t k).length := by omega
      clear h2
      go_wp2_with fail
      go_ret
      exact ⟨ret_bool (by rw [Hf.out, Hr.out, rowsOk_step hkk, Hrow.out]; simp), rfl⟩
   ·have e1 : (((getl t k).length : Int) == ((getl t 0).length : Int)) = false := by simp; omega
    have e2 : (((getl t k).length : Int) != ((getl t 0).length : Int)) = true := by simp; omega
    have hrow : rowOk (getl t 0).length (getl t k) = false := by simp [rowOk, h1]
    have Hrow := Lib.hid hrow; clear hrow
    go_wp2_with fail
    go_ret
    exact ⟨ret_bool (by rw [Hf.out, Hr.out, rowsOk_step hkk, Hrow.out]; simp), rfl⟩
  ·have hd : t.drop k = [] := List.drop_of_length_le (by omega)
   have Hd := Lib.hid hd; clear hd
   go_wp2_with fail
   all_goals go_ret
   ·exact ⟨ret_bool (by rw [Hf.out, Hr.out, Hd.out]; simp [rowsOk, inB]; omega), rfl⟩
   ·exact ⟨ret_bool (by rw [Hf.out, Hr.out, Hd.out]; simp [rowsOk, inB]; omega), rfl⟩
theorem isTableR_q {S : Nat → Prop} (v : Value) (t : List (List Int)) (W : World) (h : V2 S W v t) :
  Calls Try.prog 37 #[v] W fun e' w' => e' = .returned (.bool (isTab t)) ∧ ∃ n, w' = W.drewN n := by
 have hV := h
 obtain ⟨a, c, rfl, hm⟩ := h.form
 have hfin : isTab t = (inB t.length 1 10 && rowsOk (getl t 0).length t) := rfl
 have Hf := Lib.hid hfin; clear hfin
 cases h0 : inB t.length 1 10
 ·have H0 := Lib.hid h0; clear h0
  go_enter Try.func37, Try.ntmps37
  go_wp2_with (go_at_call 45; refine (l01In_b _ _ _ _ _ H0.out).mono ?_; rintro e' w' ⟨rfl, rfl⟩)
  go_ret
  exact ⟨ret_bool (by rw [Hf.out, H0.out]; rfl), 0, rfl⟩
 ·have H0 := Lib.hid h0; clear h0
  go_enter Try.func37, Try.ntmps37
  go_wp2_with (go_at_call 45; refine (l01In_b _ _ _ _ _ H0.out).mono ?_; rintro e' w' ⟨rfl, rfl⟩)
  go_loopw [3] (fun i wr => ∃ k n : Nat, k ≤ t.length ∧ i = .int .i64 k ∧ rowsOk (getl t 0).length t = rowsOk (getl t 0).length (t.drop k) ∧ wr = W.drewN n) (fun i _ => t.length - (intOf i).toNat)
  case atStart => exact ⟨0, 0, Nat.zero_le _, rfl, rfl, rfl⟩
  case round =>
   obtain ⟨k, n, hk, rfl, hrem, rfl⟩ := hrel
   have Hr := Lib.hid hrem; clear hrem
   by_cases hkk : k < t.length
   ·obtain ⟨b1, off1, a1, c1, rfl, _, hc1, hr1⟩ := hV.cell hkk
    obtain ⟨b2, off2, a2, c2, e2, _, hc2, hr2⟩ := hV.cell (k := 0) (by omega)
    simp only [Option.some.injEq, Addr.mk.injEq, and_true] at e2
    obtain ⟨rfl, rfl⟩ := e2
    simp only [Nat.add_zero] at hc2
    have hl1 := hr1.len
    have hl2 := hr2.len
    unfold maxLen at hl1 hl2
    by_cases h1 : (getl t k).length = (getl t 0).length
    ·have e1 : (((getl t k).length : Int) == ((getl t 0).length : Int)) = true := by simp; omega
     have e2 : (((getl t k).length : Int) != ((getl t 0).length : Int)) = false := by simp; omega
     cases h2 : inB (getl t k).length 1 12
     ·have hrow : rowOk (getl t 0).length (getl t k) = false := by simp [rowOk, h2]
      have Hrow := Lib.hid hrow; clear hrow
      have H2 := Lib.hid h2; clear h2
      have H1 := Lib.hid h1; clear h1
      go_wp2_with fail
      go_quiet ((go_at_call 45; first | exact quiet_same (l01In_b _ _ _ _ _ H2.out) | exact quiet_same0 (l01In_b _ _ _ _ _ H2.out)))
      go_wp2_with fail
      go_ret
      exact ⟨ret_bool (by rw [Hf.out, Hr.out, rowsOk_step hkk, Hrow.out]; simp), _, by first | rfl | rw [World.drewN_drewN]⟩
     ·have hrow : rowOk (getl t 0).length (getl t k) = allB (getl t k) 0 1 := by simp [rowOk, h1, h2]; intro _; rw [← h1, h2]
      have Hrow := Lib.hid hrow; clear hrow
      have H2 := Lib.hid h2; clear h2
      have H1 := Lib.hid h1; clear h1
      go_wp2_with fail
      go_quiet ((go_at_call 45; first | exact quiet_same (l01In_b _ _ _ _ _ H2.out) | exact quiet_same0 (l01In_b _ _ _ _ _ H2.out)))
      go_wp2_with fail
      go_loopw [4] (fun j wr => ∃ m n' : Nat, m ≤ (getl t k).length ∧ j = .int .i64 m ∧ allB (getl t k) 0 1 = allB ((getl t k).drop m) 0 1 ∧ wr = W.drewN n') (fun j _ => (getl t k).length - (intOf j).toNat)
      case atStart => exact ⟨0, _, Nat.zero_le _, rfl, rfl, by first | rfl | rw [World.drewN_drewN]⟩
      case round =>
       obtain ⟨m, n', hmm, rfl, hremj, rfl⟩ := hrel
       have Hj := Lib.hid hremj; clear hremj
       by_cases hmk : m < (getl t k).length
       ·obtain ⟨b3, off3, rfl, _, hc3⟩ := hr1.cell hmk
        cases hin : inB (geti (getl t k) m) 0 1
        ·have E1 := Lib.hid hin; clear hin
         go_wp2_with (go_at_call 45; refine (l01In_b _ _ _ _ _ E1.out).mono ?_; rintro e' w' ⟨rfl, rfl⟩)
         go_ret
         exact ⟨ret_bool (by rw [Hf.out, Hr.out, rowsOk_step hkk, Hrow.out, Hj.out, allB_step hmk, E1.out]; simp), _, by first | rfl | rw [World.drewN_drewN]⟩
        ·have E1 := Lib.hid hin; clear hin
         go_wp2_with (go_at_call 45; refine (l01In_b _ _ _ _ _ E1.out).mono ?_; rintro e' w' ⟨rfl, rfl⟩)
         go_roundw
         case rel => exact ⟨m + 1, _, by omega, by go_num, by rw [Hj.out, allB_step hmk, E1.out]; rfl, by first | rfl | rw [World.drewN_drewN]⟩
         case measure => simp [intOf]; omega
       ·have hd : (getl t k).drop m = [] := List.drop_of_length_le (by omega)
        have Hd := Lib.hid hd; clear hd
        go_wp2_with fail
        go_roundw
        case rel => exact ⟨k + 1, _, by omega, by go_num, by rw [Hr.out, rowsOk_step hkk, Hrow.out, Hj.out, Hd.out]; rfl, by first | rfl | rw [World.drewN_drewN]⟩
        case measure => simp [intOf]; omega
    ·have e1 : (((getl t k).length : Int) == ((getl t 0).length : Int)) = false := by simp; omega
     have e2 : (((getl t k).length : Int) != ((getl t 0).length : Int)) = true := by simp; omega
     have hrow : rowOk (getl t 0).length (getl t k) = false := by simp [rowOk, h1]
     have Hrow := Lib.hid hrow; clear hrow
     go_wp2_with fail
     go_quiet (fail)
     go_wp2_with fail
     go_ret
     exact ⟨ret_bool (by rw [Hf.out, Hr.out, rowsOk_step hkk, Hrow.out]; simp), _, by first | rfl | rw [World.drewN_drewN]⟩
   ·have hd : t.drop k = [] := List.drop_of_length_le (by omega)
    have Hd := Lib.hid hd; clear hd
    go_wp2_with fail
    go_ret
    exact ⟨ret_bool (by rw [Hf.out, Hr.out, Hd.out, H0.out]; rfl), _, by first | rfl | rw [World.drewN_drewN]⟩
theorem isTable_b {S : Nat → Prop} (v : Value) (t : List (List Int)) (W : World) (r : Bool) (hr : isTab t = r) (h : V2 S W v t) :
  Calls Try.prog 40 #[v] W fun e' w' => e' = .returned (.bool r) ∧ W = w' := by subst hr; exact isTable_any v t W h
theorem isTableR_b {S : Nat → Prop} (v : Value) (t : List (List Int)) (W : World) (r : Bool) (hr : isTab t = r) (h : V2 S W v t) :
  Calls Try.prog 37 #[v] W fun e' w' => e' = .returned (.bool r) ∧ ∃ n, w' = W.drewN n := by subst hr; exact isTableR_q v t W h
/-- The function f may be entered. -/
def Enters (f : FuncId) : Prop := ∀ (args : Array Value) (w : World), Sem.run Try.prog (callFunc f args) w = .ok (.enter f args) w
/-- A function value that answers g of a list, and makes at most new memory. -/
def PredL (f : FuncId) (caps : Array Value) (W : World) (g : List Int → Bool) : Prop :=
 ∀ (S : Nat → Prop) (w : World) (v : Value) (l : List Int), Below W.heap.size W w → V1 S w v l → Calls Try.prog f (#[v] ++ caps) w fun e w' => e = .returned (.bool (g l)) ∧ Below w.heap.size w w'
def idxR {α : Type} (g : α → Bool) : List α → Nat → Int
 | [], _ => -1
 | x :: xs, k => if g x then k else idxR g xs (k + 1)
theorem idxR_step {g : List Int → Bool} {ls : List (List Int)} {k : Nat} (h : k < ls.length) : idxR g (ls.drop k) k = if g (getl ls k) then (k : Int) else idxR g (ls.drop (k + 1)) (k + 1) := by
 rw [List.drop_eq_getElem_cons h, idxR, getl_eq h]
theorem idxR_any {α : Type} (g : α → Bool) : ∀ (l : List α) (k : Nat), decide (0 ≤ idxR g l k) = l.any g ∧ (idxR g l k = -1 ∨ (k : Int) ≤ idxR g l k)
 | [], k => ⟨by simp [idxR], .inl rfl⟩
 | x :: xs, k => by
   have ih := idxR_any g xs (k + 1)
   unfold idxR
   by_cases hx : g x = true
   ·simp [hx]
   ·simp only [hx, if_false, List.any_cons]
    exact ⟨by simpa using ih.1, by rcases ih.2 with h | h; exact .inl h; right; omega⟩
theorem indexFunc_any {S : Nat → Prop} (v : Value) (ls : List (List Int)) (f : FuncId) (caps : Array Value) (g : List Int → Bool) (W : World) (h : V2 S W v ls) (hf : Enters f) (hp : PredL f caps W g) :
  Calls Try.prog 51 #[v, .func (.func f) #[] caps] W fun e' w' => e' = .returned (.int .i64 (idxR g ls 0)) ∧ Below W.heap.size W w' := by
 have hV := h
 obtain ⟨a, c, rfl, hm⟩ := h.form
 have Hp := Lib.hid hp; clear hp
 go_enter Try.func51, Try.ntmps51
 go_wp2_with fail
 go_loopw [5, 8] (fun _ i wr => ∃ k : Nat, k ≤ ls.length ∧ i = .int .i64 k ∧ idxR g ls 0 = idxR g (ls.drop k) k ∧ Below W.heap.size W wr) (fun _ i _ => ls.length - (intOf i).toNat)
 case atStart => exact ⟨0, Nat.zero_le _, rfl, rfl, Below.refl _ _⟩
 case round =>
  obtain ⟨k, hk, rfl, hrem, hB⟩ := hrel
  have Hr := Lib.hid hrem; clear hrem
  by_cases hkk : k < ls.length
  ·obtain ⟨b1, off1, a1, c1, rfl, _, hc1, hr1⟩ := (hV.below hB).cell hkk
   have hf' := hf
   unfold Enters at hf'
   cases hg : g (getl ls k)
   ·have HG := Lib.hid hg; clear hg
    go_wp2_with fail
    have hcl := Hp.out _ _ _ _ hB hr1
    rw [HG.out] at hcl
    refine hcl.mono ?_
    rintro e' w' ⟨rfl, hb⟩
    have hzB := hb.size
    have hzW := hB.size
    go_wp2_with fail
    go_roundw
    case rel => exact ⟨k + 1, by omega, by go_num, by rw [Hr.out, idxR_step hkk, HG.out]; rfl, hB.trans (hb.mono hzW)⟩
    case measure => simp [intOf]; omega
   ·have HG := Lib.hid hg; clear hg
    go_wp2_with fail
    have hcl := Hp.out _ _ _ _ hB hr1
    rw [HG.out] at hcl
    refine hcl.mono ?_
    rintro e' w' ⟨rfl, hb⟩
    have hzB := hb.size
    have hzW := hB.size
    go_wp2_with fail
    go_ret
    exact ⟨ret_int (by rw [Hr.out, idxR_step hkk, HG.out]; rfl), hB.trans (hb.mono hzW)⟩
  ·have hd : ls.drop k = [] := List.drop_of_length_le (by omega)
   have Hd := Lib.hid hd; clear hd
   go_wp2_with fail
   go_ret
   exact ⟨ret_int (by rw [Hr.out, Hd.out]; rfl), hB⟩
theorem containsFunc_any {S : Nat → Prop} (v : Value) (ls : List (List Int)) (f : FuncId) (caps : Array Value) (g : List Int → Bool) (W : World) (h : V2 S W v ls) (hf : Enters f) (hp : PredL f caps W g) :
  Calls Try.prog 42 #[v, .func (.func f) #[] caps] W fun e' w' => e' = .returned (.bool (ls.any g)) ∧ Below W.heap.size W w' := by
 have hfin := (idxR_any g ls 0).1
 have Hfin := Lib.hid hfin; clear hfin
 go_enter Try.func42, Try.ntmps42
 go_wp2_with fail
 refine (indexFunc_any _ _ _ _ _ _ h hf hp).mono ?_
 rintro e' w' ⟨rfl, hb⟩
 go_wp2_with fail
 go_ret
 exact ⟨ret_bool (by rw [← Hfin.out]), hb⟩
/-- From w to w' only blocks of F may turn, and new blocks may come. -/
structure Chg (F : Nat → Prop) (w w' : World) : Prop where
 os : w'.os = w.os
 tape : w'.tape = w.tape
 output : w'.output = w.output
 size : w.heap.size ≤ w'.heap.size
 block : ∀ k, k < w.heap.size → ¬ F k → w'.heap[k]? = w.heap[k]?
theorem Chg.refl (F : Nat → Prop) (w : World) : Chg F w w := ⟨rfl, rfl, rfl, Nat.le_refl _, fun _ _ _ => rfl⟩
theorem Chg.trans {F G : Nat → Prop} {a b c : World} (h : Chg F a b) (k : Chg G b c) (hs : ∀ i, G i → F i ∨ a.heap.size ≤ i) : Chg F a c :=
 ⟨k.os.trans h.os, k.tape.trans h.tape, k.output.trans h.output, Nat.le_trans h.size k.size, fun i hi hf => by
  rw [k.block i (Nat.lt_of_lt_of_le hi h.size) (fun hg => by rcases hs i hg with h1 | h1; exact hf h1; omega), h.block i hi hf]⟩
theorem Chg.of_below {F : Nat → Prop} {a b : World} (h : Below a.heap.size a b) : Chg F a b := ⟨h.os, h.tape, h.output, h.size, fun k hk _ => h.block k hk⟩
theorem Chg.then_below {F : Nat → Prop} {a b c : World} (h : Chg F a b) (k : Below b.heap.size b c) : Chg F a c := h.trans (Chg.of_below (F := fun _ => False) k) (fun _ h => h.elim)
theorem Chg.to_below {F : Nat → Prop} {B : Nat} {a b : World} (h : Chg F a b) (hF : ∀ i, F i → B ≤ i) (hB : B ≤ a.heap.size) : Below B a b :=
 ⟨h.os, h.tape, h.output, h.size, fun k hk => h.block k (by omega) (fun hf => by have := hF k hf; omega)⟩
theorem Chg.mono {F G : Nat → Prop} {a b : World} (h : Chg F a b) (hs : ∀ i, F i → G i) : Chg G a b := ⟨h.os, h.tape, h.output, h.size, fun k hk hf => h.block k hk (fun x => hf (hs k x))⟩
theorem Chg.alloc {F : Nat → Prop} {a w : World} (h : Chg F a w) (o : Obj) : Chg F a (w.alloc o) :=
 h.then_below ((Below.refl _ _).alloc (Nat.le_refl _) _)
theorem Chg.drew {F : Nat → Prop} {a w : World} (h : Chg F a w) : Chg F a w.drew := ⟨h.os, h.tape, h.output, h.size, h.block⟩
theorem Chg.setCell {F : Nat → Prop} {a w : World} (h : Chg F a w) {p : Addr} (hp : F p.block ∨ a.heap.size ≤ p.block) (u : Value) : Chg F a (w.setCell p u) :=
 h.trans (G := fun i => i = p.block) ⟨rfl, rfl, rfl, by simp [World.setCell], fun k hk hf => Below.heap_setCell _ _ _ _ hf⟩ (fun i hi => by rw [hi]; exact hp)
theorem Chg.grown {F : Nat → Prop} {a w w' : World} {row : Option Nat} (h : Chg F a w) (hg : w.grownBy w' row) (hr : ∀ k, row = some k → F k ∨ a.heap.size ≤ k) : Chg F a w' :=
 h.trans (G := fun i => row = some i) ⟨hg.os, hg.tape, hg.output, hg.size, fun k hk hf => hg.block k hk (fun e => hf e.symm)⟩ hr
theorem Chg.keep {F S : Nat → Prop} {a w : World} (h : Chg F a w) (hs : ∀ b, S b → ¬ F b) : Keep S a w := fun b hb hlt => h.block b hlt (hs b hb)
theorem Chg.cell {F : Nat → Prop} {a w : World} (h : Chg F a w) {b : Nat} (hb : b < a.heap.size) (hf : ¬ F b) (o : Nat) : w.cell? ⟨b, o, none⟩ = a.cell? ⟨b, o, none⟩ :=
 World.cell?_of_block (w := a) (a := ⟨b, o, none⟩) (h.block b hb hf)
theorem Chg.frozen {F : Nat → Prop} {a w : World} (h : Chg F a w) {b : Nat} (hb : b < a.heap.size) (hf : ¬ F b) (o : Nat) : w.frozen? ⟨b, o, none⟩ = a.frozen? ⟨b, o, none⟩ :=
 World.frozen?_of_block (w := a) (a := ⟨b, o, none⟩) (h.block b hb hf)
theorem Chg.heap {F : Nat → Prop} {a w : World} {b : Nat} {o : Obj} (h : Chg F a w) (ha : a.heap[b]? = some o) (hf : ¬ F b) : w.heap[b]? = some o := by
 rw [h.block b (lt_of_heap ha) hf, ha]
/-- What is owned stays owned while other blocks turn. -/
theorem own_chg {F : Nat → Prop} {w w' : World} {base : Nat} {e : TypeId} {v : Value} {n : Nat} {xs : List Value} (h : w.ownsRow base e 1 v n xs) (hc : Chg F w w') (hf : ∀ g, v.ownBlock = some g → ¬ F g) : w'.ownsRow base e 1 v n xs := by
 refine ⟨h.1, ?_⟩
 rcases h.2 with h0 | ⟨g, cap, cur, rfl, h1, h2, h3⟩
 ·exact .inl h0
 ·exact .inr ⟨g, cap, cur, rfl, h1, hc.heap h2 (hf g rfl), h3⟩
theorem own_form {w : World} {B : Nat} {e : TypeId} {v : Value} {n : Nat} {xs : List Value} (h : w.ownsRow B e 1 v n xs) : ∃ a c, v = .slice a n c ∧ n ≤ c ∧ c ≤ maxLen := by
 rcases h.2 with ⟨rfl, h0⟩ | ⟨g, cap, cur, rfl, h1, h2, h3, h4, _⟩
 ·subst h0; exact ⟨_, _, rfl, Nat.le_refl _, Nat.zero_le _⟩
 ·exact ⟨_, _, rfl, h3, h4⟩
theorem own_base {w : World} {B B' : Nat} {e : TypeId} {v : Value} {n : Nat} {xs : List Value} (h : w.ownsRow B e 1 v n xs) (hB : B' ≤ B) : w.ownsRow B' e 1 v n xs := by
 refine ⟨h.1, ?_⟩
 rcases h.2 with h0 | ⟨g, cap, cur, rfl, h1, h2⟩
 ·exact .inl h0
 ·exact .inr ⟨g, cap, cur, rfl, by omega, h2⟩
theorem absolute_any (x : Int) (W : World) (hx : -1000 ≤ x ∧ x ≤ 1000) :
  Calls Try.prog 55 #[.int .i64 x] W fun e' w' => e' = .returned (.int .i64 (absI x)) ∧ W = w' := by
 obtain ⟨h1, h2⟩ := hx
 go_enter Try.func55, Try.ntmps55
 go_wp2
 all_goals go_ret
 all_goals exact ⟨ret_int (by unfold absI; omega), rfl⟩
theorem l01Abs_any (x : Int) (W : World) (hx : -1000 ≤ x ∧ x ≤ 1000) :
  Calls Try.prog 47 #[.int .i64 x] W fun e' w' => e' = .returned (.int .i64 (absI x)) ∧ W = w' := by
 obtain ⟨h1, h2⟩ := hx
 go_enter Try.func47, Try.ntmps47
 go_wp2
 all_goals go_ret
 all_goals exact ⟨ret_int (by unfold absI; omega), rfl⟩
theorem idxR_stepi {g : Int → Bool} {l : List Int} {k : Nat} (h : k < l.length) : idxR g (l.drop k) k = if g (geti l k) then (k : Int) else idxR g (l.drop (k + 1)) (k + 1) := by
 rw [List.drop_eq_getElem_cons h, idxR, geti_eq h]
theorem slIndex_any {S : Nat → Prop} (v : Value) (l : List Int) (x : Int) (W : World) (h : V1 S W v l) :
  Calls Try.prog 59 #[v, .int .i64 x] W fun e' w' => e' = .returned (.int .i64 (idxR (fun y => decide (y = x)) l 0)) ∧ W = w' := by
 have hV := h
 obtain ⟨a, c, rfl, hm⟩ := h.form
 go_enter Try.func59, Try.ntmps59
 go_wp2_with fail
 go_loop [5, 8] (fun _ i => ∃ k : Nat, k ≤ l.length ∧ i = .int .i64 k ∧ idxR (fun y => decide (y = x)) l 0 = idxR (fun y => decide (y = x)) (l.drop k) k) (fun _ i => l.length - (intOf i).toNat)
 case atStart => exact ⟨0, Nat.zero_le _, rfl, rfl⟩
 case round =>
  obtain ⟨k, hk, rfl, hrem⟩ := hrel
  have Hr := Lib.hid hrem; clear hrem
  by_cases hkk : k < l.length
  ·obtain ⟨b1, off1, rfl, _, hc1⟩ := hV.cell hkk
   by_cases he : geti l k = x
   ·have e1 : (x == geti l k) = true := by simp [he]
    have E1 := Lib.hid (decide_eq_true he)
    have He := Lib.hid he; clear he
    go_wp2_with fail
    go_ret
    exact ⟨ret_int (by rw [Hr.out, idxR_stepi hkk, E1.out]; rfl), rfl⟩
   ·have e1 : (x == geti l k) = false := by simp; exact fun e => he e.symm
    have E1 := Lib.hid (decide_eq_false he)
    have He := Lib.hid he; clear he
    go_wp2_with fail
    go_round
    case rel => exact ⟨k + 1, by omega, by go_num, by rw [Hr.out, idxR_stepi hkk, E1.out]; rfl⟩
    case measure => simp [intOf]; omega
  ·have hd : l.drop k = [] := List.drop_of_length_le (by omega)
   have Hd := Lib.hid hd; clear hd
   go_wp2_with fail
   go_ret
   exact ⟨ret_int (by rw [Hr.out, Hd.out]; rfl), rfl⟩
theorem slContains_any {S : Nat → Prop} (v : Value) (l : List Int) (x : Int) (W : World) (h : V1 S W v l) :
  Calls Try.prog 58 #[v, .int .i64 x] W fun e' w' => e' = .returned (.bool (hasI l x)) ∧ W = w' := by
 have hfin := (idxR_any (fun y => decide (y = x)) l 0).1
 have Hfin := Lib.hid hfin; clear hfin
 go_enter Try.func58, Try.ntmps58
 go_wp2_with fail
 refine (slIndex_any _ _ _ _ h).mono ?_
 rintro e' w' ⟨rfl, rfl⟩
 go_wp2_with fail
 go_ret
 exact ⟨ret_bool (by rw [hasI, ← Hfin.out]), rfl⟩
theorem slContains_b {S : Nat → Prop} (v : Value) (l : List Int) (x : Int) (W : World) (r : Bool) (hr : hasI l x = r) (h : V1 S W v l) :
  Calls Try.prog 58 #[v, .int .i64 x] W fun e' w' => e' = .returned (.bool r) ∧ W = w' := by subst hr; exact slContains_any v l x W h
theorem hasI_step {l : List Int} {k : Nat} (h : k < l.length) (x : Int) : hasI (l.drop k) x = (decide (geti l k = x) || hasI (l.drop (k + 1)) x) := by
 unfold hasI; rw [any_step _ h, geti_eq h]
theorem l01Has_any {S : Nat → Prop} (v : Value) (l : List Int) (x : Int) (W : World) (h : V1 S W v l) :
  Calls Try.prog 53 #[v, .int .i64 x] W fun e' w' => e' = .returned (.bool (hasI l x)) ∧ W = w' := by
 have hV := h
 obtain ⟨a, c, rfl, hm⟩ := h.form
 go_enter Try.func53, Try.ntmps53
 go_wp2_with fail
 go_loop [5] (fun i => ∃ k : Nat, k ≤ l.length ∧ i = .int .i64 k ∧ hasI l x = hasI (l.drop k) x) (fun i => l.length - (intOf i).toNat)
 case atStart => exact ⟨0, Nat.zero_le _, rfl, rfl⟩
 case round =>
  obtain ⟨k, hk, rfl, hrem⟩ := hrel
  have Hr := Lib.hid hrem; clear hrem
  by_cases hkk : k < l.length
  ·obtain ⟨b1, off1, rfl, _, hc1⟩ := hV.cell hkk
   by_cases he : geti l k = x
   ·have e1 : (geti l k == x) = true := by simp [he]
    have E1 := Lib.hid (decide_eq_true he)
    have He := Lib.hid he; clear he
    go_wp2_with fail
    go_ret
    exact ⟨ret_bool (by rw [Hr.out, hasI_step hkk, E1.out]; rfl), rfl⟩
   ·have e1 : (geti l k == x) = false := by simp [he]
    have E1 := Lib.hid (decide_eq_false he)
    have He := Lib.hid he; clear he
    go_wp2_with fail
    go_round
    case rel => exact ⟨k + 1, by omega, by go_num, by rw [Hr.out, hasI_step hkk, E1.out]; rfl⟩
    case measure => simp [intOf]; omega
  ·have hd : l.drop k = [] := List.drop_of_length_le (by omega)
   have Hd := Lib.hid hd; clear hd
   go_wp2_with fail
   go_ret
   exact ⟨ret_bool (by rw [Hr.out, Hd.out]; rfl), rfl⟩
theorem l01Has_b {S : Nat → Prop} (v : Value) (l : List Int) (x : Int) (W : World) (r : Bool) (hr : hasI l x = r) (h : V1 S W v l) :
  Calls Try.prog 53 #[v, .int .i64 x] W fun e' w' => e' = .returned (.bool r) ∧ W = w' := by subst hr; exact l01Has_any v l x W h
theorem different_any {S : Nat → Prop} (v : Value) (l : List Int) (W : World) (h : V1 S W v l) :
  Calls Try.prog 57 #[v] W fun e' w' => e' = .returned (.int .i64 (kinds l)) ∧ W = w' := by
 have hV := h
 obtain ⟨a, c, rfl, hm⟩ := h.form
 go_enter Try.func57, Try.ntmps57
 go_wp2_with fail
 go_loop [3, 4, 5, 8] (fun s _ _ i => ∃ k : Nat, k ≤ l.length ∧ i = .int .i64 k ∧ s = .int .i64 (kindsTo l k)) (fun _ _ _ i => l.length - (intOf i).toNat)
 case atStart => exact ⟨0, Nat.zero_le _, rfl, rfl⟩
 case round =>
  obtain ⟨k, hk, rfl, rfl⟩ := hrel
  have hdl := kindsTo_le l k
  by_cases hkk : k < l.length
  ·obtain ⟨b1, off1, rfl, _, hc1⟩ := hV.cell hkk
   have htk := hV.take (n := k) (by omega)
   have hcap := hV.cap
   cases hh : hasI (l.take k) (geti l k)
   ·have HH := Lib.hid hh; clear hh
    go_wp2_with (go_at_call 58; refine (slContains_b _ _ _ _ _ HH.out htk).mono ?_; rintro e' w' ⟨rfl, rfl⟩)
    go_round
    case rel => exact ⟨k + 1, by omega, by go_num, by rw [kindsTo, if_neg (by rw [HH.out]; decide)]; go_num⟩
    case measure => simp [intOf]; omega
   ·have HH := Lib.hid hh; clear hh
    go_wp2_with (go_at_call 58; refine (slContains_b _ _ _ _ _ HH.out htk).mono ?_; rintro e' w' ⟨rfl, rfl⟩)
    go_round
    case rel => exact ⟨k + 1, by omega, by go_num, by rw [kindsTo, if_pos HH.out]; rfl⟩
    case measure => simp [intOf]; omega
  ·obtain rfl : k = l.length := by omega
   go_wp2_with fail
   go_ret
   exact ⟨rfl, rfl⟩
theorem l02Kinds_q {S : Nat → Prop} (v : Value) (l : List Int) (W : World) (h : V1 S W v l) :
  Calls Try.prog 48 #[v] W fun e' w' => e' = .returned (.int .i64 (kinds l)) ∧ ∃ n, w' = W.drewN n := by
 have hV := h
 obtain ⟨a, c, rfl, hm⟩ := h.form
 go_enter Try.func48, Try.ntmps48
 go_wp2_with fail
 go_loopw [3, 4] (fun s i wr => ∃ k n : Nat, k ≤ l.length ∧ i = .int .i64 k ∧ s = .int .i64 (kindsTo l k) ∧ wr = W.drewN n) (fun _ i _ => l.length - (intOf i).toNat)
 case atStart => exact ⟨0, 0, Nat.zero_le _, rfl, rfl, rfl⟩
 case round =>
  obtain ⟨k, n, hk, rfl, rfl, rfl⟩ := hrel
  have hdl := kindsTo_le l k
  by_cases hkk : k < l.length
  ·obtain ⟨b1, off1, rfl, _, hc1⟩ := hV.cell hkk
   have htk := hV.take (n := k) (by omega)
   have hcap := hV.cap
   cases hh : hasI (l.take k) (geti l k)
   ·have HH := Lib.hid hh; clear hh
    go_wp2_with fail
    go_quiet ((go_at_call 53; first | exact quiet_same (l01Has_b _ _ _ _ _ HH.out (V1.drewN htk)) | exact quiet_same0 (l01Has_b _ _ _ _ _ HH.out (V1.drewN htk))))
    go_wp2_with fail
    go_roundw
    case rel => exact ⟨k + 1, _, by omega, by go_num, by rw [kindsTo, if_neg (by rw [HH.out]; decide)]; go_num, by first | rfl | rw [World.drewN_drewN]⟩
    case measure => simp [intOf]; omega
   ·have HH := Lib.hid hh; clear hh
    go_wp2_with fail
    go_quiet ((go_at_call 53; first | exact quiet_same (l01Has_b _ _ _ _ _ HH.out (V1.drewN htk)) | exact quiet_same0 (l01Has_b _ _ _ _ _ HH.out (V1.drewN htk))))
    go_wp2_with fail
    go_roundw
    case rel => exact ⟨k + 1, _, by omega, by go_num, by rw [kindsTo, if_pos HH.out]; rfl, by first | rfl | rw [World.drewN_drewN]⟩
    case measure => simp [intOf]; omega
  ·obtain rfl : k = l.length := by omega
   go_wp2_with fail
   go_ret
   exact ⟨rfl, _, by first | rfl | rw [World.drewN_drewN]⟩
theorem sameRun_q {S : Nat → Prop} (v : Value) (l : List Int) (W : World) (h : V1 S W v l) (hn : 0 < l.length) :
  Calls Try.prog 56 #[v] W fun e' w' => e' = .returned (.int .i64 (runAt l (l.length - 1))) ∧ ∃ n, w' = W.drewN n := by
 have hV := h
 obtain ⟨a, c, rfl, hm⟩ := h.form
 go_enter Try.func56, Try.ntmps56
 go_wp2_with fail
 go_loopw [3] (fun i wr => ∃ r n : Nat, 1 ≤ r ∧ r ≤ l.length ∧ i = .int .i64 r ∧ (∀ j, j < r → geti l (l.length - 1 - j) = geti l (l.length - 1)) ∧ wr = W.drewN n) (fun i _ => l.length - (intOf i).toNat)
 case atStart => exact ⟨1, 0, Nat.le_refl _, by omega, rfl, fun j hj => by rw [show j = 0 from by omega, Nat.sub_zero], rfl⟩
 case round =>
  obtain ⟨r, n, hr1, hr2, rfl, hall, rfl⟩ := hrel
  have Hall := Lib.hid hall; clear hall
  by_cases hkk : r < l.length
  ·obtain ⟨b1, off1, rfl, _, hc1⟩ := hV.cell (k := l.length - 1 - r) (by omega)
   obtain ⟨b2, off2, e2, _, hc2⟩ := hV.cell (k := l.length - 1) (by omega)
   simp only [Option.some.injEq, Addr.mk.injEq, and_true] at e2
   obtain ⟨rfl, rfl⟩ := e2
   by_cases he : geti l (l.length - 1 - r) = geti l (l.length - 1)
   ·have e1 : (geti l (l.length - 1 - r) == geti l (l.length - 1)) = true := by simp [he]
    have He := Lib.hid he; clear he
    go_wp2_with fail
    go_quiet (fail)
    go_wp2_with fail
    go_roundw
    case rel => exact ⟨r + 1, _, by omega, by omega, by go_num, fun j hj => by
     by_cases e : j = r
     ·subst e; exact He.out
     ·exact Hall.out j (by omega), by first | rfl | rw [World.drewN_drewN]⟩
    case measure => simp [intOf]; omega
   ·have e1 : (geti l (l.length - 1 - r) == geti l (l.length - 1)) = false := by simp [he]
    have hfin : runAt l (l.length - 1) = r := runAt_char _ _ hr1 (by omega) Hall.out (.inr he)
    have He := Lib.hid he; clear he
    have Hf := Lib.hid hfin; clear hfin
    go_wp2_with fail
    go_quiet (fail)
    go_wp2_with fail
    go_ret
    exact ⟨ret_int (by rw [Hf.out]), _, by first | rfl | rw [World.drewN_drewN]⟩
  ·obtain rfl : r = l.length := by omega
   have hfin : runAt l (l.length - 1) = l.length := runAt_char _ _ hr1 (by omega) Hall.out (.inl (by omega))
   have Hf := Lib.hid hfin; clear hfin
   have hd : decide (l.length < l.length) = false := by simp
   go_wp2_with fail
   go_quiet (fail)
   go_wp2_with fail
   go_ret
   exact ⟨ret_int (by rw [Hf.out]), _, by first | rfl | rw [World.drewN_drewN]⟩
theorem sameRun_b {S : Nat → Prop} (v : Value) (l : List Int) (W : World) (r : Int) (hr : ((runAt l (l.length - 1) : Nat) : Int) = r) (h : V1 S W v l) (hn : 0 < l.length) :
  Calls Try.prog 56 #[v] W fun e' w' => e' = .returned (.int .i64 r) ∧ ∃ n, w' = W.drewN n := by subst hr; exact sameRun_q v l W h hn
theorem absolute_b (x q : Int) (W : World) (hq : absI x = q) (hx : -1000 ≤ x ∧ x ≤ 1000) :
  Calls Try.prog 55 #[.int .i64 x] W fun e' w' => e' = .returned (.int .i64 q) ∧ W = w' := by subst hq; exact absolute_any x W hx
theorem l01Abs_b (x q : Int) (W : World) (hq : absI x = q) (hx : -1000 ≤ x ∧ x ≤ 1000) :
  Calls Try.prog 47 #[.int .i64 x] W fun e' w' => e' = .returned (.int .i64 q) ∧ W = w' := by subst hq; exact l01Abs_any x W hx
theorem areCuts_any {S : Nat → Prop} (m : Mk) (v : Value) (l : List Int) (W : World) (hm : m.ok = true) (h : V1 S W v l) :
  Calls Try.prog 54 #[.agg #[.int .i64 m.c, .int .i64 m.d, .int .i64 m.s, .int .i64 m.e, .int .i64 m.l], v] W fun e' w' => e' = .returned (.bool (decide ((l.length : Int) = m.c) && allB l 0 (m.d - 1))) ∧ Below W.heap.size W w' := by
 have hk := (Mk.ok_iff.1 hm).2.1
 obtain ⟨hd1, hd2⟩ := hk
 clear hm
 have hV := h
 obtain ⟨a, c, rfl, hm⟩ := h.form
 obtain ⟨mc, md, ms, me, ml⟩ := m
 simp only at hd1 hd2
 by_cases hl : (l.length : Int) = mc
 ·subst hl
  have hfin : (decide ((l.length : Int) = (l.length : Int)) && allB l 0 (md - 1)) = allB l 0 (md - 1) := by simp
  simp only [hfin]
  cases hb : allB l 0 (md - 1)
  ·have Hb := Lib.hid hb; clear hb
   go_enter Try.func54, Try.ntmps54
   go_wp2_with (go_at_call 50; refine (allWithin_b _ _ _ _ _ _ Hb.out (hV.below ((Below.refl _ _).alloc (Nat.le_refl _) _))).mono ?_; rintro e' w' ⟨rfl, rfl⟩)
   go_ret
   exact ⟨rfl, by (repeat (first | (with_reducible refine Below.setCell ?_ ?_ _) | (with_reducible refine Below.alloc ?_ ?_ _) | (with_reducible refine Below.drew ?_) | (with_reducible refine below_drewN ?_ _) | (with_reducible exact Below.refl _ _) | (with_reducible assumption) | (with_reducible refine Below.trans ?_ (Below.mono (by with_reducible assumption) ?_)) | go_size))⟩
  ·have Hb := Lib.hid hb; clear hb
   go_enter Try.func54, Try.ntmps54
   go_wp2_with (go_at_call 50; refine (allWithin_b _ _ _ _ _ _ Hb.out (hV.below ((Below.refl _ _).alloc (Nat.le_refl _) _))).mono ?_; rintro e' w' ⟨rfl, rfl⟩)
   go_ret
   exact ⟨rfl, by (repeat (first | (with_reducible refine Below.setCell ?_ ?_ _) | (with_reducible refine Below.alloc ?_ ?_ _) | (with_reducible refine Below.drew ?_) | (with_reducible refine below_drewN ?_ _) | (with_reducible exact Below.refl _ _) | (with_reducible assumption) | (with_reducible refine Below.trans ?_ (Below.mono (by with_reducible assumption) ?_)) | go_size))⟩
 ·have hfin : (decide ((l.length : Int) = mc) && allB l 0 (md - 1)) = false := by rw [decide_eq_false hl]; rfl
  simp only [hfin]
  have e1 : ((l.length : Int) == mc) = false := by simp [hl]
  have Hf := Lib.hid hfin; clear hfin
  have Hl := Lib.hid hl; clear hl
  go_enter Try.func54, Try.ntmps54
  go_wp2_with fail
  go_ret
  exact ⟨rfl, by (repeat (first | (with_reducible refine Below.setCell ?_ ?_ _) | (with_reducible refine Below.alloc ?_ ?_ _) | (with_reducible refine Below.drew ?_) | (with_reducible refine below_drewN ?_ _) | (with_reducible exact Below.refl _ _) | (with_reducible assumption) | (with_reducible refine Below.trans ?_ (Below.mono (by with_reducible assumption) ?_)) | go_size))⟩
theorem areCuts_b {S : Nat → Prop} (m : Mk) (v : Value) (l : List Int) (W : World) (r : Bool) (hr : (decide ((l.length : Int) = m.c) && allB l 0 (m.d - 1)) = r) (hm : m.ok = true) (h : V1 S W v l) :
  Calls Try.prog 54 #[.agg #[.int .i64 m.c, .int .i64 m.d, .int .i64 m.s, .int .i64 m.e, .int .i64 m.l], v] W fun e' w' => e' = .returned (.bool r) ∧ Below W.heap.size W w' := by subst hr; exact areCuts_any m v l W hm h
end Go.Proofs.Ytmaefilliggjiaa
