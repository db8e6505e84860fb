/- What the laws' own helpers answer: sizes, copies, comparisons of slices. No conditions. -/
import Derived.Test.YtikdbjaimcciiaaGreatProg
import Derived.Deep.QuietTactic
import Derived.BigQuiet
import Derived.WalkSmall
import Derived.StillTailTactics
import Derived.Test.YtikdbjaimcciiaaGreatMLib
namespace Go.Proofs.YtikdbjaimcciiaaGreat
open Go.RowKit
set_option linter.unusedVariables false
set_option linter.unusedSimpArgs false

/-- What szInt64S answers. -/
def szI (n : Nat) (left : Int) : Int := if left < n then -1 else left - n
def szR : List (List Int) → Int → Int
  | [], left => left
  | r :: rs, left => if left < r.length then -1 else szR rs (left - r.length)
def szL (ls : List (List Int)) (left : Int) : Int := if left < ls.length then -1 else szR ls (left - ls.length)
theorem szI_ok {n : Nat} {left : Int} (h0 : 0 ≤ left) : (szI n left = -1 ∧ left < n) ∨ (szI n left = left - n ∧ (n : Int) ≤ left) := by
  unfold szI; split
  · exact .inl ⟨rfl, by assumption⟩
  · exact .inr ⟨rfl, by omega⟩
theorem szR_le : ∀ (ls : List (List Int)) (left : Int), 0 ≤ left → szR ls left ≤ left ∧ (0 ≤ szR ls left → ∀ r ∈ ls, (r.length : Int) ≤ left) := by
  intro ls
  induction ls with
  | nil => intro left h; exact ⟨Int.le_refl _, by simp⟩
  | cons r rs ih =>
    intro left h
    unfold szR
    split
    · exact ⟨by omega, fun h' => by omega⟩
    · obtain ⟨h1, h2⟩ := ih (left - r.length) (by omega)
      refine ⟨by omega, fun h' x hx => ?_⟩
      cases hx with
      | head => omega
      | tail _ hm => have := h2 h' x hm; omega
theorem szL_ok {ls : List (List Int)} {left : Int} (h0 : 0 ≤ left) (h : 0 ≤ szL ls left) : (ls.length : Int) ≤ left ∧ ∀ r ∈ ls, (r.length : Int) ≤ left := by
  unfold szL at h
  split at h
  · omega
  · obtain ⟨h1, h2⟩ := szR_le ls (left - ls.length) (by omega)
    exact ⟨by omega, fun r hr => by have := h2 h r hr; omega⟩
theorem szL_le {ls : List (List Int)} {left : Int} (h0 : 0 ≤ left) : szL ls left ≤ left := by
  unfold szL; split
  · omega
  · have := (szR_le ls (left - ls.length) (by omega)).1; omega
theorem szR_ge : ∀ (ls : List (List Int)) (left : Int), -1 ≤ left → -1 ≤ szR ls left
  | [], left, h => h
  | r :: rs, left, h => by
    unfold szR
    split
    · omega
    · exact szR_ge rs _ (by omega)
theorem szR_step {ls : List (List Int)} {k : Nat} (hk : k < ls.length) (left : Int) : szR (ls.drop k) left = if left < (getl ls k).length then -1 else szR (ls.drop (k + 1)) (left - (getl ls k).length) := by
  rw [List.drop_eq_getElem_cons hk, szR, getl_eq hk]

theorem szInt64S_any {S : Nat → Prop} (v : Value) (l : List Int) (left : Int) (W : World) (h : V1 S W v l) (h0 : 0 ≤ left) (h1 : left ≤ 1048576) :
    Calls Tryz.prog 101 #[v, .int .i64 left] W fun e' w' => e' = .returned (.int .i64 (szI l.length left)) ∧ W = w' := by
  obtain ⟨a, c, rfl, hm⟩ := h.form
  go_enter Tryz.func101, Tryz.ntmps101
  go_wp2
  all_goals go_ret
  · exact ⟨ret_int (by rw [szI, if_pos (by omega)]), rfl⟩
  · exact ⟨ret_int (by rw [szI, if_neg (by omega)]), rfl⟩

theorem szInt64SS_any {S : Nat → Prop} (v : Value) (ls : List (List Int)) (left : Int) (W : World) (h : V2 S W v ls) (h0 : 0 ≤ left) (h1 : left ≤ 1048576) :
    Calls Tryz.prog 27 #[v, .int .i64 left] W fun e' w' => e' = .returned (.int .i64 (szL ls left)) ∧ W = w' := by
  have hV := h
  obtain ⟨a, c, rfl, hm⟩ := h.form
  by_cases hlt : left < ls.length
  · go_enter Tryz.func27, Tryz.ntmps27
    go_wp2_with fail
    go_ret
    exact ⟨ret_int (by rw [szL, if_pos hlt]), rfl⟩
  · have hfin : szL ls left = szR (ls.drop 0) (left - ls.length) := by rw [szL, if_neg hlt]; rfl
    have Hf := Lib.hid hfin; clear hfin
    go_enter Tryz.func27, Tryz.ntmps27
    go_wp2_with fail
    go_loop [1, 5] (fun t i => ∃ (k : Nat) (lf : Int), k ≤ ls.length ∧ i = .int .i64 k ∧ t = .int .i64 lf ∧ 0 ≤ lf ∧ lf ≤ 1048576 ∧ szL ls left = szR (ls.drop k) lf) (fun _ i => ls.length - (intOf i).toNat)
    case atStart => exact ⟨0, _, Nat.zero_le _, rfl, rfl, by omega, by omega, Hf.out⟩
    case round =>
      obtain ⟨k, lf, hk, rfl, rfl, hlf0, hlf1, hrem⟩ := hrel
      have Hr := Lib.hid hrem; clear hrem
      by_cases hkk : k < ls.length
      · obtain ⟨b, off, a', c', rfl, _, hcell, hrow⟩ := hV.cell hkk
        rcases szI_ok (n := (getl ls k).length) hlf0 with ⟨hs, hs'⟩ | ⟨hs, hs'⟩
        · have Hs := Lib.hid hs; clear hs
          go_wp2_with (go_at_call 101; refine (szInt64S_any _ _ _ _ hrow hlf0 hlf1).mono ?_; rintro e' w' ⟨rfl, rfl⟩; rw [Hs.out])
          go_ret
          exact ⟨ret_int (by rw [Hr.out, szR_step hkk, if_pos hs']), rfl⟩
        · have Hs := Lib.hid hs; clear hs
          go_wp2_with (go_at_call 101; refine (szInt64S_any _ _ _ _ hrow hlf0 hlf1).mono ?_; rintro e' w' ⟨rfl, rfl⟩; rw [Hs.out])
          go_round
          case rel => exact ⟨k + 1, _, by omega, by go_num, rfl, by omega, by omega, by rw [Hr.out, szR_step hkk, if_neg (by omega)]⟩
          case measure => simp [intOf]; omega
      · have hd : ls.drop k = [] := List.drop_of_length_le (by omega)
        have Hd := Lib.hid hd; clear hd
        go_wp2_with fail
        go_ret
        exact ⟨ret_int (by rw [Hr.out, Hd.out]; rfl), rfl⟩

theorem eqInt64S_q {S S' : Nat → Prop} (va vb : Value) (a b : List Int) (W : World) (ha : V1 S W va a) (hb : V1 S' W vb b) :
    Calls Tryz.prog 111 #[va, vb] W fun e' w' => e' = .returned (.bool (decide (a = b))) ∧ ∃ n, w' = W.drewN n := by
  have hA := ha
  have hB := hb
  obtain ⟨pa, ca, rfl, hma⟩ := ha.form
  obtain ⟨pb, cb, rfl, hmb⟩ := hb.form
  by_cases hl : a.length = b.length
  · have hle : ((a.length : Int) == (b.length : Int)) = true := by simp; omega
    have hle2 : ((a.length : Int) != (b.length : Int)) = false := by simp; omega
    have Hl := Lib.hid hl; clear hl
    go_enter Tryz.func111, Tryz.ntmps111
    go_wp2_with fail
    go_loopw [5] (fun i wr => ∃ (k n : Nat), k ≤ a.length ∧ i = .int .i64 k ∧ a.take k = b.take k ∧ wr = W.drewN n) (fun i _ => a.length - (intOf i).toNat)
    case atStart => exact ⟨0, 0, Nat.zero_le _, rfl, rfl, rfl⟩
    case round =>
      obtain ⟨k, n, hk, rfl, hpre, rfl⟩ := hrel
      have Hpre := Lib.hid hpre; clear hpre
      by_cases hkk : k < a.length
      · have hkb : k < b.length := by rw [← Hl.out]; exact hkk
        obtain ⟨b1, off1, rfl, _, hc1⟩ := hA.cell hkk
        obtain ⟨b2, off2, rfl, _, hc2⟩ := hB.cell hkb
        by_cases he : geti a k = geti b k
        · have e1 : (geti a k == geti b k) = true := by simp [he]
          have e2 : (geti a k != geti b k) = false := by simp [he]
          have He := Lib.hid he; clear he
          go_wp2_with fail
          go_quiet (fail)
          go_wp2_with fail
          go_roundw
          case rel => exact ⟨k + 1, _, by omega, by go_num, by rw [take_geti hkk, take_geti hkb, Hpre.out, He.out], rfl⟩
          case measure => simp [intOf]; omega
        · have hne : decide (a = b) = false := decide_eq_false (fun e => he (by rw [e]))
          have e1 : (geti a k == geti b k) = false := by simp [he]
          have e2 : (geti a k != geti b k) = true := by simp [he]
          have Hne := Lib.hid hne; clear hne
          have He := Lib.hid he; clear he
          go_wp2_with fail
          go_quiet (fail)
          go_wp2_with fail
          go_ret
          exact ⟨ret_bool Hne.out.symm, _, by first | rfl | rw [World.drewN_drewN]⟩
      · have hab : a = b := by
          have := Hpre.out
          rw [List.take_of_length_le (by omega), List.take_of_length_le (by rw [← Hl.out]; omega)] at this
          exact this
        have heq : decide (a = b) = true := decide_eq_true hab
        have Heq := Lib.hid heq; clear heq hab
        go_wp2_with fail
        go_ret
        exact ⟨ret_bool Heq.out.symm, _, rfl⟩
  · have hne : decide (a = b) = false := decide_eq_false (fun e => hl (by rw [e]))
    rw [hne]
    have hne2 : ((a.length : Int) == (b.length : Int)) = false := by simp; omega
    have hne3 : ((a.length : Int) != (b.length : Int)) = true := by simp; omega
    clear hne
    go_enter Tryz.func111, Tryz.ntmps111
    go_wp2_with fail
    go_ret
    exact ⟨rfl, 0, rfl⟩
theorem eqInt64S_b {S S' : Nat → Prop} (va vb : Value) (a b : List Int) (W : World) (r : Bool) (hr : decide (a = b) = r) (ha : V1 S W va a) (hb : V1 S' W vb b) :
    Calls Tryz.prog 111 #[va, vb] W fun e' w' => e' = .returned (.bool r) ∧ ∃ n, w' = W.drewN n := by
  subst hr; exact eqInt64S_q va vb a b W ha hb

theorem eqInt64SS_q {S S' : Nat → Prop} (va vb : Value) (a b : List (List Int)) (W : World) (ha : V2 S W va a) (hb : V2 S' W vb b) :
    Calls Tryz.prog 32 #[va, vb] W fun e' w' => e' = .returned (.bool (decide (a = b))) ∧ ∃ n, w' = W.drewN n := by
  have hA := ha
  have hB := hb
  obtain ⟨pa, ca, rfl, hma⟩ := ha.form
  obtain ⟨pb, cb, rfl, hmb⟩ := hb.form
  by_cases hl : a.length = b.length
  · have hle : ((a.length : Int) == (b.length : Int)) = true := by simp; omega
    have hle2 : ((a.length : Int) != (b.length : Int)) = false := by simp; omega
    have Hl := Lib.hid hl; clear hl
    go_enter Tryz.func32, Tryz.ntmps32
    go_wp2_with fail
    go_loopw [5] (fun i wr => ∃ (k n : Nat), k ≤ a.length ∧ i = .int .i64 k ∧ a.take k = b.take k ∧ wr = W.drewN n) (fun i _ => a.length - (intOf i).toNat)
    case atStart => exact ⟨0, 0, Nat.zero_le _, rfl, rfl, rfl⟩
    case round =>
      obtain ⟨k, n, hk, rfl, hpre, rfl⟩ := hrel
      have Hpre := Lib.hid hpre; clear hpre
      by_cases hkk : k < a.length
      · have hkb : k < b.length := by rw [← Hl.out]; exact hkk
        obtain ⟨b1, off1, a1, c1, rfl, _, hc1, hr1⟩ := hA.cell hkk
        obtain ⟨b2, off2, a2, c2, rfl, _, hc2, hr2⟩ := hB.cell hkb
        by_cases he : getl a k = getl b k
        · have e1 : decide (getl a k = getl b k) = true := decide_eq_true he
          have He := Lib.hid he; clear he
          have E1 := Lib.hid e1; clear e1
          go_wp2_with fail
          go_quiet ((go_at_call 111; exact quiet_at (eqInt64S_b _ _ _ _ _ _ E1.out (V1.drewN hr1) (V1.drewN hr2))))
          go_wp2_with fail
          go_roundw
          case rel => exact ⟨k + 1, _, by omega, by go_num, by rw [take_getl hkk, take_getl hkb, Hpre.out, He.out], by first | rfl | rw [World.drewN_drewN]⟩
          case measure => simp [intOf]; omega
        · have hne : decide (a = b) = false := decide_eq_false (fun e => he (by rw [e]))
          have e1 : decide (getl a k = getl b k) = false := decide_eq_false he
          have Hne := Lib.hid hne; clear hne
          have He := Lib.hid he; clear he
          have E1 := Lib.hid e1; clear e1
          go_wp2_with fail
          go_quiet ((go_at_call 111; exact quiet_at (eqInt64S_b _ _ _ _ _ _ E1.out (V1.drewN hr1) (V1.drewN hr2))))
          go_wp2_with fail
          go_ret
          exact ⟨ret_bool Hne.out.symm, _, by first | rfl | rw [World.drewN_drewN]⟩
      · have hab : a = b := by
          have := Hpre.out
          rw [List.take_of_length_le (by omega), List.take_of_length_le (by rw [← Hl.out]; omega)] at this
          exact this
        have heq : decide (a = b) = true := decide_eq_true hab
        have Heq := Lib.hid heq; clear heq hab
        go_wp2_with fail
        go_ret
        exact ⟨ret_bool Heq.out.symm, _, rfl⟩
  · have hne : decide (a = b) = false := decide_eq_false (fun e => hl (by rw [e]))
    rw [hne]
    have hne2 : ((a.length : Int) == (b.length : Int)) = false := by simp; omega
    have hne3 : ((a.length : Int) != (b.length : Int)) = true := by simp; omega
    clear hne
    go_enter Tryz.func32, Tryz.ntmps32
    go_wp2_with fail
    go_ret
    exact ⟨rfl, 0, rfl⟩

theorem eqInt64SS_b {S S' : Nat → Prop} (va vb : Value) (a b : List (List Int)) (W : World) (r : Bool) (hr : decide (a = b) = r) (ha : V2 S W va a) (hb : V2 S' W vb b) :
    Calls Tryz.prog 32 #[va, vb] W fun e' w' => e' = .returned (.bool r) ∧ ∃ n, w' = W.drewN n := by
  subst hr; exact eqInt64SS_q va vb a b W ha hb

theorem inf_int : (Tryz.prog.info? 2).map (fun i => (i.zero, i.size, i.bytes)) = some (some (.int .i64 0), 1, 8) := by kernel_rfl
theorem inf_ints : (Tryz.prog.info? 35).map (fun i => (i.zero, i.size, i.bytes)) = some (some (.slice none 0 0), 1, 24) := by kernel_rfl

theorem toInt64S_any {S : Nat → Prop} (v : Value) (l : List Int) (W : World) (h : V1 S W v l) (hlen : l.length ≤ 1048576) :
    Calls Tryz.prog 105 #[v] W fun e' w' => ∃ v', e' = .returned v' ∧ X1 w' v' l W.heap.size ∧ W.heap.size < w'.heap.size ∧ Below W.heap.size W w' := by
  have hV := h
  obtain ⟨a, c, rfl, hm⟩ := h.form
  go_enter Tryz.func105, Tryz.ntmps105
  go_wp2_with (at_make; refine wp_mk _ rfl _ _ 35 rfl 2 (.int .i64 0) 1 8 Tryz.underlying35 inf_int l.length rfl rfl (by omega) (by omega) ?_; intro w1 cs0 hh0 hs0 _ hB0 hsz0)
  go_loopw [4] (fun i wr => ∃ (k : Nat) (cs : Array Value), k ≤ l.length ∧ i = .int .i64 k ∧ wr.heap[W.heap.size]? = some (.cells cs 2 (0, 0)) ∧ cs.size = l.length ∧ (∀ j, j < k → cs[j]? = some (.int .i64 (geti l j))) ∧ Below W.heap.size W wr) (fun i _ => l.length - (intOf i).toNat)
  case atStart => exact ⟨0, cs0, Nat.zero_le _, rfl, hh0, by omega, fun j hj => by omega, hB0⟩
  case round =>
    obtain ⟨k, cs, hk, rfl, hh, hs, hcs, hB⟩ := hrel
    by_cases hkk : k < l.length
    · obtain ⟨b1, off1, rfl, _, hc1⟩ := (hV.below hB).cell hkk
      obtain ⟨u0, hco⟩ : ∃ u0, wr.cell? ⟨W.heap.size, k, none⟩ = some u0 := ⟨cs[k]'(by omega), by rw [cell_of_block hh]; exact Array.getElem?_eq_getElem (by omega)⟩
      have hfo := frozen_of_block hh k
      have Hh := Lib.hid hh; clear hh
      have Hcs := Lib.hid hcs; clear hcs
      have Hs := Lib.hid hs; clear hs
      go_wp2_with fail
      go_roundw
      case rel =>
        refine ⟨k + 1, cs.setIfInBounds k (.int .i64 (geti l k)), by omega, by go_num, heap_setCell_self Hh.out _, by simp [Hs.out], fun j hj => ?_, by (repeat (first | (with_reducible refine Below.setCell ?_ ?_ _) | (with_reducible refine Below.alloc ?_ ?_ _) | (with_reducible refine Below.drew ?_) | (with_reducible refine below_drewN ?_ _) | (with_reducible exact Below.refl _ _) | (with_reducible assumption) | (with_reducible refine Below.trans ?_ (Below.mono (by with_reducible assumption) ?_)) | go_size))⟩
        rw [Array.getElem?_setIfInBounds]
        split
        · rename_i e; subst e; simp [Hs.out, hkk]
        · exact Hcs.out j (by omega)
      case measure => simp [intOf]; omega
    · have Hh := Lib.hid hh; clear hh
      have Hcs := Lib.hid hcs; clear hcs
      have Hs := Lib.hid hs; clear hs
      go_wp2_with fail
      go_ret
      refine ⟨_, rfl, ⟨_, _, rfl, Nat.le_refl _, by unfold maxLen; omega, fun hn => ⟨0, cs, _, rfl, Hh.out, fun j hj => by rw [Nat.zero_add]; exact Hcs.out j (by omega)⟩⟩, lt_of_heap Hh.out, hB⟩

/-- How far a copy of rows has come. -/
structure CopyRel (B : Nat) (w : World) (cs : Array Value) (ls : List (List Int)) (k : Nat) (bk : Nat → Nat) : Prop where
  heap : w.heap[B]? = some (.cells cs 35 (0, 0))
  size : cs.size = ls.length
  rows : ∀ j, j < k → ∃ rv, cs[j]? = some rv ∧ X1 w rv (getl ls j) (bk j)
  at_ : ∀ j, j < k → B < bk j ∧ bk j < w.heap.size
  inc : ∀ i j, i < j → j < k → bk i < bk j

theorem CopyRel.done {B : Nat} {w : World} {cs : Array Value} {ls : List (List Int)} {bk : Nat → Nat} (h : CopyRel B w cs ls ls.length bk) (hl : ls.length ≤ 1048576) : X2 w (.slice (some ⟨B, 0, none⟩) ls.length ls.length) ls B bk := by
  refine ⟨_, _, rfl, Nat.le_refl _, by unfold maxLen; omega, fun _ => ⟨0, cs, _, rfl, h.heap, fun k hk => by rw [Nat.zero_add]; exact h.rows k hk⟩, fun k hk _ => ⟨by have := (h.at_ k hk).1; omega, fun j hj hne _ => ?_⟩⟩
  rcases Nat.lt_or_gt_of_ne hne with h1 | h1
  · have := h.inc j k h1 hk; omega
  · have := h.inc k j h1 hj; omega

theorem CopyRel.step {B : Nat} {w w1 w2 : World} {cs : Array Value} {ls : List (List Int)} {k : Nat} {bk : Nat → Nat} {rv : Value} (h : CopyRel B w cs ls k bk) (hk : k < ls.length) (hB : B < w.heap.size)
    (hb : Below w.heap.size w w1) (hx : X1 w1 rv (getl ls k) w.heap.size) (hsz : w.heap.size < w1.heap.size) (hw2 : w2 = w1.setCell ⟨B, k, none⟩ rv) :
    CopyRel B w2 (cs.setIfInBounds k rv) ls (k + 1) (fun j => if j < k then bk j else w.heap.size) := by
  subst hw2
  have h1 : w1.heap[B]? = some (.cells cs 35 (0, 0)) := heap_below h.heap hb hB
  have hs2 : (w1.setCell ⟨B, k, none⟩ rv).heap.size = w1.heap.size := by simp [World.setCell]
  refine ⟨heap_setCell_self h1 rv, by simp [h.size], fun j hj => ?_, fun j hj => ?_, fun i j hij hj => ?_⟩
  · rw [Array.getElem?_setIfInBounds]
    by_cases e : k = j
    · subst e
      refine ⟨rv, by simp [h.size, hk], ?_⟩
      rw [if_neg (by omega)]
      exact hx.keep fun _ => heap_setCell_other _ (by omega)
    · rw [if_neg e, if_pos (by omega : j < k)]
      obtain ⟨u, hu, hxu⟩ := h.rows j (by omega)
      have ha := h.at_ j (by omega)
      exact ⟨u, hu, (hxu.keep fun _ => hb.block _ ha.2).keep fun _ => heap_setCell_other _ (by omega)⟩
  · rw [hs2]
    split
    · have ha := h.at_ j (by omega); omega
    · omega
  · have hjk : j ≤ k := by omega
    simp only [show i < k from by omega, if_true]
    split
    · exact h.inc i j hij (by omega)
    · exact (h.at_ i (by omega)).2

theorem toInt64SS_any {S : Nat → Prop} (v : Value) (ls : List (List Int)) (W : World) (h : V2 S W v ls) (hlen : ls.length ≤ 1048576) (hrow : ∀ r ∈ ls, r.length ≤ 1048576) :
    Calls Tryz.prog 30 #[v] W fun e' w' => ∃ v' bk, e' = .returned v' ∧ X2 w' v' ls W.heap.size bk ∧ (∀ k, k < ls.length → W.heap.size < bk k) ∧ (W.heap.size < w'.heap.size ∧ PV v') ∧ Below W.heap.size W w' := by
  have hV := h
  obtain ⟨a, c, rfl, hm⟩ := h.form
  have Hrow := Lib.hid hrow; clear hrow
  go_enter Tryz.func30, Tryz.ntmps30
  go_wp2_with (at_make; refine wp_mk _ rfl _ _ 26 rfl 35 (.slice none 0 0) 1 24 Tryz.underlying26 inf_ints ls.length rfl rfl (by omega) (by omega) ?_; intro w1 cs0 hh0 hs0 _ hB0 hsz0)
  go_loopw [4] (fun i wr => ∃ (k : Nat) (cs : Array Value) (bk : Nat → Nat), k ≤ ls.length ∧ i = .int .i64 k ∧ CopyRel W.heap.size wr cs ls k bk ∧ W.heap.size < wr.heap.size ∧ Below W.heap.size W wr) (fun i _ => ls.length - (intOf i).toNat)
  case atStart => exact ⟨0, cs0, fun _ => 0, Nat.zero_le _, rfl, ⟨hh0, by omega, fun j hj => by omega, fun j hj => by omega, fun i j _ hj => by omega⟩, hsz0, hB0⟩
  case round =>
    obtain ⟨k, cs, bk, hk, rfl, hR, hsz, hB⟩ := hrel
    by_cases hkk : k < ls.length
    · obtain ⟨b1, off1, a1, c1, rfl, _, hc1, hr1⟩ := (hV.below hB).cell hkk
      have hrl : (getl ls k).length ≤ 1048576 := Hrow.out _ (getl_mem hkk)
      have HR := Lib.hid hR; clear hR
      go_wp2_with fail
      refine (toInt64S_any _ _ _ hr1 hrl).mono ?_
      rintro e' w2 ⟨rv, rfl, hx, hsz2, hb2⟩
      have hh2 := heap_below HR.out.heap hb2 hsz
      obtain ⟨u0, hco⟩ : ∃ u0, w2.cell? ⟨W.heap.size, k, none⟩ = some u0 := ⟨cs[k]'(by have := HR.out.size; omega), by rw [cell_of_block hh2]; exact Array.getElem?_eq_getElem (by have := HR.out.size; omega)⟩
      have hfo := frozen_of_block hh2 k
      clear hh2
      have hx' := hx
      obtain ⟨a2, c2, rfl, _⟩ := hx'
      have Hx := Lib.hid hx; clear hx
      go_wp2_with fail
      go_roundw
      case rel => exact ⟨k + 1, _, _, by omega, by go_num, HR.out.step hkk hsz hb2 Hx.out hsz2 rfl, by simp; omega, by (repeat (first | (with_reducible refine Below.setCell ?_ ?_ _) | (with_reducible refine Below.alloc ?_ ?_ _) | (with_reducible refine Below.drew ?_) | (with_reducible refine below_drewN ?_ _) | (with_reducible exact Below.refl _ _) | (with_reducible assumption) | (with_reducible refine Below.trans ?_ (Below.mono (by with_reducible assumption) ?_)) | go_size))⟩
      case measure => simp [intOf]; omega
    · obtain rfl : k = ls.length := by omega
      have HR := Lib.hid hR; clear hR
      go_wp2_with fail
      go_ret
      exact ⟨_, bk, rfl, HR.out.done hlen, fun j hj => (HR.out.at_ j hj).1, ⟨hsz, .inr ⟨_, _, _, _, rfl⟩⟩, hB⟩
end Go.Proofs.YtikdbjaimcciiaaGreat
