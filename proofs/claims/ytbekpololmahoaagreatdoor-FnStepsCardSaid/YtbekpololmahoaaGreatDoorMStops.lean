/- No function of the cut is a stopped one. In chunks: in one piece the kernel outgrows its lid. No conditions. -/
import Derived.Test.YtbekpololmahoaaGreatDoorRows
import Derived.JoinedOf
import Derived.Lib.SlicesCompact
import Derived.Test.YtbekpololmahoaaGreatDoorMLib
import Derived.Test.YtbekpololmahoaaGreatDoorMTable
namespace Go.Proofs.YtbekpololmahoaaGreatDoor
set_option linter.unusedVariables false
set_option linter.unusedSimpArgs false
def noStop (fn : Func) : Bool := (Stop.rowOf fn).isNone
theorem all_chunks {α : Type} (p : α → Bool) (n : Nat) (l : List α) : ∀ k, (∀ j, j < k → ((l.drop (n * j)).take n).all p = true) → l.length ≤ n * k → 0 < n → ∀ x ∈ l, p x = true := by
 intro k h hl hn x hx
 obtain ⟨i, hi, rfl⟩ := List.getElem_of_mem hx
 have hj : i / n < k := by
  rw [Nat.div_lt_iff_lt_mul hn, Nat.mul_comm]; omega
 have := h (i / n) hj
 rw [List.all_eq_true] at this
 refine this _ ?_
 have hm := Nat.div_add_mod i n
 have hlt := Nat.mod_lt i hn
 rw [List.mem_iff_getElem]
 refine ⟨i % n, by simp; omega, ?_⟩
 simp [hm]
theorem stops_none {P : Program} (h : ∀ fn ∈ P.funcs.toList, noStop fn = true) : (P.stops == []) = true ∧ (P.stopKnobs == []) = true ∧ P.stopsHeard = true := by
 have h1 : ∀ fn ∈ P.funcs.toList, Stop.rowOf fn = none := fun fn hf => by have := h fn hf; unfold noStop at this; exact Option.isNone_iff_eq_none.1 this
 refine ⟨?_, ?_, ?_⟩
 ·have : (P.funcs.toList.filterMap fun fn => (Stop.rowOf fn).map (·.name)) = [] := List.filterMap_eq_nil_iff.2 fun fn hf => by rw [h1 fn hf]; rfl
  unfold Program.stops; rw [this]; rfl
 ·have : P.funcs.toList.filterMap Stop.rowOf = [] := List.filterMap_eq_nil_iff.2 fun fn hf => h1 fn hf
  unfold Program.stopKnobs; rw [this]; rfl
 ·unfold Program.stopsHeard
  rw [Array.all_eq_true_iff_forall_mem]
  intro fn hf
  rw [h1 fn (by simpa using hf)]; rfl
theorem chunk0 : ((Tryz.prog.funcs.toList.drop (10 * 0)).take 10).all noStop = true := by kernel_rfl
theorem chunk1 : ((Tryz.prog.funcs.toList.drop (10 * 1)).take 10).all noStop = true := by kernel_rfl
theorem chunk2 : ((Tryz.prog.funcs.toList.drop (10 * 2)).take 10).all noStop = true := by kernel_rfl
theorem chunk3 : ((Tryz.prog.funcs.toList.drop (10 * 3)).take 10).all noStop = true := by kernel_rfl
theorem chunk4 : ((Tryz.prog.funcs.toList.drop (10 * 4)).take 10).all noStop = true := by kernel_rfl
theorem chunk5 : ((Tryz.prog.funcs.toList.drop (10 * 5)).take 10).all noStop = true := by kernel_rfl
theorem chunk6 : ((Tryz.prog.funcs.toList.drop (10 * 6)).take 10).all noStop = true := by kernel_rfl
theorem chunk7 : ((Tryz.prog.funcs.toList.drop (10 * 7)).take 10).all noStop = true := by kernel_rfl
theorem chunk8 : ((Tryz.prog.funcs.toList.drop (10 * 8)).take 10).all noStop = true := by kernel_rfl
theorem chunk9 : ((Tryz.prog.funcs.toList.drop (10 * 9)).take 10).all noStop = true := by kernel_rfl
theorem chunk10 : ((Tryz.prog.funcs.toList.drop (10 * 10)).take 10).all noStop = true := by kernel_rfl
theorem chunk11 : ((Tryz.prog.funcs.toList.drop (10 * 11)).take 10).all noStop = true := by kernel_rfl
theorem chunk12 : ((Tryz.prog.funcs.toList.drop (10 * 12)).take 10).all noStop = true := by kernel_rfl
theorem chunk13 : ((Tryz.prog.funcs.toList.drop (10 * 13)).take 10).all noStop = true := by kernel_rfl
theorem chunk14 : ((Tryz.prog.funcs.toList.drop (10 * 14)).take 10).all noStop = true := by kernel_rfl
theorem chunk15 : ((Tryz.prog.funcs.toList.drop (10 * 15)).take 10).all noStop = true := by kernel_rfl
theorem chunk16 : ((Tryz.prog.funcs.toList.drop (10 * 16)).take 10).all noStop = true := by kernel_rfl
theorem chunk17 : ((Tryz.prog.funcs.toList.drop (10 * 17)).take 10).all noStop = true := by kernel_rfl
theorem chunk18 : ((Tryz.prog.funcs.toList.drop (10 * 18)).take 10).all noStop = true := by kernel_rfl
theorem chunk19 : ((Tryz.prog.funcs.toList.drop (10 * 19)).take 10).all noStop = true := by kernel_rfl
theorem chunk20 : ((Tryz.prog.funcs.toList.drop (10 * 20)).take 10).all noStop = true := by kernel_rfl
theorem chunk21 : ((Tryz.prog.funcs.toList.drop (10 * 21)).take 10).all noStop = true := by kernel_rfl
theorem chunk22 : ((Tryz.prog.funcs.toList.drop (10 * 22)).take 10).all noStop = true := by kernel_rfl
theorem chunk23 : ((Tryz.prog.funcs.toList.drop (10 * 23)).take 10).all noStop = true := by kernel_rfl
theorem chunk24 : ((Tryz.prog.funcs.toList.drop (10 * 24)).take 10).all noStop = true := by kernel_rfl
theorem chunk25 : ((Tryz.prog.funcs.toList.drop (10 * 25)).take 10).all noStop = true := by kernel_rfl
theorem chunk26 : ((Tryz.prog.funcs.toList.drop (10 * 26)).take 10).all noStop = true := by kernel_rfl
theorem chunk27 : ((Tryz.prog.funcs.toList.drop (10 * 27)).take 10).all noStop = true := by kernel_rfl
theorem chunk28 : ((Tryz.prog.funcs.toList.drop (10 * 28)).take 10).all noStop = true := by kernel_rfl
theorem chunk29 : ((Tryz.prog.funcs.toList.drop (10 * 29)).take 10).all noStop = true := by kernel_rfl
theorem chunk30 : ((Tryz.prog.funcs.toList.drop (10 * 30)).take 10).all noStop = true := by kernel_rfl
theorem chunk31 : ((Tryz.prog.funcs.toList.drop (10 * 31)).take 10).all noStop = true := by kernel_rfl
theorem chunk32 : ((Tryz.prog.funcs.toList.drop (10 * 32)).take 10).all noStop = true := by kernel_rfl
theorem chunk33 : ((Tryz.prog.funcs.toList.drop (10 * 33)).take 10).all noStop = true := by kernel_rfl
theorem chunk34 : ((Tryz.prog.funcs.toList.drop (10 * 34)).take 10).all noStop = true := by kernel_rfl
theorem chunk35 : ((Tryz.prog.funcs.toList.drop (10 * 35)).take 10).all noStop = true := by kernel_rfl
theorem chunk36 : ((Tryz.prog.funcs.toList.drop (10 * 36)).take 10).all noStop = true := by kernel_rfl
theorem chunk37 : ((Tryz.prog.funcs.toList.drop (10 * 37)).take 10).all noStop = true := by kernel_rfl
theorem chunk38 : ((Tryz.prog.funcs.toList.drop (10 * 38)).take 10).all noStop = true := by kernel_rfl
theorem chunk39 : ((Tryz.prog.funcs.toList.drop (10 * 39)).take 10).all noStop = true := by kernel_rfl
theorem chunk40 : ((Tryz.prog.funcs.toList.drop (10 * 40)).take 10).all noStop = true := by kernel_rfl
theorem chunk41 : ((Tryz.prog.funcs.toList.drop (10 * 41)).take 10).all noStop = true := by kernel_rfl
theorem chunk42 : ((Tryz.prog.funcs.toList.drop (10 * 42)).take 10).all noStop = true := by kernel_rfl
theorem chunk43 : ((Tryz.prog.funcs.toList.drop (10 * 43)).take 10).all noStop = true := by kernel_rfl
theorem chunk44 : ((Tryz.prog.funcs.toList.drop (10 * 44)).take 10).all noStop = true := by kernel_rfl
theorem chunk45 : ((Tryz.prog.funcs.toList.drop (10 * 45)).take 10).all noStop = true := by kernel_rfl
theorem chunk46 : ((Tryz.prog.funcs.toList.drop (10 * 46)).take 10).all noStop = true := by kernel_rfl
theorem chunk47 : ((Tryz.prog.funcs.toList.drop (10 * 47)).take 10).all noStop = true := by kernel_rfl
theorem few : Tryz.prog.funcs.toList.length ≤ 10 * 48 := of_decide_eq_true (by kernel_rfl)
theorem unstopped0 : (Tryz.prog.stops == []) = true ∧ (Tryz.prog.stopKnobs == []) = true ∧ Tryz.prog.stopsHeard = true :=
 stops_none (all_chunks noStop 10 _ 48 (fun j hj => by
  match j, hj with
  | 0, _ => exact chunk0
  | 1, _ => exact chunk1
  | 2, _ => exact chunk2
  | 3, _ => exact chunk3
  | 4, _ => exact chunk4
  | 5, _ => exact chunk5
  | 6, _ => exact chunk6
  | 7, _ => exact chunk7
  | 8, _ => exact chunk8
  | 9, _ => exact chunk9
  | 10, _ => exact chunk10
  | 11, _ => exact chunk11
  | 12, _ => exact chunk12
  | 13, _ => exact chunk13
  | 14, _ => exact chunk14
  | 15, _ => exact chunk15
  | 16, _ => exact chunk16
  | 17, _ => exact chunk17
  | 18, _ => exact chunk18
  | 19, _ => exact chunk19
  | 20, _ => exact chunk20
  | 21, _ => exact chunk21
  | 22, _ => exact chunk22
  | 23, _ => exact chunk23
  | 24, _ => exact chunk24
  | 25, _ => exact chunk25
  | 26, _ => exact chunk26
  | 27, _ => exact chunk27
  | 28, _ => exact chunk28
  | 29, _ => exact chunk29
  | 30, _ => exact chunk30
  | 31, _ => exact chunk31
  | 32, _ => exact chunk32
  | 33, _ => exact chunk33
  | 34, _ => exact chunk34
  | 35, _ => exact chunk35
  | 36, _ => exact chunk36
  | 37, _ => exact chunk37
  | 38, _ => exact chunk38
  | 39, _ => exact chunk39
  | 40, _ => exact chunk40
  | 41, _ => exact chunk41
  | 42, _ => exact chunk42
  | 43, _ => exact chunk43
  | 44, _ => exact chunk44
  | 45, _ => exact chunk45
  | 46, _ => exact chunk46
  | 47, _ => exact chunk47
  | n + 48, h => omega) few (by decide))
theorem unstopped : (Tryz.pinned.checked.prog.stops == []) = true ∧ (Tryz.pinned.checked.prog.stopKnobs == []) = true ∧ Tryz.pinned.checked.prog.stopsHeard = true := unstopped0
theorem depths_snoc {lo x : Nat} (h : lo ≤ x) : depths lo (x + 1) = depths lo x ++ [(x : Int)] := by
 unfold depths
 rw [show x + 1 - lo = (x - lo) + 1 from by omega, List.range_succ, List.map_append]
 simp only [List.map_cons, List.map_nil]
 rw [show lo + (x - lo) = x from by omega]
/-- A run over a list, with a state, that stops as soon as a step says no. -/
def runL {σ α : Type} (f : σ → α → σ × Bool) : σ → List α → σ × Bool
 | s, [] => (s, true)
 | s, k :: ks => if (f s k).2 = true then runL f (f s k).1 ks else ((f s k).1, false)
theorem runL_append {σ α : Type} (f : σ → α → σ × Bool) : ∀ (a b : List α) (s : σ), runL f s (a ++ b) = if (runL f s a).2 = true then runL f (runL f s a).1 b else ((runL f s a).1, false)
 | [], b, s => by simp [runL]
 | k :: a, b, s => by
   simp only [List.cons_append, runL]
   by_cases h : (f s k).2 = true
   ·simp only [h, if_true]; exact runL_append f a b _
   ·simp only [h, if_false]; simp
theorem runL_go {σ α : Type} (f : σ → α → σ × Bool) {a b : List α} {s : σ} (h : (runL f s a).2 = true) : runL f s (a ++ b) = runL f (runL f s a).1 b := by
 rw [runL_append, if_pos h]
theorem runL_stop {σ α : Type} (f : σ → α → σ × Bool) {a b : List α} {s : σ} (h : (runL f s a).2 = false) : runL f s (a ++ b) = ((runL f s a).1, false) := by
 rw [runL_append, if_neg (by rw [h]; decide)]
theorem runL_one {σ α : Type} (f : σ → α → σ × Bool) (k : α) (s : σ) : runL f s [k] = f s k := by
 simp only [runL]
 split
 ·rename_i h; rw [← h]
 ·rename_i h; simp only [Bool.not_eq_true] at h; rw [← h]
/-- The keys that begin with pre, rem cuts more, whose cuts are allowed; tight: from the cuts of fr on. -/
def genF (m : Mk) (A : Nat → Int → Bool) (fr : List Int) : Bool → Nat → List Int → List (List Int)
 | _, 0, pre => if m.l ≤ (kinds pre : Int) then [pre] else []
 | tight, rem + 1, pre => (depths (if tight = true then (geti fr pre.length).toNat else 0) m.d.toNat).flatMap fun x =>
   if (A pre.length x && fitAt m (pre ++ [x]) pre.length) = true then genF m A fr (tight && decide (x = geti fr pre.length)) rem (pre ++ [x]) else []
def brF (m : Mk) (A : Nat → Int → Bool) (fr : List Int) (tight : Bool) (rem : Nat) (pre : List Int) (x : Int) : List (List Int) :=
 if (A pre.length x && fitAt m (pre ++ [x]) pre.length) = true then genF m A fr (tight && decide (x = geti fr pre.length)) rem (pre ++ [x]) else []
def lowF (fr : List Int) (tight : Bool) (n : Nat) : Nat := if tight = true then (geti fr n).toNat else 0
theorem genF_succ (m : Mk) (A : Nat → Int → Bool) (fr : List Int) (tight : Bool) (rem : Nat) (pre : List Int) :
  genF m A fr tight (rem + 1) pre = (depths (lowF fr tight pre.length) m.d.toNat).flatMap (brF m A fr tight rem pre) := rfl
theorem genF_free (m : Mk) (fr : List Int) : ∀ (rem : Nat) (pre : List Int), genF m (fun _ _ => true) fr false rem pre = gen m rem pre
 | 0, pre => rfl
 | rem + 1, pre => by
   rw [genF_succ, gen_succ]
   show (depths 0 m.d.toNat).flatMap _ = _
   congr 1
   funext x
   unfold brF branch
   simp only [Bool.true_and, Bool.false_and]
   rw [genF_free m fr rem (pre ++ [x])]
/-- The spec's count, first and next. -/
def genB (m : Mk) (rem : Nat) (pre : List Int) : List (List Int) := if begins m pre = true then gen m rem pre else []
theorem genB_succ {m : Mk} {rem : Nat} {pre : List Int} (h : begins m pre = true) : genB m (rem + 1) pre = (depths 0 m.d.toNat).flatMap fun x => genB m rem (pre ++ [x]) := by
 unfold genB
 rw [if_pos h, gen_succ]
 congr 1
 funext x
 unfold branch
 rw [begins_snoc, h, Bool.true_and]
theorem genB_nil (m : Mk) : genB m m.c.toNat [] = keysOf m := by
 unfold genB keysOf
 rw [if_pos begins_nil]
theorem branch_genB {m : Mk} {rem : Nat} {pre : List Int} {x : Int} (h : begins m pre = true) : branch m rem pre x = genB m rem (pre ++ [x]) := by
 unfold genB branch
 rw [begins_snoc, h, Bool.true_and]
/-- The keys behind k (of C cuts) that share the first n cuts with it, whatever k is. -/
def behindFrom (m : Mk) (C : Nat) (k : List Int) (n : Nat) : List (List Int) :=
 ((List.range (C - n)).map fun j => C - 1 - j).flatMap fun i => (depths ((geti k i).toNat + 1) m.d.toNat).flatMap fun x => genB m (C - 1 - i) (k.take i ++ [x])
theorem behindFrom_step {m : Mk} {C : Nat} {k : List Int} {n : Nat} (h : n < C) :
  behindFrom m C k n = behindFrom m C k (n + 1) ++ (depths ((geti k n).toNat + 1) m.d.toNat).flatMap fun x => genB m (C - 1 - n) (k.take n ++ [x]) := by
 unfold behindFrom
 rw [show C - n = (C - (n + 1)) + 1 from by omega, List.range_succ, List.map_append, List.flatMap_append]
 congr 1
 simp only [List.map_cons, List.map_nil, List.flatMap_cons, List.flatMap_nil, List.append_nil]
 rw [show C - 1 - (C - (n + 1)) = n from by omega]
theorem behindFrom_end {m : Mk} {C : Nat} {k : List Int} : behindFrom m C k C = [] := by
 unfold behindFrom; rw [Nat.sub_self]; rfl
theorem begins_take {m : Mk} {k : List Int} {n : Nat} (h : begins m k = true) : begins m (k.take n) = true := by
 rw [begins_iff] at h ⊢
 intro i hi
 have hi' : i < n ∧ i < k.length := by simp at hi; omega
 have := h i hi'.2
 rw [← this]
 unfold fitAt
 rw [runAt_take hi'.1, geti_take hi'.1]
 cases i with
 | zero => rfl
 | succ j => rw [geti_take (by simpa using (by omega : j < n))]
theorem behind_after {m : Mk} {C : Nat} {k : List Int} (h : begins m k = true) : ∀ n, behindFrom m C k n = afterFrom m C k n := by
 intro n
 unfold behindFrom afterFrom
 congr 1
 funext i
 congr 1
 funext x
 exact (branch_genB (begins_take h)).symm
def behind (m : Mk) (k : List Int) : List (List Int) := behindFrom m m.c.toNat k 0
/-- All keys, from k on: behind the first comes the next. -/
theorem keys_behind {m : Mk} (hc : 0 ≤ m.c) {L1 L2 : List (List Int)} {k : List Int} (h : keysOf m = L1 ++ k :: L2) : behind m k = L2 := by
 have hk : k ∈ keysOf m := by rw [h]; simp
 have hb := (isKey_iff.1 ((mem_keysOf hc).1 hk)).2.2.1
 unfold behind
 rw [behind_after hb]
 exact keys_after h
/-! ### Runs of equal cuts, told otherwise -/
theorem runAt_char {l : List Int} : ∀ (n r : Nat), 1 ≤ r → r ≤ n + 1 → (∀ j, j < r → geti l (n - j) = geti l n) → (r = n + 1 ∨ geti l (n - r) ≠ geti l n) → runAt l n = r
 | 0, r, h1, h2, _, _ => by have : r = 1 := by omega
                            subst this; rfl
 | n + 1, r, h1, h2, h3, h4 => by
   unfold runAt
   by_cases hr : r = 1
   ·subst hr
    have hne : geti l n ≠ geti l (n + 1) := by
     rcases h4 with h | h
     ·omega
     ·simpa using h
    rw [if_neg (fun e => hne e.symm)]
   ·have h5 := h3 1 (by omega)
    simp only [Nat.add_sub_cancel] at h5
    rw [if_pos h5.symm]
    have := runAt_char (l := l) n (r - 1) (by omega) (by omega) (fun j hj => by
     have := h3 (j + 1) (by omega)
     rw [show n + 1 - (j + 1) = n - j from by omega] at this
     rw [this, h5]) (by
     rcases h4 with h | h
     ·left; omega
     ·right
      rw [show n - (r - 1) = n + 1 - r from by omega, h5]; exact h)
    omega
end Go.Proofs.YtbekpololmahoaaGreatDoor
namespace Go.Proofs.YtbekpololmahoaaGreatDoor
open Go.RowKit
set_option linter.unusedVariables false
set_option linter.unusedSimpArgs false
theorem absolute_any (x : Int) (W : World) (hx : -1000 ≤ x ∧ x ≤ 1000) :
  Calls Tryz.prog 78 #[.int .i64 x] W fun e' w' => e' = .returned (.int .i64 (absI x)) ∧ W = w' := by
 obtain ⟨h1, h2⟩ := hx
 go_enter Tryz.func78, Tryz.ntmps78
 go_wp2
 all_goals go_ret
 all_goals exact ⟨ret_int (by unfold absI; omega), rfl⟩
theorem l01Abs_any (x : Int) (W : World) (hx : -1000 ≤ x ∧ x ≤ 1000) :
  Calls Tryz.prog 110 #[.int .i64 x] W fun e' w' => e' = .returned (.int .i64 (absI x)) ∧ W = w' := by
 obtain ⟨h1, h2⟩ := hx
 go_enter Tryz.func110, Tryz.ntmps110
 go_wp2
 all_goals go_ret
 all_goals exact ⟨ret_int (by unfold absI; omega), rfl⟩
theorem idxR_stepi {g : Int → Bool} {l : List Int} {k : Nat} (h : k < l.length) : idxR g (l.drop k) k = if g (geti l k) then (k : Int) else idxR g (l.drop (k + 1)) (k + 1) := by
 rw [List.drop_eq_getElem_cons h, idxR, geti_eq h]
theorem slIndex_any {S : Nat → Prop} (v : Value) (l : List Int) (x : Int) (W : World) (h : V1 S W v l) :
  Calls Tryz.prog 133 #[v, .int .i64 x] W fun e' w' => e' = .returned (.int .i64 (idxR (fun y => decide (y = x)) l 0)) ∧ W = w' := by
 have hV := h
 obtain ⟨a, c, rfl, hm⟩ := h.form
 go_enter Tryz.func133, Tryz.ntmps133
 go_wp2_with fail
 go_loop [5, 8] (fun _ i => ∃ k : Nat, k ≤ l.length ∧ i = .int .i64 k ∧ idxR (fun y => decide (y = x)) l 0 = idxR (fun y => decide (y = x)) (l.drop k) k) (fun _ i => l.length - (intOf i).toNat)
 case atStart => exact ⟨0, Nat.zero_le _, rfl, rfl⟩
 case round =>
  obtain ⟨k, hk, rfl, hrem⟩ := hrel
  have Hr := Lib.hid hrem; clear hrem
  by_cases hkk : k < l.length
  ·obtain ⟨b1, off1, rfl, _, hc1⟩ := hV.cell hkk
   by_cases he : geti l k = x
   ·have e1 : (x == geti l k) = true := by simp [he]
    have E1 := Lib.hid (decide_eq_true he)
    have He := Lib.hid he; clear he
    go_wp2_with fail
    go_ret
    exact ⟨ret_int (by rw [Hr.out, idxR_stepi hkk, E1.out]; rfl), rfl⟩
   ·have e1 : (x == geti l k) = false := by simp; exact fun e => he e.symm
    have E1 := Lib.hid (decide_eq_false he)
    have He := Lib.hid he; clear he
    go_wp2_with fail
    go_round
    case rel => exact ⟨k + 1, by omega, by go_num, by rw [Hr.out, idxR_stepi hkk, E1.out]; rfl⟩
    case measure => simp [intOf]; omega
  ·have hd : l.drop k = [] := List.drop_of_length_le (by omega)
   have Hd := Lib.hid hd; clear hd
   go_wp2_with fail
   go_ret
   exact ⟨ret_int (by rw [Hr.out, Hd.out]; rfl), rfl⟩
theorem slContains_any {S : Nat → Prop} (v : Value) (l : List Int) (x : Int) (W : World) (h : V1 S W v l) :
  Calls Tryz.prog 107 #[v, .int .i64 x] W fun e' w' => e' = .returned (.bool (hasI l x)) ∧ W = w' := by
 have hfin := (idxR_any (fun y => decide (y = x)) l 0).1
 have Hfin := Lib.hid hfin; clear hfin
 go_enter Tryz.func107, Tryz.ntmps107
 go_wp2_with fail
 refine (slIndex_any _ _ _ _ h).mono ?_
 rintro e' w' ⟨rfl, rfl⟩
 go_wp2_with fail
 go_ret
 exact ⟨ret_bool (by rw [hasI, ← Hfin.out]), rfl⟩
theorem slContains_b {S : Nat → Prop} (v : Value) (l : List Int) (x : Int) (W : World) (r : Bool) (hr : hasI l x = r) (h : V1 S W v l) :
  Calls Tryz.prog 107 #[v, .int .i64 x] W fun e' w' => e' = .returned (.bool r) ∧ W = w' := by subst hr; exact slContains_any v l x W h
theorem hasI_step {l : List Int} {k : Nat} (h : k < l.length) (x : Int) : hasI (l.drop k) x = (decide (geti l k = x) || hasI (l.drop (k + 1)) x) := by
 unfold hasI; rw [any_step _ h, geti_eq h]
theorem l01Has_any {S : Nat → Prop} (v : Value) (l : List Int) (x : Int) (W : World) (h : V1 S W v l) :
  Calls Tryz.prog 111 #[v, .int .i64 x] W fun e' w' => e' = .returned (.bool (hasI l x)) ∧ W = w' := by
 have hV := h
 obtain ⟨a, c, rfl, hm⟩ := h.form
 go_enter Tryz.func111, Tryz.ntmps111
 go_wp2_with fail
 go_loop [5] (fun i => ∃ k : Nat, k ≤ l.length ∧ i = .int .i64 k ∧ hasI l x = hasI (l.drop k) x) (fun i => l.length - (intOf i).toNat)
 case atStart => exact ⟨0, Nat.zero_le _, rfl, rfl⟩
 case round =>
  obtain ⟨k, hk, rfl, hrem⟩ := hrel
  have Hr := Lib.hid hrem; clear hrem
  by_cases hkk : k < l.length
  ·obtain ⟨b1, off1, rfl, _, hc1⟩ := hV.cell hkk
   by_cases he : geti l k = x
   ·have e1 : (geti l k == x) = true := by simp [he]
    have E1 := Lib.hid (decide_eq_true he)
    have He := Lib.hid he; clear he
    go_wp2_with fail
    go_ret
    exact ⟨ret_bool (by rw [Hr.out, hasI_step hkk, E1.out]; rfl), rfl⟩
   ·have e1 : (geti l k == x) = false := by simp [he]
    have E1 := Lib.hid (decide_eq_false he)
    have He := Lib.hid he; clear he
    go_wp2_with fail
    go_round
    case rel => exact ⟨k + 1, by omega, by go_num, by rw [Hr.out, hasI_step hkk, E1.out]; rfl⟩
    case measure => simp [intOf]; omega
  ·have hd : l.drop k = [] := List.drop_of_length_le (by omega)
   have Hd := Lib.hid hd; clear hd
   go_wp2_with fail
   go_ret
   exact ⟨ret_bool (by rw [Hr.out, Hd.out]; rfl), rfl⟩
theorem l01Has_b {S : Nat → Prop} (v : Value) (l : List Int) (x : Int) (W : World) (r : Bool) (hr : hasI l x = r) (h : V1 S W v l) :
  Calls Tryz.prog 111 #[v, .int .i64 x] W fun e' w' => e' = .returned (.bool r) ∧ W = w' := by subst hr; exact l01Has_any v l x W h
theorem different_any {S : Nat → Prop} (v : Value) (l : List Int) (W : World) (h : V1 S W v l) :
  Calls Tryz.prog 77 #[v] W fun e' w' => e' = .returned (.int .i64 (kinds l)) ∧ W = w' := by
 have hV := h
 obtain ⟨a, c, rfl, hm⟩ := h.form
 go_enter Tryz.func77, Tryz.ntmps77
 go_wp2_with fail
 go_loop [3, 4, 5, 8] (fun s _ _ i => ∃ k : Nat, k ≤ l.length ∧ i = .int .i64 k ∧ s = .int .i64 (kindsTo l k)) (fun _ _ _ i => l.length - (intOf i).toNat)
 case atStart => exact ⟨0, Nat.zero_le _, rfl, rfl⟩
 case round =>
  obtain ⟨k, hk, rfl, rfl⟩ := hrel
  have hdl := kindsTo_le l k
  by_cases hkk : k < l.length
  ·obtain ⟨b1, off1, rfl, _, hc1⟩ := hV.cell hkk
   have htk := hV.take (n := k) (by omega)
   have hcap := hV.cap
   cases hh : hasI (l.take k) (geti l k)
   ·have HH := Lib.hid hh; clear hh
    go_wp2_with (go_at_call 107; refine (slContains_b _ _ _ _ _ HH.out htk).mono ?_; rintro e' w' ⟨rfl, rfl⟩)
    go_round
    case rel => exact ⟨k + 1, by omega, by go_num, by rw [kindsTo, if_neg (by rw [HH.out]; decide)]; go_num⟩
    case measure => simp [intOf]; omega
   ·have HH := Lib.hid hh; clear hh
    go_wp2_with (go_at_call 107; refine (slContains_b _ _ _ _ _ HH.out htk).mono ?_; rintro e' w' ⟨rfl, rfl⟩)
    go_round
    case rel => exact ⟨k + 1, by omega, by go_num, by rw [kindsTo, if_pos HH.out]; rfl⟩
    case measure => simp [intOf]; omega
  ·obtain rfl : k = l.length := by omega
   go_wp2_with fail
   go_ret
   exact ⟨rfl, rfl⟩
theorem l02Kinds_q {S : Nat → Prop} (v : Value) (l : List Int) (W : World) (h : V1 S W v l) :
  Calls Tryz.prog 86 #[v] W fun e' w' => e' = .returned (.int .i64 (kinds l)) ∧ ∃ n, w' = W.drewN n := by
 have hV := h
 obtain ⟨a, c, rfl, hm⟩ := h.form
 go_enter Tryz.func86, Tryz.ntmps86
 go_wp2_with fail
 go_loopw [3, 4] (fun s i wr => ∃ k n : Nat, k ≤ l.length ∧ i = .int .i64 k ∧ s = .int .i64 (kindsTo l k) ∧ wr = W.drewN n) (fun _ i _ => l.length - (intOf i).toNat)
 case atStart => exact ⟨0, 0, Nat.zero_le _, rfl, rfl, rfl⟩
 case round =>
  obtain ⟨k, n, hk, rfl, rfl, rfl⟩ := hrel
  have hdl := kindsTo_le l k
  by_cases hkk : k < l.length
  ·obtain ⟨b1, off1, rfl, _, hc1⟩ := hV.cell hkk
   have htk := hV.take (n := k) (by omega)
   have hcap := hV.cap
   cases hh : hasI (l.take k) (geti l k)
   ·have HH := Lib.hid hh; clear hh
    go_wp2_with fail
    go_quiet ((go_at_call 111; first | exact quiet_same (l01Has_b _ _ _ _ _ HH.out (V1.drewN htk)) | exact quiet_same0 (l01Has_b _ _ _ _ _ HH.out (V1.drewN htk))))
    go_wp2_with fail
    go_roundw
    case rel => exact ⟨k + 1, _, by omega, by go_num, by rw [kindsTo, if_neg (by rw [HH.out]; decide)]; go_num, by first | rfl | rw [World.drewN_drewN]⟩
    case measure => simp [intOf]; omega
   ·have HH := Lib.hid hh; clear hh
    go_wp2_with fail
    go_quiet ((go_at_call 111; first | exact quiet_same (l01Has_b _ _ _ _ _ HH.out (V1.drewN htk)) | exact quiet_same0 (l01Has_b _ _ _ _ _ HH.out (V1.drewN htk))))
    go_wp2_with fail
    go_roundw
    case rel => exact ⟨k + 1, _, by omega, by go_num, by rw [kindsTo, if_pos HH.out]; rfl, by first | rfl | rw [World.drewN_drewN]⟩
    case measure => simp [intOf]; omega
  ·obtain rfl : k = l.length := by omega
   go_wp2_with fail
   go_ret
   exact ⟨rfl, _, by first | rfl | rw [World.drewN_drewN]⟩
theorem compact_sorted (d : Array Int) (hs : ∀ i j, i ≤ j → j < d.size → d[i]! ≤ d[j]!) : ∀ m, m ≤ d.size →
  (Go.Lib.compactUpTo d m).Pairwise (· < ·) ∧ (∀ x ∈ Go.Lib.compactUpTo d m, ∃ j, j < m ∧ x = d[j]!) ∧ ∀ j, j < m → d[j]! ∈ Go.Lib.compactUpTo d m
 | 0, _ => by
   have : Go.Lib.compactUpTo d 0 = [] := by simp [Go.Lib.compactUpTo]
   rw [this]
   exact ⟨List.Pairwise.nil, by simp, fun j hj => by omega⟩
 | m + 1, hm => by
   obtain ⟨h1, h2, h3⟩ := compact_sorted d hs m (by omega)
   rw [Go.Lib.compactUpTo_succ]
   by_cases hk : Go.Lib.keeps d m = true
   ·rw [if_pos hk]
    refine ⟨?_, ?_, ?_⟩
    ·rw [List.pairwise_append]
     refine ⟨h1, List.pairwise_singleton _ _, fun x hx y hy => ?_⟩
     obtain rfl := List.mem_singleton.1 hy
     obtain ⟨j, hj, rfl⟩ := h2 x hx
     have hne : d[m]! ≠ d[m - 1]! := by
      intro e
      rw [Go.Lib.keeps_neg (by omega) e] at hk
      cases hk
     have ha := hs j (m - 1) (by omega) (by omega)
     have hb := hs (m - 1) m (by omega) (by omega)
     omega
    ·intro x hx
     rcases List.mem_append.1 hx with hx | hx
     ·obtain ⟨j, hj, e⟩ := h2 x hx; exact ⟨j, by omega, e⟩
     ·exact ⟨m, by omega, List.mem_singleton.1 hx⟩
    ·intro j hj
     by_cases e : j = m
     ·subst e; exact List.mem_append.2 (.inr (List.mem_singleton.2 rfl))
     ·exact List.mem_append.2 (.inl (h3 j (by omega)))
   ·rw [if_neg hk, List.append_nil]
    have hm0 : m ≠ 0 := fun e => hk (by subst e; exact Go.Lib.keeps_lt_one d 0 (by omega))
    have he : d[m]! = d[m - 1]! := Classical.byContradiction fun hne => hk (Go.Lib.keeps_pos hne)
    refine ⟨h1, fun x hx => ?_, fun j hj => ?_⟩
    ·obtain ⟨j, hj, e⟩ := h2 x hx; exact ⟨j, by omega, e⟩
    ·by_cases e : j = m
     ·subst e; rw [he]; exact h3 _ (by omega)
     ·exact h3 j (by omega)
def diffI (l : List Int) : List Int := Go.Lib.compact (l.mergeSort fun x y => decide (x ≤ y))
theorem diffI_sort (l : List Int) : (diffI l).Pairwise (· < ·) ∧ ∀ x, x ∈ diffI l ↔ x ∈ l := by
 have hp := List.pairwise_mergeSort (le := fun x y : Int => decide (x ≤ y)) (fun a b c h1 h2 => by simp at *; omega) (fun a b => by simp; omega) l
 have hm : ∀ x, x ∈ (l.mergeSort fun x y => decide (x ≤ y)) ↔ x ∈ l := fun x => List.mem_mergeSort
 unfold diffI Go.Lib.compact
 generalize (l.mergeSort fun x y => decide (x ≤ y)) = z at hp hm
 have hs : ∀ i j, i ≤ j → j < z.toArray.size → z.toArray[i]! ≤ z.toArray[j]! := fun i j hij hj => by
  have hj' : j < z.length := by simpa using hj
  rw [getElem!_pos _ i (by simpa using (show i < z.length by omega)), getElem!_pos _ j hj]
  simp only [List.getElem_toArray]
  by_cases e : i = j
  ·subst e; exact Int.le_refl _
  ·have := List.pairwise_iff_getElem.1 hp i j (by omega) hj' (by omega)
   simpa using this
 obtain ⟨h1, h2, h3⟩ := compact_sorted z.toArray hs z.length (by simp)
 refine ⟨h1, fun x => ?_⟩
 rw [← hm]
 constructor
 ·intro hx
  obtain ⟨j, hj, rfl⟩ := h2 x hx
  rw [getElem!_pos _ j (by simpa using hj)]
  simp
 ·intro hx
  obtain ⟨j, hj, rfl⟩ := List.getElem_of_mem hx
  have := h3 j hj
  rw [getElem!_pos _ j (by simpa using hj)] at this
  simpa using this
theorem sorted_ext : ∀ {a b : List Int}, a.Pairwise (· < ·) → b.Pairwise (· < ·) → (∀ x, x ∈ a ↔ x ∈ b) → a = b
 | [], [], _, _, _ => rfl
 | [], y :: b, _, _, h => by have := (h y).2 (List.mem_cons_self ..); cases this
 | x :: a, [], _, _, h => by have := (h x).1 (List.mem_cons_self ..); cases this
 | x :: a, y :: b, ha, hb, h => by
   rw [List.pairwise_cons] at ha hb
   have hxy : x = y := by
    rcases List.mem_cons.1 ((h x).1 (List.mem_cons_self ..)) with e | e
    ·exact e
    ·rcases List.mem_cons.1 ((h y).2 (List.mem_cons_self ..)) with e2 | e2
     ·exact e2.symm
     ·have := ha.1 y e2; have := hb.1 x e; omega
   subst hxy
   congr 1
   refine sorted_ext ha.2 hb.2 fun z => ⟨fun hz => ?_, fun hz => ?_⟩
   ·rcases List.mem_cons.1 ((h z).1 (List.mem_cons_of_mem _ hz)) with e | e
    ·subst e; have := ha.1 z hz; omega
    ·exact e
   ·rcases List.mem_cons.1 ((h z).2 (List.mem_cons_of_mem _ hz)) with e | e
    ·subst e; have := hb.1 z hz; omega
    ·exact e
/-- Cut i of each key. -/
def colOf (keys : List (List Int)) (i : Nat) : List Int := keys.map fun k => geti k i
theorem colOf_len (keys : List (List Int)) (i : Nat) : (colOf keys i).length = keys.length := by simp [colOf]
theorem colOf_take {keys : List (List Int)} {i k : Nat} (h : k < keys.length) : (colOf keys i).take (k + 1) = (colOf keys i).take k ++ [geti (getl keys k) i] := by
 rw [take_geti (by rw [colOf_len]; exact h)]
 congr 2
 rw [geti_eq (by rw [colOf_len]; exact h)]
 simp [colOf, getl_eq h]
/-- The sets of the first n chambers. -/
def hullR (keys : List (List Int)) : Nat → List (List Int)
 | 0 => []
 | n + 1 => hullR keys n ++ [diffI (colOf keys n)]
theorem hullR_len (keys : List (List Int)) : ∀ n, (hullR keys n).length = n
 | 0 => rfl
 | n + 1 => by simp [hullR, hullR_len keys n]
/-- One of the first k keys has cut d in chamber i. -/
def isCut (keys : List (List Int)) (i : Nat) (d : Int) : Nat → Bool
 | 0 => false
 | k + 1 => isCut keys i d k || decide (geti (getl keys k) i = d)
theorem isCut_iff {keys : List (List Int)} {i : Nat} {d : Int} : ∀ {k}, isCut keys i d k = true ↔ ∃ j, j < k ∧ geti (getl keys j) i = d
 | 0 => by simp [isCut]
 | k + 1 => by
   simp only [isCut, Bool.or_eq_true, decide_eq_true_eq, isCut_iff (k := k)]
   constructor
   ·rintro (⟨j, h1, h2⟩ | h)
    ·exact ⟨j, by omega, h2⟩
    ·exact ⟨k, by omega, h⟩
   ·rintro ⟨j, h1, h2⟩
    by_cases e : j = k
    ·subst e; exact .inr h2
    ·exact .inl ⟨j, by omega, h2⟩
/-- The depths below D that some key has in chamber i. -/
def dset (keys : List (List Int)) (i : Nat) : Nat → List Int
 | 0 => []
 | d + 1 => if isCut keys i d keys.length = true then dset keys i d ++ [(d : Int)] else dset keys i d
theorem dset_len (keys : List (List Int)) (i : Nat) : ∀ d, (dset keys i d).length ≤ d
 | 0 => Nat.le_refl _
 | d + 1 => by have := dset_len keys i d; unfold dset; split <;> simp <;> omega
theorem mem_dset {keys : List (List Int)} {i : Nat} {x : Int} : ∀ {D}, x ∈ dset keys i D ↔ 0 ≤ x ∧ x < D ∧ ∃ j, j < keys.length ∧ geti (getl keys j) i = x
 | 0 => by simp [dset]; intros; omega
 | D + 1 => by
   unfold dset
   split
   ·rename_i h
    rw [List.mem_append, mem_dset]
    constructor
    ·rintro (⟨h1, h2, h3⟩ | h1)
     ·exact ⟨h1, by omega, h3⟩
     ·simp at h1; subst h1; exact ⟨by omega, by omega, isCut_iff.1 h⟩
    ·rintro ⟨h1, h2, h3⟩
     by_cases e : x = D
     ·subst e; right; simp
     ·exact .inl ⟨h1, by omega, h3⟩
   ·rename_i h
    rw [mem_dset]
    constructor
    ·rintro ⟨h1, h2, h3⟩; exact ⟨h1, by omega, h3⟩
    ·rintro ⟨h1, h2, h3⟩
     refine ⟨h1, ?_, h3⟩
     by_cases e : x = D
     ·subst e; exact absurd (isCut_iff.2 h3) h
     ·omega
theorem dset_sorted (keys : List (List Int)) (i : Nat) : ∀ D, (dset keys i D).Pairwise (· < ·)
 | 0 => List.Pairwise.nil
 | D + 1 => by
   unfold dset
   split
   ·rw [List.pairwise_append]
    refine ⟨dset_sorted keys i D, List.pairwise_singleton _ _, fun x hx y hy => ?_⟩
    obtain rfl := List.mem_singleton.1 hy
    exact (mem_dset.1 hx).2.1
   ·exact dset_sorted keys i D
theorem dset_eq {keys : List (List Int)} {i D : Nat} (h : ∀ j, j < keys.length → 0 ≤ geti (getl keys j) i ∧ geti (getl keys j) i < D) : dset keys i D = diffI (colOf keys i) := by
 obtain ⟨h1, h2⟩ := diffI_sort (colOf keys i)
 refine sorted_ext (dset_sorted _ _ _) h1 fun x => ?_
 rw [h2, mem_dset]
 unfold colOf
 rw [List.mem_map]
 constructor
 ·rintro ⟨_, _, j, hj, rfl⟩; exact ⟨_, getl_mem hj, rfl⟩
 ·rintro ⟨k, hk, rfl⟩
  obtain ⟨j, hj, rfl⟩ := List.getElem_of_mem hk
  rw [← getl_eq hj]
  exact ⟨(h j hj).1, (h j hj).2, j, hj, rfl⟩
/-- The cuts among the first k rows that open door d. -/
def doorCuts (t cuts : List (List Int)) (d : Nat) : Nat → List (List Int)
 | 0 => []
 | k + 1 => if geti (getl t k) d = 1 then doorCuts t cuts d k ++ [getl cuts k] else doorCuts t cuts d k
theorem doorCuts_len (t cuts : List (List Int)) (d : Nat) : ∀ k, (doorCuts t cuts d k).length ≤ k
 | 0 => Nat.le_refl _
 | k + 1 => by have := doorCuts_len t cuts d k; unfold doorCuts; split <;> simp <;> omega
theorem doorCuts_map (t cuts : List (List Int)) (d : Nat) : ∀ k, doorCuts t cuts d k = (rowsF t d k).map fun x => getl cuts x.toNat
 | 0 => rfl
 | k + 1 => by
   rw [doorCuts, rowsF, doorCuts_map t cuts d k]
   split
   ·simp
   ·rfl
theorem mem_doorCuts {t cuts : List (List Int)} {d k : Nat} {x : List Int} (h : x ∈ doorCuts t cuts d k) : ∃ i, i < k ∧ x = getl cuts i ∧ geti (getl t i) d = 1 := by
 rw [doorCuts_map, List.mem_map] at h
 obtain ⟨y, hy, rfl⟩ := h
 obtain ⟨i, h1, rfl, h2⟩ := mem_rowsF.1 hy
 exact ⟨i, h1, by simp, h2⟩
/-- Of the rows rs, the cuts of those below n. -/
def cutsAt (cuts : List (List Int)) (n : Nat) (rs : List Int) : List (List Int) := (rs.filter fun x => decide (x < (n : Int))).map fun x => getl cuts x.toNat
theorem cutsAt_len (cuts : List (List Int)) (n : Nat) (rs : List Int) : (cutsAt cuts n rs).length ≤ rs.length := by
 unfold cutsAt; rw [List.length_map]; exact List.length_filter_le _ _
theorem cutsAt_step {cuts : List (List Int)} {n j : Nat} {rs : List Int} (h : j < rs.length) : cutsAt cuts n (rs.take (j + 1)) = cutsAt cuts n (rs.take j) ++ if geti rs j < n then [getl cuts (geti rs j).toNat] else [] := by
 unfold cutsAt
 rw [take_geti h, List.filter_append, List.map_append]
 congr 1
 split <;> simp_all
theorem cutsAt_all {t cuts : List (List Int)} {d n : Nat} : ∀ {k}, cutsAt cuts n (rowsF t d k) = doorCuts t cuts d (min k n)
 | 0 => by simp [cutsAt, rowsF, doorCuts]
 | k + 1 => by
   have ih := cutsAt_all (t := t) (cuts := cuts) (d := d) (n := n) (k := k)
   unfold cutsAt at ih ⊢
   rw [rowsF]
   by_cases hk : k < n
   ·rw [show min (k + 1) n = min k n + 1 from by omega, doorCuts, ← ih, show min k n = k from by omega]
    split
    ·rw [List.filter_append, List.map_append]; simp [hk]
    ·rfl
   ·rw [show min (k + 1) n = min k n from by omega, ← ih]
    split
    ·rw [List.filter_append, List.map_append]; simp; omega
    ·rfl
/-- The lock of door d, and all locks. -/
def lockR (n : Nat) (t cuts : List (List Int)) (d : Nat) : List (List Int) := hullR (doorCuts t cuts d cuts.length) n
def locksTo (n : Nat) (t cuts : List (List Int)) : Nat → List (List (List Int))
 | 0 => []
 | d + 1 => locksTo n t cuts d ++ [lockR n t cuts d]
theorem locksTo_len (n : Nat) (t cuts : List (List Int)) : ∀ d, (locksTo n t cuts d).length = d
 | 0 => rfl
 | d + 1 => by simp [locksTo, locksTo_len n t cuts d]
theorem getll_append1 {ls : List (List (List Int))} {l : List (List Int)} {k : Nat} (h : k < ls.length) : getll (ls ++ [l]) k = getll ls k := by
 simp [getll, List.getElem?_append_left h]
theorem getll_last {ls : List (List (List Int))} {l : List (List Int)} : getll (ls ++ [l]) ls.length = l := by
 unfold getll; simp
theorem locksTo_get {n : Nat} {t cuts : List (List Int)} : ∀ {D d : Nat}, d < D → getll (locksTo n t cuts D) d = lockR n t cuts d
 | D + 1, d, h => by
   have hl := locksTo_len n t cuts D
   by_cases e : d = D
   ·subst e
    rw [locksTo]
    unfold getll
    rw [List.getD_eq_getElem?_getD, List.getElem?_append_right (by omega)]
    simp [hl]
   ·rw [locksTo, getll_append1 (by omega)]
    exact locksTo_get (by omega)
/-- A lock of sets l is opened by cuts. -/
def opensB (l : List (List Int)) (cuts : List Int) : Bool := upAll (fun i => hasI (getl l i) (geti cuts i)) cuts.length 0
theorem getl_app1 {ls : List (List Int)} {l : List Int} {k : Nat} (h : k < ls.length) : getl (ls ++ [l]) k = getl ls k := by
 simp [getl, List.getElem?_append_left h]
theorem getl_app2 {ls : List (List Int)} {l : List Int} : getl (ls ++ [l]) ls.length = l := by
 unfold getl; simp
/-- v is a slice of the call's own (from block B on); its rows hold ls, each in a block of its own. -/
def Out2 (B : Nat) (w : World) (v : Value) (ls : List (List Int)) : Prop :=
 ∃ (vs : List Value) (bk : Nat → Nat), w.ownsRow B 57 1 v ls.length vs ∧ (∀ k, k < ls.length → ∃ rv, vs[k]? = some rv ∧ X1 w rv (getl ls k) (bk k)) ∧
   (∀ k, k < ls.length → getl ls k ≠ [] → B ≤ bk k ∧ v.ownBlock ≠ some (bk k) ∧ ∀ j, j < ls.length → j ≠ k → getl ls j ≠ [] → bk j ≠ bk k)
theorem Out2.nil {B : Nat} {w : World} {v : Value} (h : w.ownsRow B 57 1 v 0 []) : Out2 B w v [] := ⟨[], fun _ => 0, h, fun k hk => by simp at hk, fun k hk => by simp at hk⟩
theorem Out2.start (w : World) (B : Nat) (hb : B ≤ w.heap.size) : Out2 B (w.alloc (.cells #[] 57)) (.slice (some ⟨w.heap.size, 0, none⟩) 0 0) [] := Out2.nil (own_lit0 w B _ 1 hb)
theorem Out2.keep {B : Nat} {w w' : World} {v : Value} {ls : List (List Int)} (h : Out2 B w v ls) (hb : Below w.heap.size w w') : Out2 B w' v ls := by
 obtain ⟨vs, bk, h1, h2, h3⟩ := h
 refine ⟨vs, bk, own_chg h1 (Chg.of_below (F := fun _ => False) hb) (fun _ _ h => h), fun k hk => ?_, h3⟩
 obtain ⟨rv, h4, h5⟩ := h2 k hk
 exact ⟨rv, h4, h5.keep fun hn => hb.block _ (h5.lt hn)⟩
theorem Out2.form {B : Nat} {w : World} {v : Value} {ls : List (List Int)} (h : Out2 B w v ls) : ∃ a c, v = .slice a ls.length c ∧ ls.length ≤ c ∧ c ≤ maxLen := by
 obtain ⟨vs, bk, h1, h2, h3⟩ := h; exact own_form h1
theorem Out2.own {B : Nat} {w : World} {v : Value} {ls : List (List Int)} (h : Out2 B w v ls) : ∃ vs, w.ownsRow B 57 1 v ls.length vs := by
 obtain ⟨vs, bk, h1, h2, h3⟩ := h; exact ⟨vs, h1⟩
/-- One row more, made since. w: before the row was begun; w2: the row is made; w1: it is appended. -/
theorem Out2.push {B : Nat} {w w2 w1 : World} {v v1 rv : Value} {ls : List (List Int)} {l : List Int} {b : Nat} {vs : List Value} {bk : Nat → Nat}
  (h1 : w.ownsRow B 57 1 v ls.length vs) (h2 : ∀ k, k < ls.length → ∃ rv, vs[k]? = some rv ∧ X1 w rv (getl ls k) (bk k))
  (h3 : ∀ k, k < ls.length → getl ls k ≠ [] → B ≤ bk k ∧ v.ownBlock ≠ some (bk k) ∧ ∀ j, j < ls.length → j ≠ k → getl ls j ≠ [] → bk j ≠ bk k)
  (hB : B ≤ w.heap.size) (hb : Below w.heap.size w w2) (hx : X1 w2 rv l b) (hbn : l ≠ [] → w.heap.size ≤ b)
  (hown : w1.ownsRow B 57 1 v1 (ls.length + 1) (vs ++ [rv])) (hg : w2.grownBy w1 v.ownBlock) (hblk : v1.ownBlock = v.ownBlock ∨ ∃ g, v1.ownBlock = some g ∧ w2.heap.size ≤ g) : Out2 B w1 v1 (ls ++ [l]) := by
 have hvl : ∀ g, v.ownBlock = some g → g < w.heap.size := fun g hgg => (h1.lt g hgg).2
 have hxl : ∀ k, k < ls.length → getl ls k ≠ [] → bk k < w.heap.size := fun k hk hn => by
  obtain ⟨rv, _, h⟩ := h2 k hk; exact h.lt hn
 have hne1 : ∀ c, c < w2.heap.size → v.ownBlock ≠ some c → v1.ownBlock ≠ some c := fun c hc hn e => by
  rcases hblk with e1 | ⟨g, e1, hge⟩
  ·exact hn (e1.symm.trans e)
  ·rw [e] at e1; cases e1; omega
 have hvl1 := h1.1
 refine ⟨vs ++ [rv], fun k => if k < ls.length then bk k else b, by simpa using hown, fun k hk => ?_, fun k hk hn => ?_⟩
 ·by_cases hkl : k < ls.length
  ·obtain ⟨rv', h4, h5⟩ := h2 k hkl
   refine ⟨rv', by rw [List.getElem?_append_left (by omega)]; exact h4, ?_⟩
   rw [getl_app1 hkl]
   simp only [hkl, if_true]
   exact h5.keep fun hn => by
    rw [hg.block _ (Nat.lt_of_lt_of_le (hxl k hkl hn) hb.size) (fun e => (h3 k hkl hn).2.1 e.symm), hb.block _ (hxl k hkl hn)]
  ·have e : k = ls.length := by simp at hk; omega
   subst e
   refine ⟨rv, by rw [List.getElem?_append_right (by omega)]; simp [show ls.length - vs.length = 0 by omega], ?_⟩
   rw [getl_app2]
   simp only [Nat.lt_irrefl, if_false]
   exact hx.keep fun hn => hg.block _ (hx.lt hn) (fun e => by have := hvl b e.symm; have := hbn hn; omega)
 ·by_cases hkl : k < ls.length
  ·rw [getl_app1 hkl] at hn
   simp only [hkl, if_true]
   obtain ⟨h4, h5, h6⟩ := h3 k hkl hn
   refine ⟨h4, hne1 _ (Nat.lt_of_lt_of_le (hxl k hkl hn) hb.size) h5, fun j hj hjk hnj => ?_⟩
   by_cases hjl : j < ls.length
   ·rw [getl_app1 hjl] at hnj
    simp only [hjl, if_true]
    exact h6 j hjl hjk hnj
   ·have e : j = ls.length := by simp at hj; omega
    subst e
    rw [getl_app2] at hnj
    simp only [Nat.lt_irrefl, if_false]
    have := hbn hnj; have := hxl k hkl hn; omega
  ·have e : k = ls.length := by simp at hk; omega
   subst e
   rw [getl_app2] at hn
   simp only [Nat.lt_irrefl, if_false]
   refine ⟨by have := hbn hn; omega, hne1 _ (hx.lt hn) (fun e => by have := hvl b e; have := hbn hn; omega), fun j hj hjk hnj => ?_⟩
   have hjl : j < ls.length := by simp at hj; omega
   rw [getl_app1 hjl] at hnj
   simp only [hjl, if_true]
   have := hbn hn; have := hxl j hjl hnj; omega
theorem Out2.f2 {B : Nat} {w : World} {v : Value} {ls : List (List Int)} (h : Out2 B w v ls) : F2 B w v ls := by
 obtain ⟨vs, bk, h1, h2, h3⟩ := h
 have hvl := h1.1
 have hB := h1.lt
 rcases h1.2 with ⟨rfl, h0⟩ | ⟨g, cap, cur, rfl, hb, hh, hc, hm, hs, ht⟩
 ·refine ⟨0, bk, ⟨none, 0, by rw [h0], by omega, Nat.zero_le _, fun hn => absurd (List.eq_nil_of_length_eq_zero h0) hn, fun k hk => by omega⟩, fun hn => absurd (List.eq_nil_of_length_eq_zero h0) hn, fun k hk => by omega⟩
 ·refine ⟨g, bk, ⟨_, cap, rfl, hc, hm, fun _ => ⟨0, cur, _, rfl, hh, fun k hk => ?_⟩, fun k hk hn => ?_⟩, fun _ => hb, fun k hk hn => (h3 k hk hn).1⟩
  ·obtain ⟨rv, h4, h5⟩ := h2 k hk
   refine ⟨rv, ?_, h5⟩
   have h6 : (cur.toList.take (ls.length * 1))[k]? = vs[k]? := by rw [ht]
   rw [List.getElem?_take, if_pos (by omega), h4] at h6
   rw [Nat.zero_add, ← Array.getElem?_toList, h6]
  ·obtain ⟨h4, h5, h6⟩ := h3 k hk hn
   exact ⟨fun e => h5 (by rw [e]; rfl), h6⟩
theorem sameRun_q {S : Nat → Prop} (v : Value) (l : List Int) (W : World) (h : V1 S W v l) (hn : 0 < l.length) :
  Calls Tryz.prog 79 #[v] W fun e' w' => e' = .returned (.int .i64 (runAt l (l.length - 1))) ∧ ∃ n, w' = W.drewN n := by
 have hV := h
 obtain ⟨a, c, rfl, hm⟩ := h.form
 go_enter Tryz.func79, Tryz.ntmps79
 go_wp2_with fail
 go_loopw [3] (fun i wr => ∃ r n : Nat, 1 ≤ r ∧ r ≤ l.length ∧ i = .int .i64 r ∧ (∀ j, j < r → geti l (l.length - 1 - j) = geti l (l.length - 1)) ∧ wr = W.drewN n) (fun i _ => l.length - (intOf i).toNat)
 case atStart => exact ⟨1, 0, Nat.le_refl _, by omega, rfl, fun j hj => by rw [show j = 0 from by omega, Nat.sub_zero], rfl⟩
 case round =>
  obtain ⟨r, n, hr1, hr2, rfl, hall, rfl⟩ := hrel
  have Hall := Lib.hid hall; clear hall
  by_cases hkk : r < l.length
  ·obtain ⟨b1, off1, rfl, _, hc1⟩ := hV.cell (k := l.length - 1 - r) (by omega)
   obtain ⟨b2, off2, e2, _, hc2⟩ := hV.cell (k := l.length - 1) (by omega)
   simp only [Option.some.injEq, Addr.mk.injEq, and_true] at e2
   obtain ⟨rfl, rfl⟩ := e2
   by_cases he : geti l (l.length - 1 - r) = geti l (l.length - 1)
   ·have e1 : (geti l (l.length - 1 - r) == geti l (l.length - 1)) = true := by simp [he]
    have He := Lib.hid he; clear he
    go_wp2_with fail
    go_quiet (fail)
    go_wp2_with fail
    go_roundw
    case rel => exact ⟨r + 1, _, by omega, by omega, by go_num, fun j hj => by
     by_cases e : j = r
     ·subst e; exact He.out
     ·exact Hall.out j (by omega), by first | rfl | rw [World.drewN_drewN]⟩
    case measure => simp [intOf]; omega
   ·have e1 : (geti l (l.length - 1 - r) == geti l (l.length - 1)) = false := by simp [he]
    have hfin : runAt l (l.length - 1) = r := runAt_char _ _ hr1 (by omega) Hall.out (.inr he)
    have He := Lib.hid he; clear he
    have Hf := Lib.hid hfin; clear hfin
    go_wp2_with fail
    go_quiet (fail)
    go_wp2_with fail
    go_ret
    exact ⟨ret_int (by rw [Hf.out]), _, by first | rfl | rw [World.drewN_drewN]⟩
  ·obtain rfl : r = l.length := by omega
   have hfin : runAt l (l.length - 1) = l.length := runAt_char _ _ hr1 (by omega) Hall.out (.inl (by omega))
   have Hf := Lib.hid hfin; clear hfin
   have hd : decide (l.length < l.length) = false := by simp
   go_wp2_with fail
   go_quiet (fail)
   go_wp2_with fail
   go_ret
   exact ⟨ret_int (by rw [Hf.out]), _, by first | rfl | rw [World.drewN_drewN]⟩
theorem sameRun_b {S : Nat → Prop} (v : Value) (l : List Int) (W : World) (r : Int) (hr : ((runAt l (l.length - 1) : Nat) : Int) = r) (h : V1 S W v l) (hn : 0 < l.length) :
  Calls Tryz.prog 79 #[v] W fun e' w' => e' = .returned (.int .i64 r) ∧ ∃ n, w' = W.drewN n := by subst hr; exact sameRun_q v l W h hn
theorem absolute_b (x q : Int) (W : World) (hq : absI x = q) (hx : -1000 ≤ x ∧ x ≤ 1000) :
  Calls Tryz.prog 78 #[.int .i64 x] W fun e' w' => e' = .returned (.int .i64 q) ∧ W = w' := by subst hq; exact absolute_any x W hx
theorem l01Abs_b (x q : Int) (W : World) (hq : absI x = q) (hx : -1000 ≤ x ∧ x ≤ 1000) :
  Calls Tryz.prog 110 #[.int .i64 x] W fun e' w' => e' = .returned (.int .i64 q) ∧ W = w' := by subst hq; exact l01Abs_any x W hx
theorem two_boxes (W : World) (cs ds : Array Value) (T U : TypeId) : ∃ W1, W1 = (W.alloc (.cells cs T)).alloc (.cells ds U) ∧ Below W.heap.size W W1 ∧ W.heap.size + 1 < W1.heap.size ∧ Hid (W1.heap.size = W.heap.size + 1 + 1) ∧ (∀ o, W1.cell? ⟨W.heap.size, o, none⟩ = cs[o]?) ∧ W1.heap[W.heap.size]? = some (.cells cs T (0, 0)) ∧
  (∀ o, W1.cell? ⟨W.heap.size + 1, o, none⟩ = ds[o]?) ∧ W1.heap[W.heap.size + 1]? = some (.cells ds U (0, 0)) := by
 have h0 : ((W.alloc (.cells cs T)).alloc (.cells ds U)).heap[W.heap.size]? = some (.cells cs T (0, 0)) := by
  rw [Below.heap_alloc _ _ _ (by simp)]; exact heap_alloc_self _ _
 have h1 : ((W.alloc (.cells cs T)).alloc (.cells ds U)).heap[W.heap.size + 1]? = some (.cells ds U (0, 0)) := by
  have := heap_alloc_self (W.alloc (.cells cs T)) (.cells ds U)
  simpa using this
 exact ⟨_, rfl, ((Below.refl _ _).alloc (Nat.le_refl _) _).alloc (by simp) _, by simp, Lib.hid (by simp), fun o => cell_of_block h0 o, h0, fun o => cell_of_block h1 o, h1⟩
set_option maxRecDepth 100000 in
set_option maxHeartbeats 2000000 in
theorem l04Hull_any {S : Nat → Prop} (m : Mk) (hm : m.ok = true) (v : Value) (keys : List (List Int)) (n : Nat) (W : World) (hn : (n : Int) = m.c) (h : V2 S W v keys) (hl : keys.length ≤ 300)
  (hlen : ∀ k, k < keys.length → (getl keys k).length = n) (hrg : ∀ k, k < keys.length → ∀ i, i < n → 0 ≤ geti (getl keys k) i ∧ geti (getl keys k) i ≤ m.d - 1) :
  Calls Tryz.prog 136 #[.agg #[.int .i64 m.c, .int .i64 m.d, .int .i64 m.s, .int .i64 m.e, .int .i64 m.l], v] W fun e' w' => ∃ v', e' = .returned (.agg #[v']) ∧ F2 W.heap.size w' v' (hullR keys n) ∧ Below W.heap.size W w' := by
 have hmk := Mk.ok_iff.1 hm
 obtain ⟨a, c, rfl, hmx⟩ := h.form
 obtain ⟨d, hd1, hd2, hd8⟩ : ∃ d : Nat, (d : Int) ≤ m.d ∧ m.d ≤ d ∧ d ≤ 8 := ⟨m.d.toNat, by omega, by omega, by omega⟩
 have hn1 : (n : Int) ≤ m.c := by omega
 have hn2 : m.c ≤ n := by omega
 have hn6 : n ≤ 6 := by omega
 have hset : ∀ i, i < n → dset keys i d = diffI (colOf keys i) := fun i hi => dset_eq fun j hj => ⟨(hrg j hj i hi).1, by have := (hrg j hj i hi).2; omega⟩
 have Hset := Lib.hid hset; clear hset hrg
 have Hlen := Lib.hid hlen; clear hlen hmk hm hn
 obtain ⟨W1, hW1, hB01, hz01, HZ01, hc01, hh01, hc02, hh02⟩ := two_boxes W #[.int .i64 m.c, .int .i64 m.d, .int .i64 m.s, .int .i64 m.e, .int .i64 m.l] #[.slice none 0 0] 32 116
 have hV1 := h.below hB01
 have hout0 := Out2.start W1 W1.heap.size (Nat.le_refl _)
 have Hout0 := Lib.hid hout0; clear hout0
 go_enter Tryz.func136, Tryz.ntmps136
 go_wp2_with fail
 rw [← hW1, show W.heap.size + 1 + 1 = W1.heap.size from HZ01.out.symm]
 have HW1 := Lib.hid hW1; clear hW1
 have Hc01 := Lib.hid (And.intro hc01 (And.intro hh01 (And.intro hc02 hh02))); clear hc01 hh01 hc02 hh02
 go_loopw [5, 6, 7, 8, 9, 10] (fun ou i _ _ _ _ wr => ∃ x : Nat, x ≤ n ∧ i = .int .i64 (x : Int) ∧ Out2 W1.heap.size wr ou (hullR keys x) ∧ Below W1.heap.size W1 wr) (fun _ i _ _ _ _ _ => n - (intOf i).toNat)
 case atStart => exact ⟨0, Nat.zero_le _, rfl, Hout0.out, (Below.refl _ _).alloc (Nat.le_refl _) _⟩
 case round =>
  obtain ⟨x, hx, rfl, hO, hB⟩ := hrel
  obtain ⟨wo, rfl⟩ : ∃ wo, wo = wr := ⟨_, rfl⟩
  have hzr := hB.size
  have hxo : ∀ o, wo.cell? ⟨W.heap.size, o, none⟩ = (#[.int .i64 m.c, .int .i64 m.d, .int .i64 m.s, .int .i64 m.e, .int .i64 m.l] : Array Value)[o]? := fun o => by rw [(bcell hB).1 _ _ (by omega), Hc01.out.1]
  by_cases hxn : x < n
  ·obtain ⟨B, hB0⟩ : ∃ B, B = wo.heap.size := ⟨_, rfl⟩
   have hown0 := own_lit0 wo B 2 1 (by omega)
   have HO := Lib.hid hO; clear hO
   have hxd : decide ((x : Int) < m.c) = true := by simp; omega
   go_wp2_with fail
   clear hxo
   go_loopw [7, 8, 9, 10] (fun ro j _ _ wn => ∃ y : Nat, y ≤ d ∧ j = .int .i64 (y : Int) ∧ wn.ownsRow B 2 1 ro (dset keys x y).length ((dset keys x y).map (Value.int .i64)) ∧ Below B wo wn) (fun _ j _ _ _ => d - (intOf j).toNat)
   case atStart => exact ⟨0, Nat.zero_le _, rfl, hown0, (Below.refl _ _).alloc (by omega) _⟩
   case round =>
    obtain ⟨y, hy, rfl, hown, hBn⟩ := hrel
    obtain ⟨wm, rfl⟩ : ∃ wm, wm = wr := ⟨_, rfl⟩
    have hdl := dset_len keys x y
    have hzn := hBn.size
    have hBW := hB.trans (hBn.mono (by omega))
    have hzW := hBW.size
    have hxm : ∀ o, wm.cell? ⟨W.heap.size, o, none⟩ = (#[.int .i64 m.c, .int .i64 m.d, .int .i64 m.s, .int .i64 m.e, .int .i64 m.l] : Array Value)[o]? := fun o => by rw [(bcell hBW).1 _ _ (by omega), Hc01.out.1]
    by_cases hyd : y < d
    ·have hyd2 : decide ((y : Int) < m.d) = true := by simp; omega
     go_wp2_with fail
     clear hxm
     go_loopw [9, 10] (fun th k wk => ∃ q : Nat, q ≤ keys.length ∧ k = .int .i64 (q : Int) ∧ th = .bool (isCut keys x y q) ∧ wk = wm) (fun _ k _ => keys.length - (intOf k).toNat)
     case atStart => exact ⟨0, Nat.zero_le _, rfl, rfl, rfl⟩
     case round =>
      obtain ⟨q, hq, rfl, rfl, rfl⟩ := hrel
      by_cases hqq : q < keys.length
      ·obtain ⟨b1, off1, a1, c1, rfl, _, hc1, hr1⟩ := (hV1.below hBW).cell hqq
       have hxq : x < (getl keys q).length := by rw [Hlen.out q hqq]; exact hxn
       obtain ⟨b2, off2, rfl, _, hc2⟩ := hr1.cell hxq
       have hll := hr1.len
       unfold maxLen at hll
       cases hd : isCut keys x y q
       ·have hst : isCut keys x y (q + 1) = decide (geti (getl keys q) x = y) := by rw [isCut, hd]; rfl
        have Hst := Lib.hid hst; clear hst
        have Hd := Lib.hid hd; clear hd
        go_wp2_with fail
        all_goals go_roundw
        all_goals first | (case rel => exact ⟨q + 1, by omega, by go_num, by rw [Hst.out]; first | rfl | simp_all, by first | rfl | trivial⟩) | skip
        all_goals (simp [intOf]; omega)
       ·have hst : isCut keys x y (q + 1) = true := by rw [isCut, hd]; rfl
        have Hst := Lib.hid hst; clear hst
        have Hd := Lib.hid hd; clear hd
        go_wp2_with fail
        go_roundw
        case rel => exact ⟨q + 1, by omega, by go_num, by rw [Hst.out], by first | rfl | trivial⟩
        case measure => simp [intOf]; omega
      ·obtain rfl : q = keys.length := by omega
       cases hdo : isCut keys x y keys.length
       ·have hst : dset keys x (y + 1) = dset keys x y := by rw [dset, hdo]; rfl
        have Hst := Lib.hid hst; clear hst
        have Hdo := Lib.hid hdo; clear hdo
        go_wp2_with fail
        go_roundw
        case rel => exact ⟨y + 1, by omega, by go_num, by rw [Hst.out]; exact hown, hBn⟩
        case measure => simp [intOf]; omega
       ·have hst : dset keys x (y + 1) = dset keys x y ++ [(y : Int)] := by rw [dset, hdo]; rfl
        have Hst := Lib.hid hst; clear hst
        have Hdo := Lib.hid hdo; clear hdo
        go_wp2_with (at_builtin; refine wp_app1 _ rfl _ _ 57 rfl B 2 (.int .i64 0) 8 Tryz.underlying57 inf_int rfl _ _ _ rfl hown (.int .i64 y) _ rfl rfl (by omega) (by omega) (by omega) ?_; intro v1 w1 hown1 hgrow1 hblk1 hB1)
        go_roundw
        case rel => exact ⟨y + 1, by omega, by go_num, by rw [Hst.out, List.map_append, List.length_append]; exact hown1, hBn.trans (hB1.mono (Nat.le_refl _))⟩
        case measure => simp [intOf]; omega
    ·obtain rfl : y = d := by omega
     obtain ⟨vs, bk, g1, g2, g3⟩ := HO.out
     have hBwo : Below wo.heap.size wo wm := hBn.mono (by omega)
     obtain ⟨bx1, hx1, hbx⟩ := own_F1 hown
     have hO4 := own_chg g1 (Chg.of_below (F := fun _ => False) hBwo) (fun _ _ h => h)
     obtain ⟨ra, rc, rfl, hrc1, hrc2⟩ := own_form hown
     have hlx := Nat.le_of_eq (hullR_len keys x)
     have hyd2 : decide ((y : Int) < m.d) = false := by simp; omega
     have G := Lib.hid (And.intro g1 (And.intro g2 g3)); clear g1 g2 g3
     have Hx1 := Lib.hid (And.intro hx1 hbx); clear hx1 hbx hown
     go_wp2_with (at_builtin; refine wp_app1 _ rfl _ _ 33 rfl W1.heap.size 57 (.slice none 0 0) 24 Tryz.underlying33 inf_ints rfl _ _ _ rfl hO4 (.slice ra (dset keys x y).length rc) _ rfl rfl (by omega) (by omega) (by omega) ?_; intro v1 w1 hown1 hgrow1 hblk1 hB1)
     go_roundw
     case rel => exact ⟨x + 1, by omega, by go_num, by rw [hullR, ← Hset.out x hxn]; exact Out2.push G.out.1 G.out.2.1 G.out.2.2 hzr hBwo Hx1.out.1 (fun hn => by have := Hx1.out.2 hn; omega) hown1 hgrow1 hblk1, (hB.trans (hBwo.mono hzr)).trans hB1⟩
     case measure => simp [intOf]; omega
  ·obtain rfl : x = n := by omega
   have hfx := hO.f2
   have hlx := Nat.le_of_eq (hullR_len keys x)
   obtain ⟨oa, oc, rfl, ho1, ho2⟩ := hO.form
   have hzx : W.heap.size + 1 < W1.heap.size := hz01
   have hres : wo.heap[W.heap.size + 1]? = some (.cells #[.slice none 0 0] 116 (0, 0)) := heap_below Hc01.out.2.2.2 hB hzx
   have hrc := cell_of_block hres 0
   have hrf := frozen_of_block hres 0
   have hrs := cell_of_block (heap_setCell_self (off := 0) hres (.slice oa (hullR keys x).length oc)) 0
   have Hrs := Lib.hid hrs; clear hrs hres
   have Hfx := Lib.hid hfx; clear hfx
   go_wp2_with fail
   have hrs := Hrs.out
   simp at hrs
   refine bodyPost_ret (v := .agg #[.slice oa (hullR keys x).length oc]) (by simp [results, Tryz.results136, go_sem, hrs]) rfl ⟨_, rfl, ?_, ?_⟩
   ·exact (F2.set Hfx.out hzx).mono (by omega)
   ·have hbb := hB01.trans (hB.mono (by omega))
    exact by (repeat (first | (with_reducible refine Below.setCell ?_ ?_ _) | (with_reducible refine Below.alloc ?_ ?_ _) | (with_reducible refine Below.drew ?_) | (with_reducible refine below_drewN ?_ _) | (with_reducible exact Below.refl _ _) | (with_reducible assumption) | (with_reducible refine Below.trans ?_ (Below.mono (by with_reducible assumption) ?_)) | go_size))
theorem l04Opens_any {S S' : Nat → Prop} (u v : Value) (l : List (List Int)) (cuts : List Int) (W : World) (h : V2 S W u l) (hc : V1 S' W v cuts) (hl : cuts.length ≤ l.length) :
  Calls Tryz.prog 89 #[.agg #[u], v] W fun e' w' => e' = .returned (.bool (opensB l cuts)) ∧ Below W.heap.size W w' := by
 obtain ⟨a, c, rfl, hmx⟩ := h.form
 obtain ⟨a', c', rfl, hmx'⟩ := hc.form
 obtain ⟨r, hr⟩ : ∃ r, opensB l cuts = r := ⟨_, rfl⟩
 rw [hr]
 have Hr := Lib.hid hr; clear hr
 obtain ⟨W1, hW1, hB01, hz01, HZ01, hc01, hh01⟩ := box_facts W #[.slice a l.length c] 116
 have hV1 := h.below hB01
 have hC1 := hc.below hB01
 go_enter Tryz.func89, Tryz.ntmps89
 go_wp2_with fail
 rw [← hW1]
 have HW1 := Lib.hid hW1; clear hW1 hh01
 go_loopw [5] (fun i wr => ∃ k q : Nat, k ≤ cuts.length ∧ i = .int .i64 (k : Int) ∧ r = upAll (fun i => hasI (getl l i) (geti cuts i)) cuts.length k ∧ wr = W1.drewN q) (fun i _ => cuts.length - (intOf i).toNat)
 case atStart => exact ⟨0, 0, Nat.zero_le _, rfl, Hr.out.symm, rfl⟩
 case round =>
  obtain ⟨k, q, hk, rfl, hrem, rfl⟩ := hrel
  have Hm := Lib.hid hrem; clear hrem
  by_cases hkk : k < cuts.length
  ·obtain ⟨b1, off1, rfl, _, hc1⟩ := hC1.cell hkk
   obtain ⟨b2, off2, a2, c2, rfl, _, hc2, hr2⟩ := hV1.cell (k := k) (by omega)
   cases hg : hasI (getl l k) (geti cuts k)
   ·have HG := Lib.hid hg; clear hg
    go_wp2_with fail
    go_quiet ((go_at_call 111; first | exact quiet_same (l01Has_b _ _ _ _ _ HG.out (V1.drewN hr2)) | exact quiet_same0 (l01Has_b _ _ _ _ _ HG.out (V1.drewN hr2))))
    go_wp2_with fail
    go_ret
    exact ⟨ret_bool (by rw [Hm.out, upAll_step hkk, HG.out]; rfl), by repeat' first | refine below_drewN ?_ _ | exact hB01⟩
   ·have HG := Lib.hid hg; clear hg
    go_wp2_with fail
    go_quiet ((go_at_call 111; first | exact quiet_same (l01Has_b _ _ _ _ _ HG.out (V1.drewN hr2)) | exact quiet_same0 (l01Has_b _ _ _ _ _ HG.out (V1.drewN hr2))))
    go_wp2_with fail
    go_roundw
    case rel => exact ⟨k + 1, _, by omega, by go_num, by rw [Hm.out, upAll_step hkk, HG.out]; rfl, by first | rfl | rw [World.drewN_drewN]⟩
    case measure => simp [intOf]; omega
  ·obtain rfl : k = cuts.length := by omega
   go_wp2_with fail
   go_ret
   exact ⟨ret_bool (by rw [Hm.out, upAll_end]), below_drewN hB01 _⟩
theorem l04Opens_b {S S' : Nat → Prop} (u v : Value) (l : List (List Int)) (cuts : List Int) (W : World) (r : Bool) (hr : opensB l cuts = r) (h : V2 S W u l) (hc : V1 S' W v cuts) (hl : cuts.length ≤ l.length) :
  Calls Tryz.prog 89 #[.agg #[u], v] W fun e' w' => e' = .returned (.bool r) ∧ Below W.heap.size W w' := by subst hr; exact l04Opens_any u v l cuts W h hc hl
end Go.Proofs.YtbekpololmahoaaGreatDoor
