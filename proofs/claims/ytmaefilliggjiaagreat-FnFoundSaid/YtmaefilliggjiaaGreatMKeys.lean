/- Plain lists: keys of a maker, all of them in order, the next one. No program here. No conditions. -/
import Derived.Test.YtmaefilliggjiaaGreatProg
import Derived.Deep.QuietTactic
import Derived.BigQuiet
import Derived.Deep.RegionHeld3
import Derived.Test.YtmaefilliggjiaaGreatMLib
namespace Go.Proofs.YtmaefilliggjiaaGreat
set_option linter.unusedVariables false
set_option linter.unusedSimpArgs false
structure Mk where
 c : Int
 d : Int
 s : Int
 e : Int
 l : Int
def Mk.ok (m : Mk) : Bool := isMk m.c m.d m.s m.e m.l
theorem Mk.ok_iff {m : Mk} : m.ok = true ↔ (2 ≤ m.c ∧ m.c ≤ 6) ∧ (2 ≤ m.d ∧ m.d ≤ 8) ∧ (1 ≤ m.s ∧ m.s ≤ m.d - 1) ∧ (1 ≤ m.e ∧ m.e ≤ m.c) ∧ (1 ≤ m.l ∧ m.l ≤ m.c ∧ m.l ≤ m.d) := isMk_iff
def absI (x : Int) : Int := max x (-x)
def hasI (l : List Int) (x : Int) : Bool := l.any fun y => decide (y = x)
theorem hasI_iff {l : List Int} {x : Int} : hasI l x = true ↔ x ∈ l := by
 simp only [hasI, List.any_eq_true, decide_eq_true_eq]
 constructor
 ·rintro ⟨y, hy, rfl⟩; exact hy
 ·intro h; exact ⟨x, h, rfl⟩
/-- The run of equal cuts that ends at index k. -/
def runAt (l : List Int) : Nat → Nat
 | 0 => 1
 | k + 1 => if geti l (k + 1) = geti l k then runAt l k + 1 else 1
theorem geti_append {a b : List Int} {k : Nat} (h : k < a.length) : geti (a ++ b) k = geti a k := by
 simp [geti, List.getElem?_append_left h]
theorem geti_snoc {a : List Int} {x : Int} : geti (a ++ [x]) a.length = x := by simp [geti]
theorem runAt_congr {a b : List Int} : ∀ k, (∀ i, i ≤ k → geti a i = geti b i) → runAt a k = runAt b k
 | 0, _ => rfl
 | k + 1, h => by
   unfold runAt
   rw [h (k + 1) (Nat.le_refl _), h k (by omega), runAt_congr k (fun i hi => h i (by omega))]
theorem runAt_append {a b : List Int} {k : Nat} (h : k < a.length) : runAt (a ++ b) k = runAt a k :=
 runAt_congr k fun i hi => geti_append (by omega)
theorem runAt_take {l : List Int} {k n : Nat} (h : k < n) : runAt (l.take n) k = runAt l k :=
 runAt_congr k fun i hi => geti_take (by omega)
theorem runAt_le (l : List Int) : ∀ k, runAt l k ≤ k + 1
 | 0 => Nat.le_refl _
 | k + 1 => by have := runAt_le l k; unfold runAt; split <;> omega
/-- How many different cuts there are among the first k. -/
def kindsTo (l : List Int) : Nat → Nat
 | 0 => 0
 | k + 1 => kindsTo l k + if hasI (l.take k) (geti l k) = true then 0 else 1
def kinds (l : List Int) : Nat := kindsTo l l.length
theorem kindsTo_le (l : List Int) : ∀ k, kindsTo l k ≤ k
 | 0 => Nat.le_refl _
 | k + 1 => by have := kindsTo_le l k; unfold kindsTo; split <;> omega
/-- Is the cut at index i within the step and the run? -/
def fitAt (m : Mk) (l : List Int) (i : Nat) : Bool := decide ((runAt l i : Int) ≤ m.e) && (i == 0 || decide (absI (geti l i - geti l (i - 1)) ≤ m.s))
def begins (m : Mk) (l : List Int) : Bool := (List.range l.length).all (fitAt m l)
theorem begins_iff {m : Mk} {l : List Int} : begins m l = true ↔ ∀ i, i < l.length → fitAt m l i = true := by simp [begins]
theorem fitAt_append {m : Mk} {a b : List Int} {i : Nat} (h : i < a.length) : fitAt m (a ++ b) i = fitAt m a i := by
 unfold fitAt
 rw [runAt_append h, geti_append h]
 cases i with
 | zero => rfl
 | succ n => rw [geti_append (by simpa using (by omega : n < a.length))]
theorem begins_snoc {m : Mk} {a : List Int} {x : Int} : begins m (a ++ [x]) = (begins m a && fitAt m (a ++ [x]) a.length) := by
 rw [Bool.eq_iff_iff, Bool.and_eq_true, begins_iff, begins_iff]
 constructor
 ·intro h
  exact ⟨fun i hi => by rw [← fitAt_append (b := [x]) hi]; exact h i (by simp; omega), h a.length (by simp)⟩
 ·rintro ⟨h1, h2⟩ i hi
  by_cases e : i = a.length
  ·subst e; exact h2
  ·rw [fitAt_append (by simp at hi; omega)]; exact h1 i (by simp at hi; omega)
theorem begins_nil {m : Mk} : begins m [] = true := rfl
def stepBad (m : Mk) (l : List Int) (i : Nat) : Bool := decide (0 < i) && decide (m.s < absI (geti l i - geti l (i - 1)))
def runBad (m : Mk) (l : List Int) (i : Nat) : Bool := decide (m.e < (runAt l i : Int))
/-- The first rule that cuts do not keep. -/
def fault (m : Mk) (l : List Int) : Int :=
 if (l.length : Int) ≠ m.c then 1 else if (l.all fun n => inB n 0 (m.d - 1)) = false then 2
 else if (List.range l.length).any (stepBad m l) = true then 3 else if (List.range l.length).any (runBad m l) = true then 4 else if (kinds l : Int) < m.l then 5 else 0
def isKeyB (m : Mk) (l : List Int) : Bool := decide (fault m l = 0)
theorem isKey_iff {m : Mk} {l : List Int} : isKeyB m l = true ↔ (l.length : Int) = m.c ∧ (∀ x ∈ l, 0 ≤ x ∧ x ≤ m.d - 1) ∧ begins m l = true ∧ m.l ≤ (kinds l : Int) := by
 have hb : begins m l = true ↔ ((List.range l.length).any (stepBad m l) = false ∧ (List.range l.length).any (runBad m l) = false) := by
  rw [begins_iff]
  simp only [List.any_eq_false, List.mem_range]
  constructor
  ·intro h
   constructor
   ·intro i hi
    have := h i hi
    simp only [fitAt, Bool.and_eq_true, Bool.or_eq_true, beq_iff_eq, decide_eq_true_eq] at this
    simp only [stepBad, Bool.and_eq_true, decide_eq_true_eq]
    omega
   ·intro i hi
    have := h i hi
    simp only [fitAt, Bool.and_eq_true, decide_eq_true_eq] at this
    simp only [runBad, decide_eq_true_eq]
    omega
  ·rintro ⟨h1, h2⟩ i hi
   have a1 := h1 i hi
   have a2 := h2 i hi
   simp only [stepBad, Bool.and_eq_true, decide_eq_true_eq] at a1
   simp only [runBad, decide_eq_true_eq] at a2
   simp only [fitAt, Bool.and_eq_true, Bool.or_eq_true, beq_iff_eq, decide_eq_true_eq]
   omega
 have ha : (l.all fun n => inB n 0 (m.d - 1)) = false ↔ ¬ ∀ x ∈ l, 0 ≤ x ∧ x ≤ m.d - 1 := by
  rw [← Bool.not_eq_true, List.all_eq_true]
  simp only [inB_iff]
 unfold isKeyB
 rw [decide_eq_true_eq, hb]
 unfold fault
 by_cases h1 : (l.length : Int) ≠ m.c
 ·rw [if_pos h1]; constructor
  ·intro h; cases h
  ·intro h; exact absurd h.1 h1
 ·rw [if_neg h1]
  by_cases h2 : (l.all fun n => inB n 0 (m.d - 1)) = false
  ·rw [if_pos h2]; constructor
   ·intro h; cases h
   ·intro h; exact absurd h.2.1 (ha.1 h2)
  ·rw [if_neg h2]
   have h2' : ∀ x ∈ l, 0 ≤ x ∧ x ≤ m.d - 1 := Classical.not_not.1 fun h => h2 (ha.2 h)
   by_cases h3 : (List.range l.length).any (stepBad m l) = true
   ·rw [if_pos h3]; constructor
    ·intro h; cases h
    ·intro h; rw [h.2.2.1.1] at h3; cases h3
   ·rw [if_neg h3]
    by_cases h4 : (List.range l.length).any (runBad m l) = true
    ·rw [if_pos h4]; constructor
     ·intro h; cases h
     ·intro h; rw [h.2.2.1.2] at h4; cases h4
    ·rw [if_neg h4]
     by_cases h5 : (kinds l : Int) < m.l
     ·rw [if_pos h5]; constructor
      ·intro h; cases h
      ·intro h; omega
     ·rw [if_neg h5]; constructor
      ·intro _; exact ⟨by omega, h2', ⟨by simpa using h3, by simpa using h4⟩, by omega⟩
      ·intro _; rfl
/-! ### All keys, in order -/
def depths (lo hi : Nat) : List Int := (List.range (hi - lo)).map fun i => ((lo + i : Nat) : Int)
theorem depths_cons {lo hi : Nat} (h : lo < hi) : depths lo hi = (lo : Int) :: depths (lo + 1) hi := by
 unfold depths
 rw [show hi - lo = (hi - (lo + 1)) + 1 from by omega, List.range_succ_eq_map]
 simp only [List.map_cons, List.map_map, Nat.add_zero]
 congr 1
 refine List.map_congr_left fun i _ => ?_
 simp only [Function.comp]; omega
theorem depths_nil {lo hi : Nat} (h : hi ≤ lo) : depths lo hi = [] := by
 unfold depths; rw [show hi - lo = 0 from by omega]; rfl
theorem mem_depths {lo hi : Nat} {x : Int} : x ∈ depths lo hi ↔ (lo : Int) ≤ x ∧ x < hi := by
 simp only [depths, List.mem_map, List.mem_range]
 constructor
 ·rintro ⟨i, hi', rfl⟩; omega
 ·intro h; exact ⟨(x - lo).toNat, by omega, by omega⟩
/-- The keys that begin with pre, rem cuts more. -/
def gen (m : Mk) : Nat → List Int → List (List Int)
 | 0, pre => if m.l ≤ (kinds pre : Int) then [pre] else []
 | rem + 1, pre => (depths 0 m.d.toNat).flatMap fun x => if fitAt m (pre ++ [x]) pre.length = true then gen m rem (pre ++ [x]) else []
def branch (m : Mk) (rem : Nat) (pre : List Int) (x : Int) : List (List Int) := if fitAt m (pre ++ [x]) pre.length = true then gen m rem (pre ++ [x]) else []
theorem gen_succ (m : Mk) (rem : Nat) (pre : List Int) : gen m (rem + 1) pre = (depths 0 m.d.toNat).flatMap (branch m rem pre) := rfl
def keysOf (m : Mk) : List (List Int) := gen m m.c.toNat []
theorem gen_mem {m : Mk} : ∀ (rem : Nat) (pre k : List Int), k ∈ gen m rem pre ↔ pre <+: k ∧ k.length = pre.length + rem ∧ (∀ i, pre.length ≤ i → i < k.length → (0 ≤ geti k i ∧ geti k i ≤ m.d - 1) ∧ fitAt m k i = true) ∧ m.l ≤ (kinds k : Int)
 | 0, pre, k => by
   unfold gen
   constructor
   ·intro h
    split at h
    ·simp only [List.mem_singleton] at h
     subst h
     exact ⟨List.prefix_refl _, rfl, fun i h1 h2 => by omega, by assumption⟩
    ·cases h
   ·rintro ⟨h1, h2, _, h4⟩
    have : pre = k := h1.eq_of_length (by omega)
    subst this
    rw [if_pos h4]; exact List.mem_singleton.2 rfl
 | rem + 1, pre, k => by
   rw [gen_succ, List.mem_flatMap]
   constructor
   ·rintro ⟨x, hx, hk⟩
    unfold branch at hk
    split at hk
    ·rename_i hfit
     obtain ⟨h1, h2, h3, h4⟩ := (gen_mem rem (pre ++ [x]) k).1 hk
     obtain ⟨t, ht⟩ := h1
     rw [mem_depths] at hx
     refine ⟨⟨x :: t, by rw [← ht]; simp⟩, by simp at h2; omega, fun i hi1 hi2 => ?_, h4⟩
     by_cases e : i = pre.length
     ·subst e
      have hg : geti k pre.length = x := by rw [← ht, geti_append (by simp)]; exact geti_snoc
      refine ⟨by rw [hg]; omega, ?_⟩
      rw [← ht, fitAt_append (by simp)]; exact hfit
     ·exact h3 i (by simp; omega) hi2
    ·cases hk
   ·rintro ⟨⟨t, ht⟩, h2, h3, h4⟩
    cases t with
    | nil => simp at ht; subst ht; omega
    | cons x t =>
      have ht' : pre ++ [x] ++ t = k := by rw [← ht]; simp
      have hl : pre.length < k.length := by omega
      obtain ⟨hr, hf⟩ := h3 pre.length (Nat.le_refl _) hl
      have hg : geti k pre.length = x := by rw [← ht', geti_append (by simp)]; exact geti_snoc
      rw [hg] at hr
      refine ⟨x, mem_depths.2 ⟨by omega, by omega⟩, ?_⟩
      unfold branch
      have hfa := fitAt_append (m := m) (a := pre ++ [x]) (b := t) (i := pre.length) (by simp)
      rw [ht', hf] at hfa
      have hfit : fitAt m (pre ++ [x]) pre.length = true := hfa.symm
      rw [if_pos hfit]
      exact (gen_mem rem (pre ++ [x]) k).2 ⟨⟨t, ht'⟩, by simp; omega, fun i hi1 hi2 => h3 i (by simp at hi1; omega) hi2, h4⟩
theorem mem_keysOf {m : Mk} (hc : 0 ≤ m.c) {k : List Int} : k ∈ keysOf m ↔ isKeyB m k = true := by
 unfold keysOf
 rw [gen_mem, isKey_iff, begins_iff]
 constructor
 ·rintro ⟨_, h2, h3, h4⟩
  refine ⟨by simp at h2; omega, fun x hx => ?_, fun i hi => (h3 i (Nat.zero_le _) hi).2, h4⟩
  obtain ⟨i, hi, rfl⟩ := List.getElem_of_mem hx
  have := (h3 i (Nat.zero_le _) hi).1
  rw [geti_eq hi] at this; exact this
 ·rintro ⟨h1, h2, h3, h4⟩
  exact ⟨List.nil_prefix, by simp; omega, fun i _ hi => ⟨h2 _ (geti_mem hi), h3 i hi⟩, h4⟩
/-- The keys behind k that share the first n cuts with it, n cuts or more. -/
def afterFrom (m : Mk) (C : Nat) (k : List Int) (n : Nat) : List (List Int) :=
 ((List.range (C - n)).map fun j => C - 1 - j).flatMap fun i => (depths ((geti k i).toNat + 1) m.d.toNat).flatMap (branch m (C - 1 - i) (k.take i))
theorem afterFrom_step {m : Mk} {C : Nat} {k : List Int} {n : Nat} (h : n < C) :
  afterFrom m C k n = afterFrom m C k (n + 1) ++ (depths ((geti k n).toNat + 1) m.d.toNat).flatMap (branch m (C - 1 - n) (k.take n)) := by
 unfold afterFrom
 rw [show C - n = (C - (n + 1)) + 1 from by omega, List.range_succ, List.map_append, List.flatMap_append]
 congr 1
 simp only [List.map_cons, List.map_nil, List.flatMap_cons, List.flatMap_nil, List.append_nil]
 rw [show C - 1 - (C - (n + 1)) = n from by omega]
theorem afterFrom_end {m : Mk} {C : Nat} {k : List Int} : afterFrom m C k C = [] := by
 unfold afterFrom; rw [Nat.sub_self]; rfl
theorem flatMap_split {α β : Type} (f : α → List β) : ∀ (l : List α) (L1 L2 : List β) (k : β), l.flatMap f = L1 ++ k :: L2 → ∃ a x b l1 l2, l = a ++ x :: b ∧ f x = l1 ++ k :: l2 ∧ L2 = l2 ++ b.flatMap f ∧ L1 = a.flatMap f ++ l1
 | [], L1, L2, k, h => by cases L1 <;> simp at h
 | y :: l, L1, L2, k, h => by
   rw [List.flatMap_cons] at h
   rcases List.append_eq_append_iff.1 h with ⟨c, h1, h2⟩ | ⟨c, h1, h2⟩
   ·obtain ⟨a, x, b, l1, l2, e1, e2, e3, e4⟩ := flatMap_split f l c L2 k h2
    exact ⟨y :: a, x, b, l1, l2, by rw [e1]; rfl, e2, e3, by rw [h1, e4]; simp⟩
   ·cases c with
    | nil =>
      simp at h1 h2
      obtain ⟨a, x, b, l1, l2, e1, e2, e3, e4⟩ := flatMap_split f l [] L2 k (by rw [← h2]; rfl)
      exact ⟨y :: a, x, b, l1, l2, by rw [e1]; rfl, e2, e3, by rw [← h1, List.flatMap_cons, List.append_assoc, ← e4]; simp⟩
    | cons z c =>
      simp at h2
      obtain ⟨rfl, h2⟩ := h2
      exact ⟨[], y, l, L1, c, rfl, h1, h2, by simp⟩
theorem depths_split {lo hi : Nat} {a b : List Int} {x : Int} (h : depths lo hi = a ++ x :: b) : b = depths (x.toNat + 1) hi ∧ a = depths lo x.toNat ∧ (lo : Int) ≤ x := by
 induction a generalizing lo with
 | nil =>
   by_cases hl : lo < hi
   ·rw [depths_cons hl] at h
    simp at h
    obtain ⟨rfl, rfl⟩ := h
    exact ⟨by simp, by rw [depths_nil (by simp)], Int.le_refl _⟩
   ·rw [depths_nil (by omega)] at h; simp at h
 | cons y a ih =>
   by_cases hl : lo < hi
   ·rw [depths_cons hl] at h
    simp at h
    obtain ⟨rfl, h⟩ := h
    obtain ⟨h1, h2, h3⟩ := ih h
    refine ⟨h1, ?_, by omega⟩
    rw [depths_cons (by omega), ← h2]
   ·rw [depths_nil (by omega)] at h; simp at h
theorem gen_split {m : Mk} {C : Nat} : ∀ (rem : Nat) (pre L1 L2 k : _), pre.length + rem = C → gen m rem pre = L1 ++ k :: L2 → L2 = afterFrom m C k pre.length
 | 0, pre, L1, L2, k, hC, h => by
   unfold gen at h
   split at h
   ·have : L1 = [] ∧ L2 = [] := by
     cases L1 with
     | nil => simp at h; exact ⟨rfl, by rw [h.2]⟩
     | cons y L1 => simp at h
    rw [this.2, show pre.length = C from by omega, afterFrom_end]
   ·cases L1 <;> simp at h
 | rem + 1, pre, L1, L2, k, hC, h => by
   rw [gen_succ] at h
   obtain ⟨a, x, b, l1, l2, e1, e2, e3, e4⟩ := flatMap_split _ _ _ _ _ h
   have e2' := e2
   unfold branch at e2
   split at e2
   ·have ih := gen_split (C := C) rem (pre ++ [x]) l1 l2 k (by simp; omega) e2
    have hk : k ∈ gen m rem (pre ++ [x]) := by rw [e2]; simp
    obtain ⟨⟨t, ht⟩, hlen, _, _⟩ := (gen_mem rem (pre ++ [x]) k).1 hk
    have hg : geti k pre.length = x := by rw [← ht, geti_append (by simp)]; exact geti_snoc
    have htk : k.take pre.length = pre := by rw [← ht]; simp
    obtain ⟨hb, _, hx0⟩ := depths_split e1
    rw [afterFrom_step (by omega), hg, htk, e3, ih, hb]
    simp only [List.length_append, List.length_cons, List.length_nil, Nat.zero_add]
    rw [show C - 1 - pre.length = rem from by omega]
   ·cases l1 <;> simp at e2
def after (m : Mk) (k : List Int) : List (List Int) := afterFrom m m.c.toNat k 0
theorem keys_after {m : Mk} {L1 L2 : List (List Int)} {k : List Int} (h : keysOf m = L1 ++ k :: L2) : after m k = L2 := by
 have := gen_split (C := m.c.toNat) m.c.toNat [] L1 L2 k (by simp) h
 exact this.symm
end Go.Proofs.YtmaefilliggjiaaGreat
namespace Go.Proofs.YtmaefilliggjiaaGreat
open Go.RowKit
set_option linter.unusedVariables false
set_option linter.unusedSimpArgs false
theorem within_any (n lo hi : Int) (w : World) :
  Calls Tryz.prog 166 #[.int .i64 n, .int .i64 lo, .int .i64 hi] w fun e w' => e = .returned (.bool (inB n lo hi)) ∧ w = w' := by
 go_enter Tryz.func166, Tryz.ntmps166
 go_wp2
 all_goals go_ret
 all_goals refine ⟨?_, rfl⟩
 all_goals simp [inB]
 all_goals omega
theorem l01In_any (n lo hi : Int) (w : World) :
  Calls Tryz.prog 103 #[.int .i64 n, .int .i64 lo, .int .i64 hi] w fun e w' => e = .returned (.bool (inB n lo hi)) ∧ w = w' := by
 go_enter Tryz.func103, Tryz.ntmps103
 go_wp2
 all_goals go_ret
 all_goals refine ⟨?_, rfl⟩
 all_goals simp [inB]
 all_goals omega
theorem within_b (n lo hi : Int) (w : World) (r : Bool) (hr : inB n lo hi = r) :
  Calls Tryz.prog 166 #[.int .i64 n, .int .i64 lo, .int .i64 hi] w fun e w' => e = .returned (.bool r) ∧ w = w' := by subst hr; exact within_any _ _ _ _
theorem l01In_b (n lo hi : Int) (w : World) (r : Bool) (hr : inB n lo hi = r) :
  Calls Tryz.prog 103 #[.int .i64 n, .int .i64 lo, .int .i64 hi] w fun e w' => e = .returned (.bool r) ∧ w = w' := by subst hr; exact l01In_any _ _ _ _
theorem isMaker_any (c d s e l : Int) (w : World) :
  Calls Tryz.prog 144 #[.agg #[.int .i64 c, .int .i64 d, .int .i64 s, .int .i64 e, .int .i64 l]] w fun e' w' => e' = .returned (.bool (isMk c d s e l)) ∧ Below w.heap.size w w' := by
 have hw : inB d 2 8 = true → wrap64 (d - 1) = d - 1 := fun h => by rw [inB_iff] at h; exact IntWalk.wrap64_in _ ⟨by omega, by omega⟩
 have HW := Lib.hid hw; clear hw
 go_enter Tryz.func144, Tryz.ntmps144
 go_wp2_with (go_at_call 166; refine (within_any _ _ _ _).mono ?_; rintro e w' ⟨rfl, rfl⟩)
 all_goals go_ret
 all_goals refine ⟨?_, by go_grown⟩
 all_goals simp_all [isMk, Int.min_def, HW.out]
 rw [if_neg (by omega)]
theorem isMakerR_any (c d s e l : Int) (w : World) :
  Calls Tryz.prog 234 #[.agg #[.int .i64 c, .int .i64 d, .int .i64 s, .int .i64 e, .int .i64 l]] w fun e' w' => e' = .returned (.bool (isMk c d s e l)) ∧ Below w.heap.size w w' := by
 have hw : inB d 2 8 = true → wrap64 (d - 1) = d - 1 := fun h => by rw [inB_iff] at h; exact IntWalk.wrap64_in _ ⟨by omega, by omega⟩
 have HW := Lib.hid hw; clear hw
 go_enter Tryz.func234, Tryz.ntmps234
 go_wp2_with (go_at_call 103; refine (l01In_any _ _ _ _).mono ?_; rintro e w' ⟨rfl, rfl⟩)
 all_goals go_ret
 all_goals refine ⟨?_, by go_grown⟩
 all_goals simp_all [isMk, Int.min_def, HW.out]
 rw [if_neg (by omega)]
theorem any_step {α : Type} (p : α → Bool) {l : List α} {k : Nat} (h : k < l.length) : (l.drop k).any p = (p l[k] || (l.drop (k + 1)).any p) := by
 rw [List.drop_eq_getElem_cons h, List.any_cons]
def allB (l : List Int) (lo hi : Int) : Bool := l.all fun n => inB n lo hi
theorem allB_step {l : List Int} {k : Nat} (h : k < l.length) (lo hi : Int) : allB (l.drop k) lo hi = (inB (geti l k) lo hi && allB (l.drop (k + 1)) lo hi) := all_stepi _ h
theorem allB_iff {l : List Int} {lo hi : Int} : allB l lo hi = true ↔ ∀ n ∈ l, lo ≤ n ∧ n ≤ hi := by simp [allB, inB_iff]
theorem allWithin_any {S : Nat → Prop} (v : Value) (l : List Int) (lo hi : Int) (W : World) (h : V1 S W v l) :
  Calls Tryz.prog 225 #[v, .int .i64 lo, .int .i64 hi] W fun e' w' => e' = .returned (.bool (allB l lo hi)) ∧ W = w' := by
 have hV := h
 obtain ⟨a, c, rfl, hm⟩ := h.form
 go_enter Tryz.func225, Tryz.ntmps225
 go_wp2_with fail
 go_loop [8, 11] (fun _ i => ∃ k : Nat, k ≤ l.length ∧ i = .int .i64 k ∧ allB l lo hi = allB (l.drop k) lo hi) (fun _ i => l.length - (intOf i).toNat)
 case atStart => exact ⟨0, Nat.zero_le _, rfl, rfl⟩
 case round =>
  obtain ⟨k, hk, rfl, hrem⟩ := hrel
  have Hr := Lib.hid hrem; clear hrem
  by_cases hkk : k < l.length
  ·obtain ⟨b1, off1, rfl, _, hc1⟩ := hV.cell hkk
   cases hin : inB (geti l k) lo hi
   ·have E1 := Lib.hid hin; clear hin
    go_wp2_with (go_at_call 166; refine (within_b _ _ _ _ _ E1.out).mono ?_; rintro e' w' ⟨rfl, rfl⟩)
    go_ret
    exact ⟨ret_bool (by rw [Hr.out, allB_step hkk, E1.out]; rfl), rfl⟩
   ·have E1 := Lib.hid hin; clear hin
    go_wp2_with (go_at_call 166; refine (within_b _ _ _ _ _ E1.out).mono ?_; rintro e' w' ⟨rfl, rfl⟩)
    go_round
    case rel => exact ⟨k + 1, by omega, by go_num, by rw [Hr.out, allB_step hkk, E1.out]; rfl⟩
    case measure => simp [intOf]; omega
  ·have hd : l.drop k = [] := List.drop_of_length_le (by omega)
   have Hd := Lib.hid hd; clear hd
   go_wp2_with fail
   go_ret
   exact ⟨ret_bool (by rw [Hr.out, Hd.out]; rfl), rfl⟩
theorem allWithin_b {S : Nat → Prop} (v : Value) (l : List Int) (lo hi : Int) (W : World) (r : Bool) (hr : allB l lo hi = r) (h : V1 S W v l) :
  Calls Tryz.prog 225 #[v, .int .i64 lo, .int .i64 hi] W fun e' w' => e' = .returned (.bool r) ∧ W = w' := by subst hr; exact allWithin_any v l lo hi W h
/-- A row of a table of n columns; a table. -/
def rowOk (n : Nat) (r : List Int) : Bool := decide (r.length = n) && inB r.length 1 12 && allB r 0 1
def isTab (t : List (List Int)) : Bool := inB t.length 1 10 && t.all (rowOk (getl t 0).length)
def rowsOk (n : Nat) (t : List (List Int)) : Bool := t.all (rowOk n)
theorem rowsOk_step {n : Nat} {t : List (List Int)} {k : Nat} (h : k < t.length) : rowsOk n (t.drop k) = (rowOk n (getl t k) && rowsOk n (t.drop (k + 1))) := all_stepl _ h
theorem isTable_any {S : Nat → Prop} (v : Value) (t : List (List Int)) (W : World) (h : V2 S W v t) :
  Calls Tryz.prog 145 #[v] W fun e' w' => e' = .returned (.bool (isTab t)) ∧ W = w' := by
 have hV := h
 obtain ⟨a, c, rfl, hm⟩ := h.form
 have hfin : isTab t = (inB t.length 1 10 && rowsOk (getl t 0).length t) := rfl
 have Hf := Lib.hid hfin; clear hfin
 go_enter Tryz.func145, Tryz.ntmps145
 go_wp2_with fail
 go_loop [4, 7] (fun _ i => ∃ k : Nat, k ≤ t.length ∧ i = .int .i64 k ∧ rowsOk (getl t 0).length t = rowsOk (getl t 0).length (t.drop k)) (fun _ i => t.length - (intOf i).toNat)
 case atStart => exact ⟨0, Nat.zero_le _, rfl, rfl⟩
 case round =>
  obtain ⟨k, hk, rfl, hrem⟩ := hrel
  have Hr := Lib.hid hrem; clear hrem
  by_cases hkk : k < t.length
  ·obtain ⟨b1, off1, a1, c1, rfl, _, hc1, hr1⟩ := hV.cell hkk
   obtain ⟨b2, off2, a2, c2, e2, _, hc2, hr2⟩ := hV.cell (k := 0) (by omega)
   simp only [Option.some.injEq, Addr.mk.injEq, and_true] at e2
   obtain ⟨rfl, rfl⟩ := e2
   simp only [Nat.add_zero] at hc2
   have hl1 := hr1.len
   have hl2 := hr2.len
   unfold maxLen at hl1 hl2
   by_cases h1 : (getl t k).length = (getl t 0).length
   ·have e1 : (((getl t k).length : Int) == ((getl t 0).length : Int)) = true := by simp; omega
    have e2 : (((getl t k).length : Int) != ((getl t 0).length : Int)) = false := by simp; omega
    by_cases h2 : 1 ≤ (getl t k).length ∧ (getl t k).length ≤ 12
    ·cases h3 : allB (getl t k) 0 1
     ·have hrow : rowOk (getl t 0).length (getl t k) = false := by simp [rowOk, h3]
      have Hrow := Lib.hid hrow; clear hrow
      have H3 := Lib.hid h3; clear h3
      have H1 := Lib.hid h1; clear h1
      obtain ⟨h2a, h2b⟩ := h2
      go_wp2_with (go_at_call 225; refine (allWithin_b _ _ _ _ _ _ H3.out hr1).mono ?_; rintro e' w' ⟨rfl, rfl⟩)
      go_ret
      exact ⟨ret_bool (by rw [Hf.out, Hr.out, rowsOk_step hkk, Hrow.out]; simp), rfl⟩
     ·have hrow : rowOk (getl t 0).length (getl t k) = true := by simp [rowOk, h3, h1, inB_iff]; omega
      have Hrow := Lib.hid hrow; clear hrow
      have H3 := Lib.hid h3; clear h3
      have H1 := Lib.hid h1; clear h1
      obtain ⟨h2a, h2b⟩ := h2
      go_wp2_with (go_at_call 225; refine (allWithin_b _ _ _ _ _ _ H3.out hr1).mono ?_; rintro e' w' ⟨rfl, rfl⟩)
      go_round
      case rel => exact ⟨k + 1, by omega, by go_num, by rw [Hr.out, rowsOk_step hkk, Hrow.out]; rfl⟩
      case measure => simp [intOf]; omega
    ·have hrow : rowOk (getl t 0).length (getl t k) = false := by
      have : inB (getl t k).length 1 12 = false := inB_false.2 (by omega)
      simp [rowOk, this]
     have Hrow := Lib.hid hrow; clear hrow
     have H1 := Lib.hid h1; clear h1
     by_cases h4 : (getl t k).length < 1
     ·go_wp2_with fail
      go_ret
      exact ⟨ret_bool (by rw [Hf.out, Hr.out, rowsOk_step hkk, Hrow.out]; simp), rfl⟩
     ·have h5 : 12 < (getl t k).length := by omega
      clear h2
      go_wp2_with fail
      go_ret
      exact ⟨ret_bool (by rw [Hf.out, Hr.out, rowsOk_step hkk, Hrow.out]; simp), rfl⟩
   ·have e1 : (((getl t k).length : Int) == ((getl t 0).length : Int)) = false := by simp; omega
    have e2 : (((getl t k).length : Int) != ((getl t 0).length : Int)) = true := by simp; omega
    have hrow : rowOk (getl t 0).length (getl t k) = false := by simp [rowOk, h1]
    have Hrow := Lib.hid hrow; clear hrow
    go_wp2_with fail
    go_ret
    exact ⟨ret_bool (by rw [Hf.out, Hr.out, rowsOk_step hkk, Hrow.out]; simp), rfl⟩
  ·have hd : t.drop k = [] := List.drop_of_length_le (by omega)
   have Hd := Lib.hid hd; clear hd
   go_wp2_with fail
   all_goals go_ret
   ·exact ⟨ret_bool (by rw [Hf.out, Hr.out, Hd.out]; simp [rowsOk, inB]; omega), rfl⟩
   ·exact ⟨ret_bool (by rw [Hf.out, Hr.out, Hd.out]; simp [rowsOk, inB]; omega), rfl⟩
theorem isTableR_q {S : Nat → Prop} (v : Value) (t : List (List Int)) (W : World) (h : V2 S W v t) :
  Calls Tryz.prog 158 #[v] W fun e' w' => e' = .returned (.bool (isTab t)) ∧ ∃ n, w' = W.drewN n := by
 have hV := h
 obtain ⟨a, c, rfl, hm⟩ := h.form
 have hfin : isTab t = (inB t.length 1 10 && rowsOk (getl t 0).length t) := rfl
 have Hf := Lib.hid hfin; clear hfin
 cases h0 : inB t.length 1 10
 ·have H0 := Lib.hid h0; clear h0
  go_enter Tryz.func158, Tryz.ntmps158
  go_wp2_with (go_at_call 103; refine (l01In_b _ _ _ _ _ H0.out).mono ?_; rintro e' w' ⟨rfl, rfl⟩)
  go_ret
  exact ⟨ret_bool (by rw [Hf.out, H0.out]; rfl), 0, rfl⟩
 ·have H0 := Lib.hid h0; clear h0
  go_enter Tryz.func158, Tryz.ntmps158
  go_wp2_with (go_at_call 103; refine (l01In_b _ _ _ _ _ H0.out).mono ?_; rintro e' w' ⟨rfl, rfl⟩)
  go_loopw [3] (fun i wr => ∃ k n : Nat, k ≤ t.length ∧ i = .int .i64 k ∧ rowsOk (getl t 0).length t = rowsOk (getl t 0).length (t.drop k) ∧ wr = W.drewN n) (fun i _ => t.length - (intOf i).toNat)
  case atStart => exact ⟨0, 0, Nat.zero_le _, rfl, rfl, rfl⟩
  case round =>
   obtain ⟨k, n, hk, rfl, hrem, rfl⟩ := hrel
   have Hr := Lib.hid hrem; clear hrem
   by_cases hkk : k < t.length
   ·obtain ⟨b1, off1, a1, c1, rfl, _, hc1, hr1⟩ := hV.cell hkk
    obtain ⟨b2, off2, a2, c2, e2, _, hc2, hr2⟩ := hV.cell (k := 0) (by omega)
    simp only [Option.some.injEq, Addr.mk.injEq, and_true] at e2
    obtain ⟨rfl, rfl⟩ := e2
    simp only [Nat.add_zero] at hc2
    have hl1 := hr1.len
    have hl2 := hr2.len
    unfold maxLen at hl1 hl2
    by_cases h1 : (getl t k).length = (getl t 0).length
    ·have e1 : (((getl t k).length : Int) == ((getl t 0).length : Int)) = true := by simp; omega
     have e2 : (((getl t k).length : Int) != ((getl t 0).length : Int)) = false := by simp; omega
     cases h2 : inB (getl t k).length 1 12
     ·have hrow : rowOk (getl t 0).length (getl t k) = false := by simp [rowOk, h2]
      have Hrow := Lib.hid hrow; clear hrow
      have H2 := Lib.hid h2; clear h2
      have H1 := Lib.hid h1; clear h1
      go_wp2_with fail
      go_quiet ((go_at_call 103; first | exact quiet_same (l01In_b _ _ _ _ _ H2.out) | exact quiet_same0 (l01In_b _ _ _ _ _ H2.out)))
      go_wp2_with fail
      go_ret
      exact ⟨ret_bool (by rw [Hf.out, Hr.out, rowsOk_step hkk, Hrow.out]; simp), _, by first | rfl | rw [World.drewN_drewN]⟩
     ·have hrow : rowOk (getl t 0).length (getl t k) = allB (getl t k) 0 1 := by simp [rowOk, h1, h2]; intro _; rw [← h1, h2]
      have Hrow := Lib.hid hrow; clear hrow
      have H2 := Lib.hid h2; clear h2
      have H1 := Lib.hid h1; clear h1
      go_wp2_with fail
      go_quiet ((go_at_call 103; first | exact quiet_same (l01In_b _ _ _ _ _ H2.out) | exact quiet_same0 (l01In_b _ _ _ _ _ H2.out)))
      go_wp2_with fail
      go_loopw [4] (fun j wr => ∃ m n' : Nat, m ≤ (getl t k).length ∧ j = .int .i64 m ∧ allB (getl t k) 0 1 = allB ((getl t k).drop m) 0 1 ∧ wr = W.drewN n') (fun j _ => (getl t k).length - (intOf j).toNat)
      case atStart => exact ⟨0, _, Nat.zero_le _, rfl, rfl, by first | rfl | rw [World.drewN_drewN]⟩
      case round =>
       obtain ⟨m, n', hmm, rfl, hremj, rfl⟩ := hrel
       have Hj := Lib.hid hremj; clear hremj
       by_cases hmk : m < (getl t k).length
       ·obtain ⟨b3, off3, rfl, _, hc3⟩ := hr1.cell hmk
        cases hin : inB (geti (getl t k) m) 0 1
        ·have E1 := Lib.hid hin; clear hin
         go_wp2_with (go_at_call 103; refine (l01In_b _ _ _ _ _ E1.out).mono ?_; rintro e' w' ⟨rfl, rfl⟩)
         go_ret
         exact ⟨ret_bool (by rw [Hf.out, Hr.out, rowsOk_step hkk, Hrow.out, Hj.out, allB_step hmk, E1.out]; simp), _, by first | rfl | rw [World.drewN_drewN]⟩
        ·have E1 := Lib.hid hin; clear hin
         go_wp2_with (go_at_call 103; refine (l01In_b _ _ _ _ _ E1.out).mono ?_; rintro e' w' ⟨rfl, rfl⟩)
         go_roundw
         case rel => exact ⟨m + 1, _, by omega, by go_num, by rw [Hj.out, allB_step hmk, E1.out]; rfl, by first | rfl | rw [World.drewN_drewN]⟩
         case measure => simp [intOf]; omega
       ·have hd : (getl t k).drop m = [] := List.drop_of_length_le (by omega)
        have Hd := Lib.hid hd; clear hd
        go_wp2_with fail
        go_roundw
        case rel => exact ⟨k + 1, _, by omega, by go_num, by rw [Hr.out, rowsOk_step hkk, Hrow.out, Hj.out, Hd.out]; rfl, by first | rfl | rw [World.drewN_drewN]⟩
        case measure => simp [intOf]; omega
    ·have e1 : (((getl t k).length : Int) == ((getl t 0).length : Int)) = false := by simp; omega
     have e2 : (((getl t k).length : Int) != ((getl t 0).length : Int)) = true := by simp; omega
     have hrow : rowOk (getl t 0).length (getl t k) = false := by simp [rowOk, h1]
     have Hrow := Lib.hid hrow; clear hrow
     go_wp2_with fail
     go_quiet (fail)
     go_wp2_with fail
     go_ret
     exact ⟨ret_bool (by rw [Hf.out, Hr.out, rowsOk_step hkk, Hrow.out]; simp), _, by first | rfl | rw [World.drewN_drewN]⟩
   ·have hd : t.drop k = [] := List.drop_of_length_le (by omega)
    have Hd := Lib.hid hd; clear hd
    go_wp2_with fail
    go_ret
    exact ⟨ret_bool (by rw [Hf.out, Hr.out, Hd.out, H0.out]; rfl), _, by first | rfl | rw [World.drewN_drewN]⟩
theorem isTable_b {S : Nat → Prop} (v : Value) (t : List (List Int)) (W : World) (r : Bool) (hr : isTab t = r) (h : V2 S W v t) :
  Calls Tryz.prog 145 #[v] W fun e' w' => e' = .returned (.bool r) ∧ W = w' := by subst hr; exact isTable_any v t W h
theorem isTableR_b {S : Nat → Prop} (v : Value) (t : List (List Int)) (W : World) (r : Bool) (hr : isTab t = r) (h : V2 S W v t) :
  Calls Tryz.prog 158 #[v] W fun e' w' => e' = .returned (.bool r) ∧ ∃ n, w' = W.drewN n := by subst hr; exact isTableR_q v t W h
/-- The function f may be entered. -/
def Enters (f : FuncId) : Prop := ∀ (args : Array Value) (w : World), Sem.run Tryz.prog (callFunc f args) w = .ok (.enter f args) w
/-- A function value that answers g of a list, and makes at most new memory. -/
def PredL (f : FuncId) (caps : Array Value) (W : World) (g : List Int → Bool) : Prop :=
 ∀ (S : Nat → Prop) (w : World) (v : Value) (l : List Int), Below W.heap.size W w → V1 S w v l → Calls Tryz.prog f (#[v] ++ caps) w fun e w' => e = .returned (.bool (g l)) ∧ Below w.heap.size w w'
def idxR {α : Type} (g : α → Bool) : List α → Nat → Int
 | [], _ => -1
 | x :: xs, k => if g x then k else idxR g xs (k + 1)
theorem idxR_step {g : List Int → Bool} {ls : List (List Int)} {k : Nat} (h : k < ls.length) : idxR g (ls.drop k) k = if g (getl ls k) then (k : Int) else idxR g (ls.drop (k + 1)) (k + 1) := by
 rw [List.drop_eq_getElem_cons h, idxR, getl_eq h]
theorem idxR_any {α : Type} (g : α → Bool) : ∀ (l : List α) (k : Nat), decide (0 ≤ idxR g l k) = l.any g ∧ (idxR g l k = -1 ∨ (k : Int) ≤ idxR g l k)
 | [], k => ⟨by simp [idxR], .inl rfl⟩
 | x :: xs, k => by
   have ih := idxR_any g xs (k + 1)
   unfold idxR
   by_cases hx : g x = true
   ·simp [hx]
   ·simp only [hx, if_false, List.any_cons]
    exact ⟨by simpa using ih.1, by rcases ih.2 with h | h; exact .inl h; right; omega⟩
theorem indexFunc_any {S : Nat → Prop} (v : Value) (ls : List (List Int)) (f : FuncId) (caps : Array Value) (g : List Int → Bool) (W : World) (h : V2 S W v ls) (hf : Enters f) (hp : PredL f caps W g) :
  Calls Tryz.prog 281 #[v, .func (.func f) #[] caps] W fun e' w' => e' = .returned (.int .i64 (idxR g ls 0)) ∧ Below W.heap.size W w' := by
 have hV := h
 obtain ⟨a, c, rfl, hm⟩ := h.form
 have Hp := Lib.hid hp; clear hp
 go_enter Tryz.func281, Tryz.ntmps281
 go_wp2_with fail
 go_loopw [5, 8] (fun _ i wr => ∃ k : Nat, k ≤ ls.length ∧ i = .int .i64 k ∧ idxR g ls 0 = idxR g (ls.drop k) k ∧ Below W.heap.size W wr) (fun _ i _ => ls.length - (intOf i).toNat)
 case atStart => exact ⟨0, Nat.zero_le _, rfl, rfl, Below.refl _ _⟩
 case round =>
  obtain ⟨k, hk, rfl, hrem, hB⟩ := hrel
  have Hr := Lib.hid hrem; clear hrem
  by_cases hkk : k < ls.length
  ·obtain ⟨b1, off1, a1, c1, rfl, _, hc1, hr1⟩ := (hV.below hB).cell hkk
   have hf' := hf
   unfold Enters at hf'
   cases hg : g (getl ls k)
   ·have HG := Lib.hid hg; clear hg
    go_wp2_with fail
    have hcl := Hp.out _ _ _ _ hB hr1
    rw [HG.out] at hcl
    refine hcl.mono ?_
    rintro e' w' ⟨rfl, hb⟩
    have hzB := hb.size
    have hzW := hB.size
    go_wp2_with fail
    go_roundw
    case rel => exact ⟨k + 1, by omega, by go_num, by rw [Hr.out, idxR_step hkk, HG.out]; rfl, hB.trans (hb.mono hzW)⟩
    case measure => simp [intOf]; omega
   ·have HG := Lib.hid hg; clear hg
    go_wp2_with fail
    have hcl := Hp.out _ _ _ _ hB hr1
    rw [HG.out] at hcl
    refine hcl.mono ?_
    rintro e' w' ⟨rfl, hb⟩
    have hzB := hb.size
    have hzW := hB.size
    go_wp2_with fail
    go_ret
    exact ⟨ret_int (by rw [Hr.out, idxR_step hkk, HG.out]; rfl), hB.trans (hb.mono hzW)⟩
  ·have hd : ls.drop k = [] := List.drop_of_length_le (by omega)
   have Hd := Lib.hid hd; clear hd
   go_wp2_with fail
   go_ret
   exact ⟨ret_int (by rw [Hr.out, Hd.out]; rfl), hB⟩
theorem containsFunc_any {S : Nat → Prop} (v : Value) (ls : List (List Int)) (f : FuncId) (caps : Array Value) (g : List Int → Bool) (W : World) (h : V2 S W v ls) (hf : Enters f) (hp : PredL f caps W g) :
  Calls Tryz.prog 255 #[v, .func (.func f) #[] caps] W fun e' w' => e' = .returned (.bool (ls.any g)) ∧ Below W.heap.size W w' := by
 have hfin := (idxR_any g ls 0).1
 have Hfin := Lib.hid hfin; clear hfin
 go_enter Tryz.func255, Tryz.ntmps255
 go_wp2_with fail
 refine (indexFunc_any _ _ _ _ _ _ h hf hp).mono ?_
 rintro e' w' ⟨rfl, hb⟩
 go_wp2_with fail
 go_ret
 exact ⟨ret_bool (by rw [← Hfin.out]), hb⟩
/-- The rows that open door d, among the first k. -/
def rowsF (t : List (List Int)) (d : Nat) : Nat → List Int
 | 0 => []
 | k + 1 => if geti (getl t k) d = 1 then rowsF t d k ++ [(k : Int)] else rowsF t d k
theorem rowsF_len (t : List (List Int)) (d : Nat) : ∀ k, (rowsF t d k).length ≤ k
 | 0 => Nat.le_refl _
 | k + 1 => by have := rowsF_len t d k; unfold rowsF; split <;> simp <;> omega
theorem mem_rowsF {t : List (List Int)} {d : Nat} {x : Int} : ∀ {k}, x ∈ rowsF t d k ↔ ∃ i : Nat, i < k ∧ x = i ∧ geti (getl t i) d = 1
 | 0 => by simp [rowsF]
 | k + 1 => by
   unfold rowsF
   split
   ·rename_i h
    rw [List.mem_append, mem_rowsF]
    constructor
    ·rintro (⟨i, h1, h2, h3⟩ | h1)
     ·exact ⟨i, by omega, h2, h3⟩
     ·simp at h1; exact ⟨k, by omega, h1, h⟩
    ·rintro ⟨i, h1, h2, h3⟩
     by_cases e : i = k
     ·subst e; right; simp [h2]
     ·exact .inl ⟨i, by omega, h2, h3⟩
   ·rename_i h
    rw [mem_rowsF]
    constructor
    ·rintro ⟨i, h1, h2, h3⟩; exact ⟨i, by omega, h2, h3⟩
    ·rintro ⟨i, h1, h2, h3⟩
     refine ⟨i, ?_, h2, h3⟩
     by_cases e : i = k
     ·subst e; exact absurd h3 h
     ·omega
set_option maxRecDepth 100000 in
theorem rowsFor_any {S : Nat → Prop} (m : Mk) (u : Value) (t : List (List Int)) (d : Nat) (W : World) (h : V2 S W u t) (hd : ∀ k, k < t.length → d < (getl t k).length) (hlen : t.length ≤ 1000000) :
  Calls Tryz.prog 146 #[.agg #[.int .i64 m.c, .int .i64 m.d, .int .i64 m.s, .int .i64 m.e, .int .i64 m.l, u], .int .i64 d] W fun e' w' => ∃ v', e' = .returned v' ∧ F1 W.heap.size w' v' (rowsF t d t.length) ∧ Below W.heap.size W w' := by
 have hV := h
 obtain ⟨a, c, rfl, hm⟩ := h.form
 have Hd := Lib.hid hd; clear hd
 obtain ⟨W1, hW1, hB01, hz01, HZ01, hc01, hh01⟩ := box_facts W #[.int .i64 m.c, .int .i64 m.d, .int .i64 m.s, .int .i64 m.e, .int .i64 m.l, .slice a t.length c] 28
 go_enter Tryz.func146, Tryz.ntmps146
 go_wp2_with fail
 rw [← hW1]
 have HW1 := Lib.hid hW1; clear hW1
 have hown0 := own_lit0 W1 W1.heap.size 2 1 (Nat.le_refl _)
 have hV1 := hV.below hB01
 go_loopw [5, 6, 7, 12] (fun o _ _ i wr => ∃ k : Nat, k ≤ t.length ∧ i = .int .i64 k ∧ wr.ownsRow W1.heap.size 2 1 o (rowsF t d k).length ((rowsF t d k).map (Value.int .i64)) ∧ Below W1.heap.size W1 wr) (fun _ _ _ i _ => t.length - (intOf i).toNat)
 case atStart => exact ⟨0, Nat.zero_le _, rfl, by rw [← HZ01.out]; simpa [rowsF] using hown0, (Below.refl _ _).alloc (Nat.le_refl _) _⟩
 case round =>
  obtain ⟨k, hk, rfl, hown, hB⟩ := hrel
  have hrl := rowsF_len t d k
  have hzW := hB.size
  by_cases hkk : k < t.length
  ·obtain ⟨b1, off1, a1, c1, rfl, _, hc1, hr1⟩ := (hV1.below hB).cell hkk
   obtain ⟨b2, off2, rfl, _, hc2⟩ := hr1.cell (Hd.out k hkk)
   have hdl : d < (getl t k).length := Hd.out k hkk
   have hll := hr1.len
   unfold maxLen at hll
   by_cases h1 : geti (getl t k) d = 1
   ·have e1 : (geti (getl t k) d == 1) = true := by simp [h1]
    have hst : rowsF t d (k + 1) = rowsF t d k ++ [(k : Int)] := by rw [rowsF, if_pos h1]
    have Hst := Lib.hid hst; clear hst
    have H1 := Lib.hid h1; clear h1
    go_wp2_with (at_builtin; refine wp_app1 _ rfl _ _ 35 rfl W1.heap.size 2 (.int .i64 0) 8 Tryz.underlying35 inf_int rfl _ _ _ rfl hown (.int .i64 k) _ rfl rfl (by omega) (by omega) (by omega) ?_; intro v1 w1 hown1 hgrow1 hblk1 hB1)
    go_roundw
    case rel => exact ⟨k + 1, by omega, by go_num, by rw [Hst.out, List.map_append, List.length_append]; exact hown1, hB.trans (hB1.mono (Nat.le_refl _))⟩
    case measure => simp [intOf]; omega
   ·have e1 : (geti (getl t k) d == 1) = false := by simp [h1]
    have hst : rowsF t d (k + 1) = rowsF t d k := by rw [rowsF, if_neg h1]
    have Hst := Lib.hid hst; clear hst
    have H1 := Lib.hid h1; clear h1
    go_wp2_with fail
    go_roundw
    case rel => exact ⟨k + 1, by omega, by go_num, by rw [Hst.out]; exact hown, hB⟩
    case measure => simp [intOf]; omega
  ·obtain rfl : k = t.length := by omega
   go_wp2_with fail
   go_ret
   obtain ⟨b, hx, hb⟩ := own_F1 hown
   exact ⟨_, rfl, ⟨b, hx, fun hn => by have := hb hn; omega⟩, hB01.trans (hB.mono (by omega))⟩
def doorTo (t : List (List Int)) (d : Nat) : Nat → Bool
 | 0 => false
 | k + 1 => doorTo t d k || decide (geti (getl t k) d = 1)
def doorOpen (t : List (List Int)) (d : Nat) : Bool := doorTo t d t.length
theorem doorTo_iff {t : List (List Int)} {d : Nat} : ∀ {k}, doorTo t d k = true ↔ ∃ i, i < k ∧ geti (getl t i) d = 1
 | 0 => by simp [doorTo]
 | k + 1 => by
   simp only [doorTo, Bool.or_eq_true, decide_eq_true_eq, doorTo_iff (k := k)]
   constructor
   ·rintro (⟨i, h1, h2⟩ | h)
    ·exact ⟨i, by omega, h2⟩
    ·exact ⟨k, by omega, h⟩
   ·rintro ⟨i, h1, h2⟩
    by_cases e : i = k
    ·subst e; exact .inr h2
    ·exact .inl ⟨i, by omega, h2⟩
theorem rowsF_door {t : List (List Int)} {d k : Nat} : ((rowsF t d k).length = 0) ↔ doorTo t d k = false := by
 rw [← Bool.not_eq_true, doorTo_iff]
 constructor
 ·rintro h ⟨i, h1, h2⟩
  have : (i : Int) ∈ rowsF t d k := mem_rowsF.2 ⟨i, h1, rfl, h2⟩
  rw [List.eq_nil_of_length_eq_zero h] at this
  cases this
 ·intro h
  cases hr : rowsF t d k with
  | nil => rfl
  | cons x xs =>
    obtain ⟨i, h1, _, h3⟩ := mem_rowsF.1 (by rw [hr]; exact List.mem_cons_self .. : x ∈ rowsF t d k)
    exact absurd ⟨i, h1, h3⟩ h
/-- p holds from k on, below n. -/
def upAll (p : Nat → Bool) (n k : Nat) : Bool := (List.range' k (n - k)).all p
theorem upAll_step {p : Nat → Bool} {n k : Nat} (h : k < n) : upAll p n k = (p k && upAll p n (k + 1)) := by
 unfold upAll
 rw [show n - k = (n - (k + 1)) + 1 from by omega, List.range'_succ, List.all_cons]
theorem upAll_end {p : Nat → Bool} {n : Nat} : upAll p n n = true := by unfold upAll; rw [Nat.sub_self]; rfl
theorem upAll_iff {p : Nat → Bool} {n : Nat} : upAll p n 0 = true ↔ ∀ i, i < n → p i = true := by
 unfold upAll
 rw [List.all_eq_true]
 constructor
 ·intro h i hi; exact h i (List.mem_range'_1.2 ⟨Nat.zero_le _, by omega⟩)
 ·intro h i hi; exact h i (by have := List.mem_range'_1.1 hi; omega)
/-- A system: a valid maker, a table, each column with a 1. -/
def isSys (m : Mk) (t : List (List Int)) : Bool := m.ok && (isTab t && upAll (doorOpen t) (getl t 0).length 0)
theorem isTab_iff {t : List (List Int)} : isTab t = true ↔ (1 ≤ t.length ∧ t.length ≤ 10) ∧ ∀ k, k < t.length → (getl t k).length = (getl t 0).length ∧ (1 ≤ (getl t 0).length ∧ (getl t 0).length ≤ 12) ∧ ∀ x ∈ getl t k, 0 ≤ x ∧ x ≤ 1 := by
 simp only [isTab, Bool.and_eq_true, inB_iff, List.all_eq_true, rowOk, decide_eq_true_eq, allB_iff]
 constructor
 ·rintro ⟨h1, h2⟩
  refine ⟨by omega, fun k hk => ?_⟩
  obtain ⟨⟨h3, h4⟩, h5⟩ := h2 _ (getl_mem hk)
  exact ⟨h3, by omega, h5⟩
 ·rintro ⟨h1, h2⟩
  refine ⟨by omega, fun r hr => ?_⟩
  obtain ⟨k, hk, rfl⟩ := List.getElem_of_mem hr
  have := h2 k hk
  rw [getl_eq hk] at this
  exact ⟨⟨this.1, by omega⟩, this.2.2⟩
set_option maxRecDepth 100000 in
theorem isSystem_any {S : Nat → Prop} (m : Mk) (u : Value) (t : List (List Int)) (W : World) (h : V2 S W u t) :
  Calls Tryz.prog 42 #[.agg #[.int .i64 m.c, .int .i64 m.d, .int .i64 m.s, .int .i64 m.e, .int .i64 m.l, u]] W fun e' w' => e' = .returned (.bool (isSys m t)) ∧ Below W.heap.size W w' := by
 have hV := h
 obtain ⟨a, c, rfl, hm⟩ := h.form
 obtain ⟨W1, hW1, hB01, hz01, HZ01, hc01, hh01⟩ := box_facts W #[.int .i64 m.c, .int .i64 m.d, .int .i64 m.s, .int .i64 m.e, .int .i64 m.l, .slice a t.length c] 28
 have hV1 := hV.below hB01
 cases hok : m.ok
 ·have hfin : isSys m t = false := by rw [isSys, hok]; rfl
  have Hf := Lib.hid hfin; clear hfin
  have Hok := Lib.hid hok; clear hok
  go_enter Tryz.func42, Tryz.ntmps42
  go_wp2_with fail
  rw [← hW1]
  refine (isMaker_any _ _ _ _ _ _).mono ?_; rintro e' w2 ⟨rfl, hb_w2⟩; have hB2 := (Below.refl W1.heap.size W1).trans (hb_w2.mono (Below.refl W1.heap.size W1).size)
  rw [show isMk m.c m.d m.s m.e m.l = false from Hok.out]
  clear hc01 hh01
  go_wp2_with fail
  go_ret
  exact ⟨ret_bool Hf.out.symm, hB01.trans (hB2.mono (by omega))⟩
 ·cases htab : isTab t
  ·have hfin : isSys m t = false := by rw [isSys, htab]; simp
   have Hf := Lib.hid hfin; clear hfin
   have Hok := Lib.hid hok; clear hok
   have Ht := Lib.hid htab; clear htab
   go_enter Tryz.func42, Tryz.ntmps42
   go_wp2_with fail
   rw [← hW1]
   refine (isMaker_any _ _ _ _ _ _).mono ?_; rintro e' w2 ⟨rfl, hb_w2⟩; have hB2 := (Below.refl W1.heap.size W1).trans (hb_w2.mono (Below.refl W1.heap.size W1).size)
   rw [show isMk m.c m.d m.s m.e m.l = true from Hok.out]
   have hx2 : ∀ o, (w2).cell? ⟨W.heap.size, o, none⟩ = (#[.int .i64 m.c, .int .i64 m.d, .int .i64 m.s, .int .i64 m.e, .int .i64 m.l, .slice a t.length c] : Array Value)[o]? := fun o => by rw [(bcell hB2).1 _ _ hz01, hc01]
   clear hc01 hh01
   go_wp2_with (go_at_call 145; refine (isTable_b _ _ _ _ Ht.out (hV1.below hB2)).mono ?_; rintro e' w' ⟨rfl, rfl⟩)
   go_ret
   exact ⟨ret_bool Hf.out.symm, hB01.trans (hB2.mono (by omega))⟩
  ·have hfin : isSys m t = upAll (doorOpen t) (getl t 0).length 0 := by rw [isSys, hok, htab]; rfl
   have htabs := isTab_iff.1 htab
   obtain ⟨htl, htr⟩ := htabs
   have ht0 := (htr 0 (by omega)).2.1
   have hcols : ∀ k, k < t.length → (getl t k).length = (getl t 0).length := fun k hk => (htr k hk).1
   have Hcols := Lib.hid hcols; clear hcols htr
   have Hf := Lib.hid hfin; clear hfin
   have Hok := Lib.hid hok; clear hok
   have Ht := Lib.hid htab; clear htab
   obtain ⟨b0, off0, a0, c0, rfl, _, hcc0, hr0⟩ := hV1.cell (k := 0) (by omega)
   simp only [Nat.add_zero] at hcc0
   go_enter Tryz.func42, Tryz.ntmps42
   go_wp2_with fail
   rw [← hW1]
   refine (isMaker_any _ _ _ _ _ _).mono ?_; rintro e' w2 ⟨rfl, hb_w2⟩; have hB2 := (Below.refl W1.heap.size W1).trans (hb_w2.mono (Below.refl W1.heap.size W1).size)
   rw [show isMk m.c m.d m.s m.e m.l = true from Hok.out]
   have hx2 : ∀ o, (w2).cell? ⟨W.heap.size, o, none⟩ = (#[.int .i64 m.c, .int .i64 m.d, .int .i64 m.s, .int .i64 m.e, .int .i64 m.l, .slice (some ⟨b0, off0, none⟩) t.length c] : Array Value)[o]? := fun o => by rw [(bcell hB2).1 _ _ hz01, hc01]
   have hcc2 : w2.cell? ⟨b0, off0, none⟩ = some (.slice a0 (getl t 0).length c0) := cell_keep hcc0 (hB2.block _ (lt_of_cell hcc0))
   have Hc01 := Lib.hid hc01; clear hc01
   have Hh01 := Lib.hid hh01; clear hh01
   have HW1 := Lib.hid hW1; clear hW1
   clear hcc0
   go_wp2_with (go_at_call 145; refine (isTable_b _ _ _ _ Ht.out (hV1.below hB2)).mono ?_; rintro e' w' ⟨rfl, rfl⟩)
   have Hx2 := Lib.hid hx2; clear hx2
   go_loopw [3, 19] (fun _ i wr => ∃ k : Nat, k ≤ (getl t 0).length ∧ i = .int .i64 k ∧ isSys m t = upAll (doorOpen t) (getl t 0).length k ∧ Below W1.heap.size W1 wr) (fun _ i _ => (getl t 0).length - (intOf i).toNat)
   case atStart => exact ⟨0, Nat.zero_le _, rfl, Hf.out, hB2⟩
   case round =>
    obtain ⟨k, hk, rfl, hrem, hB⟩ := hrel
    have Hr := Lib.hid hrem; clear hrem
    have hx : ∀ o, wr.cell? ⟨W.heap.size, o, none⟩ = (#[.int .i64 m.c, .int .i64 m.d, .int .i64 m.s, .int .i64 m.e, .int .i64 m.l, .slice (some ⟨b0, off0, none⟩) t.length c] : Array Value)[o]? := fun o => by rw [(bcell hB).1 _ _ hz01, Hc01.out]
    by_cases hkk : k < (getl t 0).length
    ·have hdd : ∀ j, j < t.length → k < (getl t j).length := fun j hj => by rw [Hcols.out j hj]; exact hkk
     have Hdd := Lib.hid hdd; clear hdd
     go_wp2_with fail
     refine (rowsFor_any m _ t k _ (hV1.below hB) Hdd.out (by omega)).mono ?_
     rintro e' w3 ⟨v3, rfl, hF, hb3⟩
     have hB3 := hB.trans (hb3.mono hB.size)
     obtain ⟨a3, c3, rfl, hl3⟩ := hF.v1.form
     cases hdo : doorOpen t k
     ·have hz : (rowsF t k t.length).length = 0 := rowsF_door.2 hdo
      have e1 : (((rowsF t k t.length).length : Int) == 0) = true := by simp [hz]
      have Hdo := Lib.hid hdo; clear hdo
      have Hz := Lib.hid hz; clear hz
      go_wp2_with fail
      go_ret
      exact ⟨ret_bool (by rw [Hr.out, upAll_step hkk, Hdo.out]; rfl), hB01.trans (hB3.mono (by omega))⟩
     ·have hz : (rowsF t k t.length).length ≠ 0 := fun e => by
       have := rowsF_door.1 e
       rw [doorOpen, this] at hdo; cases hdo
      have e1 : (((rowsF t k t.length).length : Int) == 0) = false := by simp; simpa using hz
      have Hdo := Lib.hid hdo; clear hdo
      have Hz := Lib.hid hz; clear hz
      go_wp2_with fail
      go_roundw
      case rel => exact ⟨k + 1, by omega, by go_num, by rw [Hr.out, upAll_step hkk, Hdo.out]; rfl, hB3⟩
      case measure => simp [intOf]; omega
    ·obtain rfl : k = (getl t 0).length := by omega
     go_wp2_with fail
     go_ret
     exact ⟨ret_bool (by rw [Hr.out, upAll_end]), hB01.trans (hB.mono (by omega))⟩
set_option maxRecDepth 100000 in
theorem isSystemR_any {S : Nat → Prop} (m : Mk) (u : Value) (t : List (List Int)) (W : World) (h : V2 S W u t) :
  Calls Tryz.prog 150 #[.agg #[.int .i64 m.c, .int .i64 m.d, .int .i64 m.s, .int .i64 m.e, .int .i64 m.l, u]] W fun e' w' => e' = .returned (.bool (isSys m t)) ∧ Below W.heap.size W w' := by
 have hV := h
 obtain ⟨a, c, rfl, hm⟩ := h.form
 obtain ⟨W1, hW1, hB01, hz01, HZ01, hc01, hh01⟩ := box_facts W #[.int .i64 m.c, .int .i64 m.d, .int .i64 m.s, .int .i64 m.e, .int .i64 m.l, .slice a t.length c] 28
 have hV1 := hV.below hB01
 cases hok : m.ok
 ·have hfin : isSys m t = false := by rw [isSys, hok]; rfl
  have Hf := Lib.hid hfin; clear hfin
  have Hok := Lib.hid hok; clear hok
  go_enter Tryz.func150, Tryz.ntmps150
  go_wp2_with fail
  rw [← hW1]
  refine (isMakerR_any _ _ _ _ _ _).mono ?_; rintro e' w2 ⟨rfl, hb_w2⟩; have hB2 := (Below.refl W1.heap.size W1).trans (hb_w2.mono (Below.refl W1.heap.size W1).size)
  rw [show isMk m.c m.d m.s m.e m.l = false from Hok.out]
  clear hc01 hh01
  go_wp2_with fail
  go_ret
  exact ⟨ret_bool Hf.out.symm, hB01.trans (hB2.mono (by omega))⟩
 ·cases htab : isTab t
  ·have hfin : isSys m t = false := by rw [isSys, htab]; simp
   have Hf := Lib.hid hfin; clear hfin
   have Hok := Lib.hid hok; clear hok
   have Ht := Lib.hid htab; clear htab
   go_enter Tryz.func150, Tryz.ntmps150
   go_wp2_with fail
   rw [← hW1]
   refine (isMakerR_any _ _ _ _ _ _).mono ?_; rintro e' w2 ⟨rfl, hb_w2⟩; have hB2 := (Below.refl W1.heap.size W1).trans (hb_w2.mono (Below.refl W1.heap.size W1).size)
   rw [show isMk m.c m.d m.s m.e m.l = true from Hok.out]
   have hx2 : ∀ o, (w2).cell? ⟨W.heap.size, o, none⟩ = (#[.int .i64 m.c, .int .i64 m.d, .int .i64 m.s, .int .i64 m.e, .int .i64 m.l, .slice a t.length c] : Array Value)[o]? := fun o => by rw [(bcell hB2).1 _ _ hz01, hc01]
   clear hc01 hh01
   go_wp2_with (go_at_call 158; refine (isTableR_b _ _ _ _ Ht.out (hV1.below hB2)).mono ?_; rintro e' w' ⟨rfl, n, rfl⟩)
   go_ret
   exact ⟨ret_bool Hf.out.symm, below_drewN (hB01.trans (hB2.mono (by omega))) _⟩
  ·have hfin : isSys m t = upAll (doorOpen t) (getl t 0).length 0 := by rw [isSys, hok, htab]; rfl
   have htabs := isTab_iff.1 htab
   obtain ⟨htl, htr⟩ := htabs
   have ht0 := (htr 0 (by omega)).2.1
   have hcols : ∀ k, k < t.length → (getl t k).length = (getl t 0).length := fun k hk => (htr k hk).1
   have Hcols := Lib.hid hcols; clear hcols htr
   have Hf := Lib.hid hfin; clear hfin
   have Hok := Lib.hid hok; clear hok
   have Ht := Lib.hid htab; clear htab
   obtain ⟨b0, off0, a0, c0, rfl, _, hcc0, hr0⟩ := hV1.cell (k := 0) (by omega)
   simp only [Nat.add_zero] at hcc0
   go_enter Tryz.func150, Tryz.ntmps150
   go_wp2_with fail
   rw [← hW1]
   refine (isMakerR_any _ _ _ _ _ _).mono ?_; rintro e' w2 ⟨rfl, hb_w2⟩; have hB2 := (Below.refl W1.heap.size W1).trans (hb_w2.mono (Below.refl W1.heap.size W1).size)
   rw [show isMk m.c m.d m.s m.e m.l = true from Hok.out]
   have hx2 : ∀ o, (w2).cell? ⟨W.heap.size, o, none⟩ = (#[.int .i64 m.c, .int .i64 m.d, .int .i64 m.s, .int .i64 m.e, .int .i64 m.l, .slice (some ⟨b0, off0, none⟩) t.length c] : Array Value)[o]? := fun o => by rw [(bcell hB2).1 _ _ hz01, hc01]
   have Hcc0 := Lib.hid hcc0; clear hcc0
   have Hc01 := Lib.hid hc01; clear hc01
   have Hh01 := Lib.hid hh01; clear hh01
   have HW1 := Lib.hid hW1; clear hW1
   go_wp2_with (go_at_call 158; refine (isTableR_b _ _ _ _ Ht.out (hV1.below hB2)).mono ?_; rintro e' w' ⟨rfl, n, rfl⟩)
   have hB2' := below_drewN hB2 n
   have Hx2 := Lib.hid hx2; clear hx2
   go_loopw [3, 4, 5] (fun i _ _ wr => ∃ k : Nat, k ≤ (getl t 0).length ∧ i = .int .i64 k ∧ isSys m t = upAll (doorOpen t) (getl t 0).length k ∧ Below W1.heap.size W1 wr) (fun i _ _ _ => (getl t 0).length - (intOf i).toNat)
   case atStart => exact ⟨0, Nat.zero_le _, rfl, Hf.out, hB2'⟩
   case round =>
    obtain ⟨k, hk, rfl, hrem, hB⟩ := hrel
    have Hr := Lib.hid hrem; clear hrem
    have hx : ∀ o, wr.cell? ⟨W.heap.size, o, none⟩ = (#[.int .i64 m.c, .int .i64 m.d, .int .i64 m.s, .int .i64 m.e, .int .i64 m.l, .slice (some ⟨b0, off0, none⟩) t.length c] : Array Value)[o]? := fun o => by rw [(bcell hB).1 _ _ hz01, Hc01.out]
    have hcc : wr.cell? ⟨b0, off0, none⟩ = some (.slice a0 (getl t 0).length c0) := cell_keep Hcc0.out (hB.block _ (lt_of_cell Hcc0.out))
    by_cases hkk : k < (getl t 0).length
    ·go_wp2_with fail
     go_loopw [4, 5] (fun o j w3 => ∃ q : Nat, q ≤ t.length ∧ j = .int .i64 q ∧ o = .bool (doorTo t k q) ∧ w3 = wr) (fun _ j _ => t.length - (intOf j).toNat)
     case atStart => exact ⟨0, Nat.zero_le _, rfl, rfl, rfl⟩
     case round =>
      obtain ⟨q, hq, rfl, rfl, rfl⟩ := hrel
      by_cases hqq : q < t.length
      ·obtain ⟨b1, off1, a1, c1, e1, _, hc1, hr1⟩ := (hV1.below hB).cell hqq
       simp only [Option.some.injEq, Addr.mk.injEq, and_true] at e1
       obtain ⟨rfl, rfl⟩ := e1
       have hkq : k < (getl t q).length := by rw [Hcols.out q hqq]; exact hkk
       obtain ⟨b2, off2, rfl, _, hc2⟩ := hr1.cell hkq
       have hll := hr1.len
       unfold maxLen at hll
       cases hd : doorTo t k q
       ·have hst : doorTo t k (q + 1) = decide (geti (getl t q) k = 1) := by rw [doorTo, hd]; rfl
        have Hst := Lib.hid hst; clear hst
        have Hd := Lib.hid hd; clear hd
        go_wp2_with fail
        all_goals go_roundw
        all_goals first | (case rel => exact ⟨q + 1, by omega, by go_num, by rw [Hst.out]; first | rfl | simp_all, by first | rfl | trivial⟩) | skip
        all_goals (simp [intOf]; omega)
       ·have hst : doorTo t k (q + 1) = true := by rw [doorTo, hd]; rfl
        have Hst := Lib.hid hst; clear hst
        have Hd := Lib.hid hd; clear hd
        go_wp2_with fail
        go_roundw
        case rel => exact ⟨q + 1, by omega, by go_num, by rw [Hst.out], by first | rfl | trivial⟩
        case measure => simp [intOf]; omega
      ·obtain rfl : q = t.length := by omega
       cases hdo : doorTo t k t.length
       ·have Hdo := Lib.hid hdo; clear hdo
        go_wp2_with fail
        go_ret
        exact ⟨ret_bool (by rw [Hr.out, upAll_step hkk, doorOpen, Hdo.out]; rfl), hB01.trans (hB.mono (by omega))⟩
       ·have Hdo := Lib.hid hdo; clear hdo
        go_wp2_with fail
        go_roundw
        case rel => exact ⟨k + 1, by omega, by go_num, by rw [Hr.out, upAll_step hkk, doorOpen, Hdo.out]; rfl, hB⟩
        case measure => simp [intOf]; omega
    ·obtain rfl : k = (getl t 0).length := by omega
     go_wp2_with fail
     go_ret
     exact ⟨ret_bool (by rw [Hr.out, upAll_end]), hB01.trans (hB.mono (by omega))⟩
theorem isSystem_b {S : Nat → Prop} (m : Mk) (u : Value) (t : List (List Int)) (W : World) (r : Bool) (hr : isSys m t = r) (h : V2 S W u t) :
  Calls Tryz.prog 42 #[.agg #[.int .i64 m.c, .int .i64 m.d, .int .i64 m.s, .int .i64 m.e, .int .i64 m.l, u]] W fun e' w' => e' = .returned (.bool r) ∧ Below W.heap.size W w' := by subst hr; exact isSystem_any m u t W h
theorem isSystemR_b {S : Nat → Prop} (m : Mk) (u : Value) (t : List (List Int)) (W : World) (r : Bool) (hr : isSys m t = r) (h : V2 S W u t) :
  Calls Tryz.prog 150 #[.agg #[.int .i64 m.c, .int .i64 m.d, .int .i64 m.s, .int .i64 m.e, .int .i64 m.l, u]] W fun e' w' => e' = .returned (.bool r) ∧ Below W.heap.size W w' := by subst hr; exact isSystemR_any m u t W h
/-- Values of rows ls. -/
def RowVs (S : Nat → Prop) (w : World) (vs : List Value) (ls : List (List Int)) : Prop :=
 vs.length = ls.length ∧ ∀ k, k < ls.length → ∃ ev, vs[k]? = some ev ∧ V1 S w ev (getl ls k)
theorem RowVs.nil {S : Nat → Prop} {w : World} : RowVs S w [] [] := ⟨rfl, fun k hk => by simp at hk⟩
theorem getl_append1 {ls : List (List Int)} {l : List Int} {k : Nat} (h : k < ls.length) : getl (ls ++ [l]) k = getl ls k := by
 simp [getl, List.getElem?_append_left h]
theorem getl_last {ls : List (List Int)} {l : List Int} : getl (ls ++ [l]) ls.length = l := by
 unfold getl; simp
theorem RowVs.snoc {S : Nat → Prop} {w : World} {vs : List Value} {ls : List (List Int)} {v : Value} {l : List Int} (h : RowVs S w vs ls) (hv : V1 S w v l) : RowVs S w (vs ++ [v]) (ls ++ [l]) := by
 refine ⟨by simp [h.1], fun k hk => ?_⟩
 by_cases hkk : k < ls.length
 ·obtain ⟨ev, h1, h2⟩ := h.2 k hkk
  exact ⟨ev, by rw [List.getElem?_append_left (by rw [h.1]; exact hkk)]; exact h1, by rw [getl_append1 hkk]; exact h2⟩
 ·have e : k = ls.length := by simp at hk; omega
  subst e
  exact ⟨v, by rw [← h.1]; simp, by rw [getl_last]; exact hv⟩
theorem RowVs.below {S : Nat → Prop} {w w' : World} {vs : List Value} {ls : List (List Int)} (h : RowVs S w vs ls) (hb : Below w.heap.size w w') : RowVs S w' vs ls :=
 ⟨h.1, fun k hk => by obtain ⟨ev, h1, h2⟩ := h.2 k hk; exact ⟨ev, h1, h2.below hb⟩⟩
theorem RowVs.keep {S : Nat → Prop} {w w' : World} {vs : List Value} {ls : List (List Int)} (h : RowVs S w vs ls) (hb : Keep S w w') : RowVs S w' vs ls :=
 ⟨h.1, fun k hk => by obtain ⟨ev, h1, h2⟩ := h.2 k hk; exact ⟨ev, h1, h2.mono (fun _ h _ => h) hb⟩⟩
theorem own_V2 {w : World} {B : Nat} {e : TypeId} {v : Value} {n : Nat} {vs : List Value} {ls : List (List Int)} (h : w.ownsRow B e 1 v n vs) (hr : RowVs (fun _ => True) w vs ls) : V2 (fun _ => True) w v ls := by
 obtain ⟨hl, h⟩ := h
 have hn : n = ls.length := by have := hr.1; omega
 subst hn
 rcases h with ⟨rfl, h0⟩ | ⟨g, cap, cur, rfl, hb, hh, hc, hm, hs, ht⟩
 ·exact ⟨none, 0, by rw [h0], by omega, Nat.zero_le _, fun k hk => by omega⟩
 ·refine ⟨_, _, rfl, hc, hm, fun k hk => ?_⟩
  obtain ⟨ev, h1, h2⟩ := hr.2 k hk
  refine ⟨g, 0, ev, rfl, trivial, ?_, h2⟩
  have h3 : (cur.toList.take (ls.length * 1))[k]? = vs[k]? := by rw [ht]
  rw [List.getElem?_take, if_pos (by omega), h1] at h3
  rw [cell_of_block hh, Nat.zero_add, ← Array.getElem?_toList, h3]
theorem own_keep {w w' : World} {B : Nat} {e : TypeId} {v : Value} {n : Nat} {xs : List Value} (h : w.ownsRow B e 1 v n xs) (hb : Below w.heap.size w w') : w'.ownsRow B e 1 v n xs := by
 refine ⟨h.1, ?_⟩
 rcases h.2 with h0 | ⟨g, cap, cur, rfl, h1, h2, h3⟩
 ·exact .inl h0
 ·exact .inr ⟨g, cap, cur, rfl, h1, by rw [hb.block g (lt_of_heap h2)]; exact h2, h3⟩
theorem grow_keep {S : Nat → Prop} {w w' : World} {ob : Option Nat} (hg : w.grownBy w' ob) (h : ∀ g, ob = some g → ¬ S g) : Keep S w w' := fun b hb hlt => hg.block b hlt (fun e => h b e.symm hb)
theorem V1.old {S : Nat → Prop} {w : World} {v : Value} {l : List Int} (h : V1 S w v l) : V1 (fun b => b < w.heap.size) w v l := h.mono (fun _ _ h => h) (fun _ _ _ => rfl)
theorem V2.old {S : Nat → Prop} {w : World} {v : Value} {ls : List (List Int)} (h : V2 S w v ls) : V2 (fun b => b < w.heap.size) w v ls := h.mono (fun _ _ h => h) (fun _ _ _ => rfl)
theorem V1.any {S : Nat → Prop} {w : World} {v : Value} {l : List Int} (h : V1 S w v l) : V1 (fun _ => True) w v l := h.mono (fun _ _ _ => trivial) (fun _ _ _ => rfl)
theorem V2.any {S : Nat → Prop} {w : World} {v : Value} {ls : List (List Int)} (h : V2 S w v ls) : V2 (fun _ => True) w v ls := h.mono (fun _ _ _ => trivial) (fun _ _ _ => rfl)
end Go.Proofs.YtmaefilliggjiaaGreat
