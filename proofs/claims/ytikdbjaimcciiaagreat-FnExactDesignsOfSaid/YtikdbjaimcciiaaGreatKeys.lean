/- Plain lists: keys of a maker, all of them in order, the next one. No program here. No conditions. -/
import Derived.Test.YtikdbjaimcciiaaGreatMath1
namespace Go.Proofs.YtikdbjaimcciiaaGreat
set_option linter.unusedVariables false
set_option linter.unusedSimpArgs false

structure Mk where
  c : Int
  d : Int
  s : Int
  e : Int
  l : Int
def Mk.ok (m : Mk) : Bool := isMk m.c m.d m.s m.e m.l
theorem Mk.ok_iff {m : Mk} : m.ok = true ↔ (2 ≤ m.c ∧ m.c ≤ 6) ∧ (2 ≤ m.d ∧ m.d ≤ 8) ∧ (1 ≤ m.s ∧ m.s ≤ m.d - 1) ∧ (1 ≤ m.e ∧ m.e ≤ m.c) ∧ (1 ≤ m.l ∧ m.l ≤ m.c ∧ m.l ≤ m.d) := isMk_iff

def absI (x : Int) : Int := max x (-x)
def hasI (l : List Int) (x : Int) : Bool := l.any fun y => decide (y = x)
theorem hasI_iff {l : List Int} {x : Int} : hasI l x = true ↔ x ∈ l := by
  simp only [hasI, List.any_eq_true, decide_eq_true_eq]
  constructor
  · rintro ⟨y, hy, rfl⟩; exact hy
  · intro h; exact ⟨x, h, rfl⟩

/-- The run of equal cuts that ends at index k. -/
def runAt (l : List Int) : Nat → Nat
  | 0 => 1
  | k + 1 => if geti l (k + 1) = geti l k then runAt l k + 1 else 1
theorem geti_append {a b : List Int} {k : Nat} (h : k < a.length) : geti (a ++ b) k = geti a k := by
  simp [geti, List.getElem?_append_left h]
theorem geti_snoc {a : List Int} {x : Int} : geti (a ++ [x]) a.length = x := by simp [geti]
theorem geti_take_eq {l : List Int} {k n : Nat} (h : k < n) : geti (l.take n) k = geti l k := geti_take h
theorem runAt_congr {a b : List Int} : ∀ k, (∀ i, i ≤ k → geti a i = geti b i) → runAt a k = runAt b k
  | 0, _ => rfl
  | k + 1, h => by
    unfold runAt
    rw [h (k + 1) (Nat.le_refl _), h k (by omega), runAt_congr k (fun i hi => h i (by omega))]
theorem runAt_append {a b : List Int} {k : Nat} (h : k < a.length) : runAt (a ++ b) k = runAt a k :=
  runAt_congr k fun i hi => geti_append (by omega)
theorem runAt_take {l : List Int} {k n : Nat} (h : k < n) : runAt (l.take n) k = runAt l k :=
  runAt_congr k fun i hi => geti_take (by omega)
theorem runAt_le (l : List Int) : ∀ k, runAt l k ≤ k + 1
  | 0 => Nat.le_refl _
  | k + 1 => by have := runAt_le l k; unfold runAt; split <;> omega
theorem runAt_pos (l : List Int) : ∀ k, 1 ≤ runAt l k
  | 0 => Nat.le_refl _
  | k + 1 => by unfold runAt; split <;> omega

/-- How many different cuts there are among the first k. -/
def kindsTo (l : List Int) : Nat → Nat
  | 0 => 0
  | k + 1 => kindsTo l k + if hasI (l.take k) (geti l k) = true then 0 else 1
def kinds (l : List Int) : Nat := kindsTo l l.length
theorem kindsTo_le (l : List Int) : ∀ k, kindsTo l k ≤ k
  | 0 => Nat.le_refl _
  | k + 1 => by have := kindsTo_le l k; unfold kindsTo; split <;> omega

/-- Is the cut at index i within the step and the run? -/
def fitAt (m : Mk) (l : List Int) (i : Nat) : Bool := decide ((runAt l i : Int) ≤ m.e) && (i == 0 || decide (absI (geti l i - geti l (i - 1)) ≤ m.s))
def begins (m : Mk) (l : List Int) : Bool := (List.range l.length).all (fitAt m l)
theorem begins_iff {m : Mk} {l : List Int} : begins m l = true ↔ ∀ i, i < l.length → fitAt m l i = true := by simp [begins]
theorem fitAt_append {m : Mk} {a b : List Int} {i : Nat} (h : i < a.length) : fitAt m (a ++ b) i = fitAt m a i := by
  unfold fitAt
  rw [runAt_append h, geti_append h]
  cases i with
  | zero => rfl
  | succ n => rw [geti_append (by simpa using (by omega : n < a.length))]
theorem begins_snoc {m : Mk} {a : List Int} {x : Int} : begins m (a ++ [x]) = (begins m a && fitAt m (a ++ [x]) a.length) := by
  rw [Bool.eq_iff_iff, Bool.and_eq_true, begins_iff, begins_iff]
  constructor
  · intro h
    exact ⟨fun i hi => by rw [← fitAt_append (b := [x]) hi]; exact h i (by simp; omega), h a.length (by simp)⟩
  · rintro ⟨h1, h2⟩ i hi
    by_cases e : i = a.length
    · subst e; exact h2
    · rw [fitAt_append (by simp at hi; omega)]; exact h1 i (by simp at hi; omega)
theorem begins_nil {m : Mk} : begins m [] = true := rfl

def stepBad (m : Mk) (l : List Int) (i : Nat) : Bool := decide (0 < i) && decide (m.s < absI (geti l i - geti l (i - 1)))
def runBad (m : Mk) (l : List Int) (i : Nat) : Bool := decide (m.e < (runAt l i : Int))
/-- The first rule that cuts do not keep. -/
def fault (m : Mk) (l : List Int) : Int :=
  if (l.length : Int) ≠ m.c then 1 else if (l.all fun n => inB n 0 (m.d - 1)) = false then 2
  else if (List.range l.length).any (stepBad m l) = true then 3 else if (List.range l.length).any (runBad m l) = true then 4 else if (kinds l : Int) < m.l then 5 else 0
def isKeyB (m : Mk) (l : List Int) : Bool := decide (fault m l = 0)
theorem isKey_iff {m : Mk} {l : List Int} : isKeyB m l = true ↔ (l.length : Int) = m.c ∧ (∀ x ∈ l, 0 ≤ x ∧ x ≤ m.d - 1) ∧ begins m l = true ∧ m.l ≤ (kinds l : Int) := by
  have hb : begins m l = true ↔ ((List.range l.length).any (stepBad m l) = false ∧ (List.range l.length).any (runBad m l) = false) := by
    rw [begins_iff]
    simp only [List.any_eq_false, List.mem_range]
    constructor
    · intro h
      constructor
      · intro i hi
        have := h i hi
        simp only [fitAt, Bool.and_eq_true, Bool.or_eq_true, beq_iff_eq, decide_eq_true_eq] at this
        simp only [stepBad, Bool.and_eq_true, decide_eq_true_eq]
        omega
      · intro i hi
        have := h i hi
        simp only [fitAt, Bool.and_eq_true, decide_eq_true_eq] at this
        simp only [runBad, decide_eq_true_eq]
        omega
    · rintro ⟨h1, h2⟩ i hi
      have a1 := h1 i hi
      have a2 := h2 i hi
      simp only [stepBad, Bool.and_eq_true, decide_eq_true_eq] at a1
      simp only [runBad, decide_eq_true_eq] at a2
      simp only [fitAt, Bool.and_eq_true, Bool.or_eq_true, beq_iff_eq, decide_eq_true_eq]
      omega
  have ha : (l.all fun n => inB n 0 (m.d - 1)) = false ↔ ¬ ∀ x ∈ l, 0 ≤ x ∧ x ≤ m.d - 1 := by
    rw [← Bool.not_eq_true, List.all_eq_true]
    simp only [inB_iff]
  unfold isKeyB
  rw [decide_eq_true_eq, hb]
  unfold fault
  by_cases h1 : (l.length : Int) ≠ m.c
  · rw [if_pos h1]; constructor
    · intro h; cases h
    · intro h; exact absurd h.1 h1
  · rw [if_neg h1]
    by_cases h2 : (l.all fun n => inB n 0 (m.d - 1)) = false
    · rw [if_pos h2]; constructor
      · intro h; cases h
      · intro h; exact absurd h.2.1 (ha.1 h2)
    · rw [if_neg h2]
      have h2' : ∀ x ∈ l, 0 ≤ x ∧ x ≤ m.d - 1 := Classical.not_not.1 fun h => h2 (ha.2 h)
      by_cases h3 : (List.range l.length).any (stepBad m l) = true
      · rw [if_pos h3]; constructor
        · intro h; cases h
        · intro h; rw [h.2.2.1.1] at h3; cases h3
      · rw [if_neg h3]
        by_cases h4 : (List.range l.length).any (runBad m l) = true
        · rw [if_pos h4]; constructor
          · intro h; cases h
          · intro h; rw [h.2.2.1.2] at h4; cases h4
        · rw [if_neg h4]
          by_cases h5 : (kinds l : Int) < m.l
          · rw [if_pos h5]; constructor
            · intro h; cases h
            · intro h; omega
          · rw [if_neg h5]; constructor
            · intro _; exact ⟨by omega, h2', ⟨by simpa using h3, by simpa using h4⟩, by omega⟩
            · intro _; rfl

/-! ### All keys, in order -/
def depths (lo hi : Nat) : List Int := (List.range (hi - lo)).map fun i => ((lo + i : Nat) : Int)
theorem depths_cons {lo hi : Nat} (h : lo < hi) : depths lo hi = (lo : Int) :: depths (lo + 1) hi := by
  unfold depths
  rw [show hi - lo = (hi - (lo + 1)) + 1 from by omega, List.range_succ_eq_map]
  simp only [List.map_cons, List.map_map, Nat.add_zero]
  congr 1
  refine List.map_congr_left fun i _ => ?_
  simp only [Function.comp]; omega
theorem depths_nil {lo hi : Nat} (h : hi ≤ lo) : depths lo hi = [] := by
  unfold depths; rw [show hi - lo = 0 from by omega]; rfl
theorem mem_depths {lo hi : Nat} {x : Int} : x ∈ depths lo hi ↔ (lo : Int) ≤ x ∧ x < hi := by
  simp only [depths, List.mem_map, List.mem_range]
  constructor
  · rintro ⟨i, hi', rfl⟩; omega
  · intro h; exact ⟨(x - lo).toNat, by omega, by omega⟩

/-- The keys that begin with pre, rem cuts more. -/
def gen (m : Mk) : Nat → List Int → List (List Int)
  | 0, pre => if m.l ≤ (kinds pre : Int) then [pre] else []
  | rem + 1, pre => (depths 0 m.d.toNat).flatMap fun x => if fitAt m (pre ++ [x]) pre.length = true then gen m rem (pre ++ [x]) else []
def branch (m : Mk) (rem : Nat) (pre : List Int) (x : Int) : List (List Int) := if fitAt m (pre ++ [x]) pre.length = true then gen m rem (pre ++ [x]) else []
theorem gen_succ (m : Mk) (rem : Nat) (pre : List Int) : gen m (rem + 1) pre = (depths 0 m.d.toNat).flatMap (branch m rem pre) := rfl
def keysOf (m : Mk) : List (List Int) := gen m m.c.toNat []

theorem gen_mem {m : Mk} : ∀ (rem : Nat) (pre k : List Int), k ∈ gen m rem pre ↔ pre <+: k ∧ k.length = pre.length + rem ∧ (∀ i, pre.length ≤ i → i < k.length → (0 ≤ geti k i ∧ geti k i ≤ m.d - 1) ∧ fitAt m k i = true) ∧ m.l ≤ (kinds k : Int)
  | 0, pre, k => by
    unfold gen
    constructor
    · intro h
      split at h
      · simp only [List.mem_singleton] at h
        subst h
        exact ⟨List.prefix_refl _, rfl, fun i h1 h2 => by omega, by assumption⟩
      · cases h
    · rintro ⟨h1, h2, _, h4⟩
      have : pre = k := h1.eq_of_length (by omega)
      subst this
      rw [if_pos h4]; exact List.mem_singleton.2 rfl
  | rem + 1, pre, k => by
    rw [gen_succ, List.mem_flatMap]
    constructor
    · rintro ⟨x, hx, hk⟩
      unfold branch at hk
      split at hk
      · rename_i hfit
        obtain ⟨h1, h2, h3, h4⟩ := (gen_mem rem (pre ++ [x]) k).1 hk
        obtain ⟨t, ht⟩ := h1
        rw [mem_depths] at hx
        refine ⟨⟨x :: t, by rw [← ht]; simp⟩, by simp at h2; omega, fun i hi1 hi2 => ?_, h4⟩
        by_cases e : i = pre.length
        · subst e
          have hg : geti k pre.length = x := by rw [← ht, geti_append (by simp)]; exact geti_snoc
          refine ⟨by rw [hg]; omega, ?_⟩
          rw [← ht, fitAt_append (by simp)]; exact hfit
        · exact h3 i (by simp; omega) hi2
      · cases hk
    · rintro ⟨⟨t, ht⟩, h2, h3, h4⟩
      cases t with
      | nil => simp at ht; subst ht; omega
      | cons x t =>
        have ht' : pre ++ [x] ++ t = k := by rw [← ht]; simp
        have hl : pre.length < k.length := by omega
        obtain ⟨hr, hf⟩ := h3 pre.length (Nat.le_refl _) hl
        have hg : geti k pre.length = x := by rw [← ht', geti_append (by simp)]; exact geti_snoc
        rw [hg] at hr
        refine ⟨x, mem_depths.2 ⟨by omega, by omega⟩, ?_⟩
        unfold branch
        have hfa := fitAt_append (m := m) (a := pre ++ [x]) (b := t) (i := pre.length) (by simp)
        rw [ht', hf] at hfa
        have hfit : fitAt m (pre ++ [x]) pre.length = true := hfa.symm
        rw [if_pos hfit]
        exact (gen_mem rem (pre ++ [x]) k).2 ⟨⟨t, ht'⟩, by simp; omega, fun i hi1 hi2 => h3 i (by simp at hi1; omega) hi2, h4⟩

theorem mem_keysOf {m : Mk} (hc : 0 ≤ m.c) {k : List Int} : k ∈ keysOf m ↔ isKeyB m k = true := by
  unfold keysOf
  rw [gen_mem, isKey_iff, begins_iff]
  constructor
  · rintro ⟨_, h2, h3, h4⟩
    refine ⟨by simp at h2; omega, fun x hx => ?_, fun i hi => (h3 i (Nat.zero_le _) hi).2, h4⟩
    obtain ⟨i, hi, rfl⟩ := List.getElem_of_mem hx
    have := (h3 i (Nat.zero_le _) hi).1
    rw [geti_eq hi] at this; exact this
  · rintro ⟨h1, h2, h3, h4⟩
    exact ⟨List.nil_prefix, by simp; omega, fun i _ hi => ⟨h2 _ (geti_mem hi), h3 i hi⟩, h4⟩

theorem gen_len {m : Mk} {rem : Nat} {pre k : List Int} (h : k ∈ gen m rem pre) : k.length = pre.length + rem := ((gen_mem rem pre k).1 h).2.1

/-- The keys behind k that share the first n cuts with it, n cuts or more. -/
def afterFrom (m : Mk) (C : Nat) (k : List Int) (n : Nat) : List (List Int) :=
  ((List.range (C - n)).map fun j => C - 1 - j).flatMap fun i => (depths ((geti k i).toNat + 1) m.d.toNat).flatMap (branch m (C - 1 - i) (k.take i))
theorem afterFrom_step {m : Mk} {C : Nat} {k : List Int} {n : Nat} (h : n < C) :
    afterFrom m C k n = afterFrom m C k (n + 1) ++ (depths ((geti k n).toNat + 1) m.d.toNat).flatMap (branch m (C - 1 - n) (k.take n)) := by
  unfold afterFrom
  rw [show C - n = (C - (n + 1)) + 1 from by omega, List.range_succ, List.map_append, List.flatMap_append]
  congr 1
  simp only [List.map_cons, List.map_nil, List.flatMap_cons, List.flatMap_nil, List.append_nil]
  rw [show C - 1 - (C - (n + 1)) = n from by omega]
theorem afterFrom_end {m : Mk} {C : Nat} {k : List Int} : afterFrom m C k C = [] := by
  unfold afterFrom; rw [Nat.sub_self]; rfl

theorem flatMap_split {α β : Type} (f : α → List β) : ∀ (l : List α) (L1 L2 : List β) (k : β), l.flatMap f = L1 ++ k :: L2 → ∃ a x b l1 l2, l = a ++ x :: b ∧ f x = l1 ++ k :: l2 ∧ L2 = l2 ++ b.flatMap f ∧ L1 = a.flatMap f ++ l1
  | [], L1, L2, k, h => by cases L1 <;> simp at h
  | y :: l, L1, L2, k, h => by
    rw [List.flatMap_cons] at h
    rcases List.append_eq_append_iff.1 h with ⟨c, h1, h2⟩ | ⟨c, h1, h2⟩
    · obtain ⟨a, x, b, l1, l2, e1, e2, e3, e4⟩ := flatMap_split f l c L2 k h2
      exact ⟨y :: a, x, b, l1, l2, by rw [e1]; rfl, e2, e3, by rw [h1, e4]; simp⟩
    · cases c with
      | nil =>
        simp at h1 h2
        obtain ⟨a, x, b, l1, l2, e1, e2, e3, e4⟩ := flatMap_split f l [] L2 k (by rw [← h2]; rfl)
        exact ⟨y :: a, x, b, l1, l2, by rw [e1]; rfl, e2, e3, by rw [← h1, List.flatMap_cons, List.append_assoc, ← e4]; simp⟩
      | cons z c =>
        simp at h2
        obtain ⟨rfl, h2⟩ := h2
        exact ⟨[], y, l, L1, c, rfl, h1, h2, by simp⟩

theorem depths_split {lo hi : Nat} {a b : List Int} {x : Int} (h : depths lo hi = a ++ x :: b) : b = depths (x.toNat + 1) hi ∧ a = depths lo x.toNat ∧ (lo : Int) ≤ x := by
  induction a generalizing lo with
  | nil =>
    by_cases hl : lo < hi
    · rw [depths_cons hl] at h
      simp at h
      obtain ⟨rfl, rfl⟩ := h
      exact ⟨by simp, by rw [depths_nil (by simp)], Int.le_refl _⟩
    · rw [depths_nil (by omega)] at h; simp at h
  | cons y a ih =>
    by_cases hl : lo < hi
    · rw [depths_cons hl] at h
      simp at h
      obtain ⟨rfl, h⟩ := h
      obtain ⟨h1, h2, h3⟩ := ih h
      refine ⟨h1, ?_, by omega⟩
      rw [depths_cons (by omega), ← h2]
    · rw [depths_nil (by omega)] at h; simp at h

theorem gen_split {m : Mk} {C : Nat} : ∀ (rem : Nat) (pre L1 L2 k : _), pre.length + rem = C → gen m rem pre = L1 ++ k :: L2 → L2 = afterFrom m C k pre.length
  | 0, pre, L1, L2, k, hC, h => by
    unfold gen at h
    split at h
    · have : L1 = [] ∧ L2 = [] := by
        cases L1 with
        | nil => simp at h; exact ⟨rfl, by rw [h.2]⟩
        | cons y L1 => simp at h
      rw [this.2, show pre.length = C from by omega, afterFrom_end]
    · cases L1 <;> simp at h
  | rem + 1, pre, L1, L2, k, hC, h => by
    rw [gen_succ] at h
    obtain ⟨a, x, b, l1, l2, e1, e2, e3, e4⟩ := flatMap_split _ _ _ _ _ h
    have e2' := e2
    unfold branch at e2
    split at e2
    · have ih := gen_split (C := C) rem (pre ++ [x]) l1 l2 k (by simp; omega) e2
      have hk : k ∈ gen m rem (pre ++ [x]) := by rw [e2]; simp
      obtain ⟨⟨t, ht⟩, hlen, _, _⟩ := (gen_mem rem (pre ++ [x]) k).1 hk
      have hg : geti k pre.length = x := by rw [← ht, geti_append (by simp)]; exact geti_snoc
      have htk : k.take pre.length = pre := by rw [← ht]; simp
      obtain ⟨hb, _, hx0⟩ := depths_split e1
      rw [afterFrom_step (by omega), hg, htk, e3, ih, hb]
      simp only [List.length_append, List.length_cons, List.length_nil, Nat.zero_add]
      rw [show C - 1 - pre.length = rem from by omega]
    · cases l1 <;> simp at e2
def after (m : Mk) (k : List Int) : List (List Int) := afterFrom m m.c.toNat k 0
theorem keys_after {m : Mk} {L1 L2 : List (List Int)} {k : List Int} (h : keysOf m = L1 ++ k :: L2) : after m k = L2 := by
  have := gen_split (C := m.c.toNat) m.c.toNat [] L1 L2 k (by simp) h
  exact this.symm

theorem gen_length {m : Mk} (D : Nat) (hd : m.d.toNat ≤ D) : ∀ (rem : Nat) (pre : List Int), (gen m rem pre).length ≤ D ^ rem
  | 0, pre => by unfold gen; split <;> simp
  | rem + 1, pre => by
    rw [gen_succ, List.length_flatMap]
    have : ∀ (l : List Int), (l.map fun x => (branch m rem pre x).length).sum ≤ l.length * D ^ rem := by
      intro l
      induction l with
      | nil => simp
      | cons x l ih =>
        simp only [List.map_cons, List.sum_cons, List.length_cons, Nat.succ_mul]
        have hx : (branch m rem pre x).length ≤ D ^ rem := by
          unfold branch; split
          · exact gen_length D hd rem _
          · simp
        omega
    refine Nat.le_trans (this _) ?_
    have hlen : (depths 0 m.d.toNat).length = m.d.toNat := by simp [depths]
    rw [hlen, Nat.pow_succ, Nat.mul_comm]
    exact Nat.mul_le_mul_left _ hd
theorem keysOf_length {m : Mk} (h : m.ok = true) : (keysOf m).length ≤ 262144 := by
  have hm := Mk.ok_iff.1 h
  refine Nat.le_trans (gen_length 8 (by omega) m.c.toNat []) ?_
  have : 8 ^ m.c.toNat ≤ 8 ^ 6 := Nat.pow_le_pow_right (by decide) (by omega)
  exact this
end Go.Proofs.YtikdbjaimcciiaaGreat
