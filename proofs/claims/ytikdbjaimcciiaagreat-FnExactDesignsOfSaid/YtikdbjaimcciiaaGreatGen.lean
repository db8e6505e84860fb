/- Plain lists: the keys whose cuts are allowed, from some cuts on; a run over keys that may stop. No program here. No conditions. -/
import Derived.Test.YtikdbjaimcciiaaGreatKeys
namespace Go.Proofs.YtikdbjaimcciiaaGreat
set_option linter.unusedVariables false
set_option linter.unusedSimpArgs false

theorem depths_snoc {lo x : Nat} (h : lo ≤ x) : depths lo (x + 1) = depths lo x ++ [(x : Int)] := by
  unfold depths
  rw [show x + 1 - lo = (x - lo) + 1 from by omega, List.range_succ, List.map_append]
  simp only [List.map_cons, List.map_nil]
  rw [show lo + (x - lo) = x from by omega]
/-- A run over a list, with a state, that stops as soon as a step says no. -/
def runL {σ α : Type} (f : σ → α → σ × Bool) : σ → List α → σ × Bool
  | s, [] => (s, true)
  | s, k :: ks => if (f s k).2 = true then runL f (f s k).1 ks else ((f s k).1, false)
theorem runL_append {σ α : Type} (f : σ → α → σ × Bool) : ∀ (a b : List α) (s : σ), runL f s (a ++ b) = if (runL f s a).2 = true then runL f (runL f s a).1 b else ((runL f s a).1, false)
  | [], b, s => by simp [runL]
  | k :: a, b, s => by
    simp only [List.cons_append, runL]
    by_cases h : (f s k).2 = true
    · simp only [h, if_true]; exact runL_append f a b _
    · simp only [h, if_false]; simp
theorem runL_go {σ α : Type} (f : σ → α → σ × Bool) {a b : List α} {s : σ} (h : (runL f s a).2 = true) : runL f s (a ++ b) = runL f (runL f s a).1 b := by
  rw [runL_append, if_pos h]
theorem runL_stop {σ α : Type} (f : σ → α → σ × Bool) {a b : List α} {s : σ} (h : (runL f s a).2 = false) : runL f s (a ++ b) = ((runL f s a).1, false) := by
  rw [runL_append, if_neg (by rw [h]; decide)]
theorem runL_one {σ α : Type} (f : σ → α → σ × Bool) (k : α) (s : σ) : runL f s [k] = f s k := by
  simp only [runL]
  split
  · rename_i h; rw [← h]
  · rename_i h; simp only [Bool.not_eq_true] at h; rw [← h]
theorem runL_nil {σ α : Type} (f : σ → α → σ × Bool) (s : σ) : runL f s [] = (s, true) := rfl
/-- A run that never stops. -/
theorem runL_all {σ α : Type} (f : σ → α → σ × Bool) (g : σ → α → σ) (h : ∀ s k, f s k = (g s k, true)) : ∀ (l : List α) (s : σ), runL f s l = (l.foldl g s, true)
  | [], s => rfl
  | k :: l, s => by simp only [runL, h, if_true, List.foldl_cons]; exact runL_all f g h l _

/-- The keys that begin with pre, rem cuts more, whose cuts are allowed; tight: from the cuts of fr on. -/
def genF (m : Mk) (A : Nat → Int → Bool) (fr : List Int) : Bool → Nat → List Int → List (List Int)
  | _, 0, pre => if m.l ≤ (kinds pre : Int) then [pre] else []
  | tight, rem + 1, pre => (depths (if tight = true then (geti fr pre.length).toNat else 0) m.d.toNat).flatMap fun x =>
      if (A pre.length x && fitAt m (pre ++ [x]) pre.length) = true then genF m A fr (tight && decide (x = geti fr pre.length)) rem (pre ++ [x]) else []
def brF (m : Mk) (A : Nat → Int → Bool) (fr : List Int) (tight : Bool) (rem : Nat) (pre : List Int) (x : Int) : List (List Int) :=
  if (A pre.length x && fitAt m (pre ++ [x]) pre.length) = true then genF m A fr (tight && decide (x = geti fr pre.length)) rem (pre ++ [x]) else []
def lowF (fr : List Int) (tight : Bool) (n : Nat) : Nat := if tight = true then (geti fr n).toNat else 0
theorem genF_succ (m : Mk) (A : Nat → Int → Bool) (fr : List Int) (tight : Bool) (rem : Nat) (pre : List Int) :
    genF m A fr tight (rem + 1) pre = (depths (lowF fr tight pre.length) m.d.toNat).flatMap (brF m A fr tight rem pre) := rfl
theorem genF_free (m : Mk) (fr : List Int) : ∀ (rem : Nat) (pre : List Int), genF m (fun _ _ => true) fr false rem pre = gen m rem pre
  | 0, pre => rfl
  | rem + 1, pre => by
    rw [genF_succ, gen_succ]
    show (depths 0 m.d.toNat).flatMap _ = _
    congr 1
    funext x
    unfold brF branch
    simp only [Bool.true_and, Bool.false_and]
    rw [genF_free m fr rem (pre ++ [x])]
theorem genF_len {m : Mk} {A : Nat → Int → Bool} {fr : List Int} : ∀ {rem : Nat} {tight : Bool} {pre k : List Int}, k ∈ genF m A fr tight rem pre → k.length = pre.length + rem
  | 0, tight, pre, k, h => by
    unfold genF at h
    split at h
    · simp only [List.mem_singleton] at h; subst h; rfl
    · cases h
  | rem + 1, tight, pre, k, h => by
    rw [genF_succ, List.mem_flatMap] at h
    obtain ⟨x, hx, hk⟩ := h
    unfold brF at hk
    split at hk
    · have := genF_len hk; simp at this; omega
    · cases hk

/-- The spec's count, first and next. -/
def genB (m : Mk) (rem : Nat) (pre : List Int) : List (List Int) := if begins m pre = true then gen m rem pre else []
theorem genB_succ {m : Mk} {rem : Nat} {pre : List Int} (h : begins m pre = true) : genB m (rem + 1) pre = (depths 0 m.d.toNat).flatMap fun x => genB m rem (pre ++ [x]) := by
  unfold genB
  rw [if_pos h, gen_succ]
  congr 1
  funext x
  unfold branch
  rw [begins_snoc, h, Bool.true_and]
theorem genB_nil (m : Mk) : genB m m.c.toNat [] = keysOf m := by
  unfold genB keysOf
  rw [if_pos begins_nil]
theorem branch_genB {m : Mk} {rem : Nat} {pre : List Int} {x : Int} (h : begins m pre = true) : branch m rem pre x = genB m rem (pre ++ [x]) := by
  unfold genB branch
  rw [begins_snoc, h, Bool.true_and]
/-- The keys behind k (of C cuts) that share the first n cuts with it, whatever k is. -/
def behindFrom (m : Mk) (C : Nat) (k : List Int) (n : Nat) : List (List Int) :=
  ((List.range (C - n)).map fun j => C - 1 - j).flatMap fun i => (depths ((geti k i).toNat + 1) m.d.toNat).flatMap fun x => genB m (C - 1 - i) (k.take i ++ [x])
theorem behindFrom_step {m : Mk} {C : Nat} {k : List Int} {n : Nat} (h : n < C) :
    behindFrom m C k n = behindFrom m C k (n + 1) ++ (depths ((geti k n).toNat + 1) m.d.toNat).flatMap fun x => genB m (C - 1 - n) (k.take n ++ [x]) := by
  unfold behindFrom
  rw [show C - n = (C - (n + 1)) + 1 from by omega, List.range_succ, List.map_append, List.flatMap_append]
  congr 1
  simp only [List.map_cons, List.map_nil, List.flatMap_cons, List.flatMap_nil, List.append_nil]
  rw [show C - 1 - (C - (n + 1)) = n from by omega]
theorem behindFrom_end {m : Mk} {C : Nat} {k : List Int} : behindFrom m C k C = [] := by
  unfold behindFrom; rw [Nat.sub_self]; rfl
theorem begins_take {m : Mk} {k : List Int} {n : Nat} (h : begins m k = true) : begins m (k.take n) = true := by
  rw [begins_iff] at h ⊢
  intro i hi
  have hi' : i < n ∧ i < k.length := by simp at hi; omega
  have := h i hi'.2
  rw [← this]
  unfold fitAt
  rw [runAt_take hi'.1, geti_take hi'.1]
  cases i with
  | zero => rfl
  | succ j => rw [geti_take (by simpa using (by omega : j < n))]
theorem behind_after {m : Mk} {C : Nat} {k : List Int} (h : begins m k = true) : ∀ n, behindFrom m C k n = afterFrom m C k n := by
  intro n
  unfold behindFrom afterFrom
  congr 1
  funext i
  congr 1
  funext x
  exact (branch_genB (begins_take h)).symm
def behind (m : Mk) (k : List Int) : List (List Int) := behindFrom m m.c.toNat k 0
/-- All keys, from k on: behind the first comes the next. -/
theorem keys_behind {m : Mk} (hc : 0 ≤ m.c) {L1 L2 : List (List Int)} {k : List Int} (h : keysOf m = L1 ++ k :: L2) : behind m k = L2 := by
  have hk : k ∈ keysOf m := by rw [h]; simp
  have hb := (isKey_iff.1 ((mem_keysOf hc).1 hk)).2.2.1
  unfold behind
  rw [behind_after hb]
  exact keys_after h
/-! ### Runs of equal cuts, told otherwise -/
theorem runAt_char {l : List Int} : ∀ (n r : Nat), 1 ≤ r → r ≤ n + 1 → (∀ j, j < r → geti l (n - j) = geti l n) → (r = n + 1 ∨ geti l (n - r) ≠ geti l n) → runAt l n = r
  | 0, r, h1, h2, _, _ => by have : r = 1 := by omega
                             subst this; rfl
  | n + 1, r, h1, h2, h3, h4 => by
    unfold runAt
    by_cases hr : r = 1
    · subst hr
      have hne : geti l n ≠ geti l (n + 1) := by
        rcases h4 with h | h
        · omega
        · simpa using h
      rw [if_neg (fun e => hne e.symm)]
    · have h5 := h3 1 (by omega)
      simp only [Nat.add_sub_cancel] at h5
      rw [if_pos h5.symm]
      have := runAt_char (l := l) n (r - 1) (by omega) (by omega) (fun j hj => by
        have := h3 (j + 1) (by omega)
        rw [show n + 1 - (j + 1) = n - j from by omega] at this
        rw [this, h5]) (by
        rcases h4 with h | h
        · left; omega
        · right
          rw [show n - (r - 1) = n + 1 - r from by omega, h5]; exact h)
      omega
/-- The longest run among the first k cuts. -/
def mostRun (l : List Int) : Nat → Nat
  | 0 => 0
  | k + 1 => max (mostRun l k) (runAt l k)
theorem mostRun_le (l : List Int) : ∀ k, mostRun l k ≤ k
  | 0 => Nat.le_refl _
  | k + 1 => by have := mostRun_le l k; have := runAt_le l k; unfold mostRun; omega
theorem mostRun_bad {m : Mk} {l : List Int} : ∀ k, (0 ≤ m.e) → ((m.e < (mostRun l k : Int)) ↔ (List.range k).any (runBad m l) = true)
  | 0, h => by simp [mostRun]; omega
  | k + 1, h => by
    rw [List.range_succ, List.any_append, Bool.or_eq_true, ← mostRun_bad k h]
    simp only [List.any_cons, List.any_nil, Bool.or_false, runBad, decide_eq_true_eq, mostRun]
    omega
theorem any_range_succ (p : Nat → Bool) (k : Nat) : (List.range (k + 1)).any p = ((List.range k).any p || p k) := by
  rw [List.range_succ, List.any_append]; simp
theorem any_range_mono {p : Nat → Bool} {k n : Nat} (h : k < n) (hp : p k = true) : (List.range n).any p = true :=
  List.any_eq_true.2 ⟨k, List.mem_range.2 h, hp⟩
theorem any_range_none {p : Nat → Bool} {n : Nat} (h : ∀ k, k < n → p k = false) : (List.range n).any p = false := by
  rw [List.any_eq_false]; intro k hk; rw [h k (List.mem_range.1 hk)]; decide
/-- The cases of the fault. -/
theorem fault1 {m : Mk} {l : List Int} (h : (l.length : Int) ≠ m.c) : fault m l = 1 := by unfold fault; rw [if_pos h]
theorem fault2 {m : Mk} {l : List Int} (h : (l.length : Int) = m.c) (h2 : (l.all fun n => inB n 0 (m.d - 1)) = false) : fault m l = 2 := by
  unfold fault; rw [if_neg (by omega), if_pos h2]
theorem fault3 {m : Mk} {l : List Int} (h : (l.length : Int) = m.c) (h2 : (l.all fun n => inB n 0 (m.d - 1)) = true) (h3 : (List.range l.length).any (stepBad m l) = true) : fault m l = 3 := by
  unfold fault; rw [if_neg (by omega), if_neg (by rw [h2]; decide), if_pos h3]
theorem fault4 {m : Mk} {l : List Int} (h : (l.length : Int) = m.c) (h2 : (l.all fun n => inB n 0 (m.d - 1)) = true) (h3 : (List.range l.length).any (stepBad m l) = false) (h4 : (List.range l.length).any (runBad m l) = true) : fault m l = 4 := by
  unfold fault; rw [if_neg (by omega), if_neg (by rw [h2]; decide), if_neg (by rw [h3]; decide), if_pos h4]
theorem fault5 {m : Mk} {l : List Int} (h : (l.length : Int) = m.c) (h2 : (l.all fun n => inB n 0 (m.d - 1)) = true) (h3 : (List.range l.length).any (stepBad m l) = false) (h4 : (List.range l.length).any (runBad m l) = false) (h5 : (kinds l : Int) < m.l) : fault m l = 5 := by
  unfold fault; rw [if_neg (by omega), if_neg (by rw [h2]; decide), if_neg (by rw [h3]; decide), if_neg (by rw [h4]; decide), if_pos h5]
theorem fault0 {m : Mk} {l : List Int} (h : (l.length : Int) = m.c) (h2 : (l.all fun n => inB n 0 (m.d - 1)) = true) (h3 : (List.range l.length).any (stepBad m l) = false) (h4 : (List.range l.length).any (runBad m l) = false) (h5 : ¬ (kinds l : Int) < m.l) : fault m l = 0 := by
  unfold fault; rw [if_neg (by omega), if_neg (by rw [h2]; decide), if_neg (by rw [h3]; decide), if_neg (by rw [h4]; decide), if_neg h5]
end Go.Proofs.YtikdbjaimcciiaaGreat
