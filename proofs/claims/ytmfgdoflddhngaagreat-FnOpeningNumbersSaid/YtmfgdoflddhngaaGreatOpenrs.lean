/- Plain lists: the openers of a lock, as the program and the reference find them. No program here. No conditions. -/
import Derived.Test.YtmfgdoflddhngaaGreatMRefFirst
namespace Go.Proofs.YtmfgdoflddhngaaGreat
open Go.RowKit
set_option linter.unusedVariables false
set_option linter.unusedSimpArgs false

/-- The openers of a lock that begin with pre, as the reference finds them. -/
def genS (m : Mk) (l : List (List Int)) : Nat → List Int → List (List Int)
  | 0, pre => if begins m pre = true ∧ m.l ≤ (kinds pre : Int) then [pre] else []
  | rem + 1, pre => if begins m pre = true then (getl l pre.length).flatMap fun x => genS m l rem (pre ++ [x]) else []
theorem genS_not {m : Mk} {l : List (List Int)} {pre : List Int} (h : begins m pre = false) : ∀ rem, genS m l rem pre = []
  | 0 => by unfold genS; rw [if_neg (by rw [h]; simp)]
  | rem + 1 => by unfold genS; rw [if_neg (by rw [h]; simp)]
/-- The sets of a lock rise and hold depths only. -/
def SetsOk (m : Mk) (l : List (List Int)) : Prop := ∀ i, (getl l i).Pairwise (· < ·) ∧ ∀ x ∈ getl l i, 0 ≤ x ∧ x < m.d
theorem flat_if {α β : Type} (p : α → Bool) (f : α → List β) : ∀ l : List α, (l.flatMap fun x => if p x = true then f x else []) = (l.filter p).flatMap f
  | [] => rfl
  | x :: l => by
    rw [List.flatMap_cons, flat_if p f l, List.filter_cons]
    split <;> simp
theorem depths_sorted (lo hi : Nat) : (depths lo hi).Pairwise (· < ·) := by
  unfold depths
  rw [List.pairwise_map]
  exact List.Pairwise.imp (fun h => by omega) (List.pairwise_lt_range (n := hi - lo))
theorem filter_set {s : List Int} {d : Nat} (h1 : s.Pairwise (· < ·)) (h2 : ∀ x ∈ s, 0 ≤ x ∧ x < (d : Int)) : (depths 0 d).filter (hasI s) = s := by
  refine sorted_ext ((depths_sorted 0 d).filter _) h1 fun x => ?_
  rw [List.mem_filter, mem_depths, hasI_iff]
  constructor
  · exact fun h => h.2
  · intro h; have := h2 x h; exact ⟨⟨by omega, by omega⟩, h⟩
def allowS (l : List (List Int)) (i : Nat) (x : Int) : Bool := hasI (getl l i) x
theorem genF_genS {m : Mk} {l : List (List Int)} (h : SetsOk m l) : ∀ (rem : Nat) (pre : List Int), begins m pre = true → genF m (allowS l) [] false rem pre = genS m l rem pre
  | 0, pre, hb => by unfold genF genS; simp [hb]
  | rem + 1, pre, hb => by
    have hs := filter_set (d := m.d.toNat) (h pre.length).1 (fun x hx => by have := (h pre.length).2 x hx; omega)
    rw [genF_succ, genS, if_pos hb, show lowF [] false pre.length = 0 from rfl]
    conv => rhs; rw [← hs]
    rw [← flat_if]
    congr 1
    funext x
    unfold brF allowS
    by_cases hx : hasI (getl l pre.length) x = true
    · by_cases hf : fitAt m (pre ++ [x]) pre.length = true
      · rw [if_pos (by rw [hx, hf]; rfl), if_pos hx, Bool.false_and]
        exact genF_genS h rem _ (by rw [begins_snoc, hb, hf]; rfl)
      · rw [if_neg (by simp [hf]), if_pos hx]
        exact (genS_not (by rw [begins_snoc, Bool.eq_false_iff.2 hf, Bool.and_false]) rem).symm
    · rw [if_neg (by simp [hx]), if_neg hx]
theorem genS_length {m : Mk} {l : List (List Int)} (hl : ∀ i, (getl l i).length ≤ 8) : ∀ (rem : Nat) (pre : List Int), (genS m l rem pre).length ≤ 8 ^ rem
  | 0, pre => by unfold genS; split <;> simp
  | rem + 1, pre => by
    unfold genS
    split
    · rw [List.length_flatMap]
      have : ∀ (s : List Int), (s.map fun x => (genS m l rem (pre ++ [x])).length).sum ≤ s.length * 8 ^ rem := by
        intro s
        induction s with
        | nil => simp
        | cons x s ih =>
          simp only [List.map_cons, List.sum_cons, List.length_cons, Nat.succ_mul]
          have := genS_length (m := m) hl rem (pre ++ [x])
          omega
      refine Nat.le_trans (this _) ?_
      rw [Nat.pow_succ, Nat.mul_comm]
      exact Nat.mul_le_mul_left _ (hl _)
    · simp
/-- The keys with allowed cuts are those of all keys whose cuts are allowed. -/
theorem genF_filter (m : Mk) (A : Nat → Int → Bool) : ∀ (rem : Nat) (pre : List Int), genF m A [] false rem pre = (gen m rem pre).filter fun k => upAll (fun i => A i (geti k i)) k.length pre.length
  | 0, pre => by
    unfold genF gen
    split
    · rw [List.filter_cons, if_pos upAll_end, List.filter_nil]
    · rfl
  | rem + 1, pre => by
    rw [genF_succ, gen_succ, List.filter_flatMap, show lowF [] false pre.length = 0 from rfl]
    congr 1
    funext x
    unfold brF branch
    by_cases hf : fitAt m (pre ++ [x]) pre.length = true
    · rw [if_pos hf, Bool.false_and, genF_filter m A rem (pre ++ [x]), hf, Bool.and_true]
      have hk : ∀ k ∈ gen m rem (pre ++ [x]), upAll (fun i => A i (geti k i)) k.length pre.length = (A pre.length x && upAll (fun i => A i (geti k i)) k.length (pre ++ [x]).length) := fun k hk => by
        obtain ⟨⟨t, ht⟩, h2, _⟩ := (gen_mem rem (pre ++ [x]) k).1 hk
        have hlt : pre.length < k.length := by rw [h2]; simp; omega
        have hg : geti k pre.length = x := by rw [← ht, geti_append (by simp)]; exact geti_snoc
        rw [upAll_step hlt, hg, List.length_append]; rfl
      rw [List.filter_congr hk]
      cases hA : A pre.length x
      · simp
      · simp
    · rw [if_neg (by simp [hf]), if_neg hf]; rfl
theorem openers_keys (m : Mk) (l : List (List Int)) : keysA m (allowS l) = (keysOf m).filter (opensB l) := by
  unfold keysA keysOf
  rw [genF_filter]
  rfl
/-- The keys of a maker that open a lock and are not among some cuts. -/
def ghostsN (m : Mk) (l cuts : List (List Int)) : Nat := ((keysOf m).filter (opensB l)).countP fun k => !hasL cuts k
theorem ghostsN_le (m : Mk) (h : m.ok = true) (l cuts : List (List Int)) : ghostsN m l cuts ≤ 262144 := by
  unfold ghostsN
  refine Nat.le_trans List.countP_le_length (Nat.le_trans (List.length_filter_le _ _) (keysOf_length h))
theorem ghostsN_outs (m : Mk) (l cuts : List (List Int)) : ghostsN m l cuts = (outsOf cuts (keysOf m)).countP (opensB l) := by
  unfold ghostsN outsOf
  rw [List.countP_filter, List.countP_filter]
  congr 1
  funext k
  exact Bool.and_comm _ _
theorem genS_all {m : Mk} {l : List (List Int)} (h : SetsOk m l) : genS m l m.c.toNat [] = (keysOf m).filter (opensB l) := by
  rw [← openers_keys, ← genF_genS h _ _ begins_nil]; rfl
theorem lock_sets {m : Mk} {t cuts : List (List Int)} {n d : Nat} (hf : Fits m t cuts) (hn : (n : Int) = m.c) : SetsOk m (lockR n t cuts d) := by
  intro i
  by_cases hi : i < n
  · rw [lockR, hullR_get hi]
    refine ⟨(diffI_sort _).1, fun x hx => ?_⟩
    rw [(diffI_sort _).2, colOf, List.mem_map] at hx
    obtain ⟨k, hk, rfl⟩ := hx
    obtain ⟨j, hj, rfl, _⟩ := mem_doorCuts hk
    have h1 := hf.lens j hj
    have h2 := hf.deps j hj i (by omega)
    omega
  · have : getl (lockR n t cuts d) i = [] := by
      unfold getl
      rw [List.getD_eq_getElem?_getD, List.getElem?_eq_none (by rw [lockR, hullR_len]; omega)]
      rfl
    rw [this]
    exact ⟨List.Pairwise.nil, fun x hx => by cases hx⟩
theorem set_len {m : Mk} {l : List (List Int)} (h : SetsOk m l) (hd : m.d ≤ 8) (i : Nat) : (getl l i).length ≤ 8 := by
  have hs := filter_set (d := m.d.toNat) (h i).1 (fun x hx => by have := (h i).2 x hx; omega)
  rw [← hs]
  refine Nat.le_trans (List.length_filter_le _ _) ?_
  simp [depths]; omega
end Go.Proofs.YtmfgdoflddhngaaGreat
