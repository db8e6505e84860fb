/- The search for designs: a plain model, general over what is done with each design. No program here. No conditions. -/
import Derived.Test.YtikdbjaimcciiaaGreatMStay
namespace Go.Proofs.YtikdbjaimcciiaaGreat
open Go.RowKit
set_option linter.unusedVariables false
set_option linter.unusedSimpArgs false

/-- The tries, whether the limit was met, and what is kept of the designs. -/
abbrev GSt (τ : Type) := Nat × Bool × τ
section
variable {τ : Type}
def goStep (limit : Nat) (stay : List (List Int) → List Int → Bool) (rec : List (List Int) → GSt τ → GSt τ × Bool) (cuts : List (List Int)) (s : GSt τ) (key : List Int) : GSt τ × Bool :=
  if s.1 = limit then ((s.1, true, s.2.2), false)
  else if stay cuts key = true then rec (cuts ++ [key]) (s.1 + 1, s.2.1, s.2.2) else ((s.1 + 1, s.2.1, s.2.2), true)
def goF (limit : Nat) (stay : List (List Int) → List Int → Bool) (vis : τ → List (List Int) → τ × Bool) (keys : List (List Int)) : Nat → List (List Int) → GSt τ → GSt τ × Bool
  | 0 => fun cuts s => ((s.1, s.2.1, (vis s.2.2 cuts).1), (vis s.2.2 cuts).2)
  | d + 1 => fun cuts s => runL (goStep limit stay (goF limit stay vis keys d) cuts) s keys
theorem goStep_le {limit : Nat} {stay : List (List Int) → List Int → Bool} {rec : List (List Int) → GSt τ → GSt τ × Bool} (hr : ∀ c s, s.1 ≤ limit → (rec c s).1.1 ≤ limit) {cuts : List (List Int)} {s : GSt τ} {key : List Int} (h : s.1 ≤ limit) : (goStep limit stay rec cuts s key).1.1 ≤ limit := by
  unfold goStep
  split
  · exact h
  · split
    · exact hr _ _ (by show s.1 + 1 ≤ limit; omega)
    · show s.1 + 1 ≤ limit; omega
theorem runL_le {limit : Nat} {f : GSt τ → List Int → GSt τ × Bool} (hf : ∀ s k, s.1 ≤ limit → (f s k).1.1 ≤ limit) : ∀ (l : List (List Int)) (s : GSt τ), s.1 ≤ limit → (runL f s l).1.1 ≤ limit
  | [], s, h => h
  | k :: l, s, h => by
    unfold runL
    split
    · exact runL_le hf l _ (hf s k h)
    · exact hf s k h
theorem goF_le {limit : Nat} {stay : List (List Int) → List Int → Bool} {vis : τ → List (List Int) → τ × Bool} {keys : List (List Int)} : ∀ {d : Nat} {cuts : List (List Int)} {s : GSt τ}, s.1 ≤ limit → (goF limit stay vis keys d cuts s).1.1 ≤ limit
  | 0, _, s, h => h
  | d + 1, cuts, s, h => runL_le (fun s k hs => goStep_le (fun c s hs => goF_le hs) hs) keys s h
end
def openP (n : Nat) (t : List (List Int)) (cuts : List (List Int)) : Bool := decide ((falseL n t cuts).length = 0)
def stayP (n : Nat) (t : List (List Int)) (cuts : List (List Int)) (key : List Int) : Bool := openP n t (cuts ++ [key])
/-- At most so many designs are kept. -/
def visK (most : Int) (s : List (List (List Int))) (design : List (List Int)) : List (List (List Int)) × Bool := (s ++ [design], decide ((s.length : Int) + 1 < most))
def firstF (n : Nat) (t keys cuts : List (List Int)) (most : Int) (limit : Nat) : GSt (List (List (List Int))) :=
  if 0 < most then (goF limit (stayP n t) (visK most) keys (t.length - cuts.length) cuts (0, false, [])).1 else (0, false, [])
/-- What is kept are designs that begin with the cuts, and at most so many. -/
theorem goF_found {limit n : Nat} {t keys : List (List Int)} {most : Int} {P : List (List Int) → Prop} (hP : ∀ c k, k ∈ keys → P c → stayP n t c k = true → P (c ++ [k])) : ∀ {d : Nat} {cuts : List (List Int)} {s : GSt (List (List (List Int)))},
    P cuts → (∀ x ∈ s.2.2, P x) → ∀ x ∈ (goF limit (stayP n t) (visK most) keys d cuts s).1.2.2, P x
  | 0, cuts, s, hc, hs => by
    intro x hx
    simp only [goF, visK, List.mem_append, List.mem_singleton] at hx
    rcases hx with hx | rfl
    · exact hs x hx
    · exact hc
  | d + 1, cuts, s, hc, hs => by
    show ∀ x ∈ (runL (goStep limit (stayP n t) (goF limit (stayP n t) (visK most) keys d) cuts) s keys).1.2.2, P x
    have key : ∀ (l : List (List Int)), (∀ k ∈ l, k ∈ keys) → ∀ (s : GSt (List (List (List Int)))), (∀ x ∈ s.2.2, P x) → ∀ x ∈ (runL (goStep limit (stayP n t) (goF limit (stayP n t) (visK most) keys d) cuts) s l).1.2.2, P x := by
      intro l
      induction l with
      | nil => intro _ s hs; exact hs
      | cons k l ih =>
        intro hl s hs
        have h1 : ∀ x ∈ (goStep limit (stayP n t) (goF limit (stayP n t) (visK most) keys d) cuts s k).1.2.2, P x := by
          unfold goStep
          split
          · exact hs
          · split
            · rename_i hst
              exact goF_found hP (hP cuts k (hl k (List.mem_cons_self ..)) hc hst) hs
            · exact hs
        unfold runL
        split
        · exact ih (fun k hk => hl k (List.mem_cons_of_mem _ hk)) _ h1
        · exact h1
    exact key keys (fun k hk => hk) s hs
end Go.Proofs.YtikdbjaimcciiaaGreat

namespace Go.Proofs.YtikdbjaimcciiaaGreat
open Go.RowKit
set_option linter.unusedVariables false
set_option linter.unusedSimpArgs false

theorem flatMap_congr1 {α β : Type} {f g : α → List β} : ∀ {l : List α}, (∀ x ∈ l, f x = g x) → l.flatMap f = l.flatMap g
  | [], _ => rfl
  | x :: l, h => by
    rw [List.flatMap_cons, List.flatMap_cons, h x (List.mem_cons_self ..), flatMap_congr1 (fun y hy => h y (List.mem_cons_of_mem _ hy))]
/-- From a key on come the key and the keys behind it. -/
theorem genF_tight {m : Mk} {fr : List Int} (hc : 0 ≤ m.c) (hk : isKeyB m fr = true) : ∀ rem n, n + rem = m.c.toNat → genF m (fun _ _ => true) fr true rem (fr.take n) = fr :: behindFrom m m.c.toNat fr n
  | 0, n, h => by
    have hkk := isKey_iff.1 hk
    have hl : fr.length = m.c.toNat := by omega
    rw [show n = m.c.toNat from by omega, behindFrom_end, ← hl, List.take_length]
    unfold genF
    rw [if_pos hkk.2.2.2]
  | rem + 1, n, h => by
    have hkk := isKey_iff.1 hk
    have hl : fr.length = m.c.toNat := by omega
    have hnl : n < fr.length := by omega
    have hpl : (fr.take n).length = n := by rw [List.length_take]; omega
    have hx := hkk.2.1 _ (geti_mem hnl)
    have hcast : (((geti fr n).toNat : Nat) : Int) = geti fr n := by omega
    have htk : fr.take n ++ [geti fr n] = fr.take (n + 1) := (take_geti hnl).symm
    have hb1 := begins_take (n := n) hkk.2.2.1
    have hb2 := begins_take (n := n + 1) hkk.2.2.1
    have hfit : fitAt m (fr.take n ++ [geti fr n]) (fr.take n).length = true := by
      rw [htk, hpl]
      exact begins_iff.1 hb2 n (by rw [List.length_take]; omega)
    have h1 : brF m (fun _ _ => true) fr true rem (fr.take n) (((geti fr n).toNat : Nat) : Int) = fr :: behindFrom m m.c.toNat fr (n + 1) := by
      rw [hcast]; unfold brF
      rw [hfit, hpl, htk, decide_eq_true rfl]
      exact genF_tight hc hk rem (n + 1) (by omega)
    rw [genF_succ, hpl]
    show (depths (geti fr n).toNat m.d.toNat).flatMap _ = _
    rw [depths_cons (by omega), List.flatMap_cons, h1, behindFrom_step (m := m) (C := m.c.toNat) (k := fr) (n := n) (by omega), List.cons_append]
    congr 2
    refine flatMap_congr1 fun x hxm => ?_
    have hx2 := mem_depths.1 hxm
    rw [← branch_genB hb1]
    unfold brF branch
    rw [hpl, decide_eq_false (by omega)]
    simp only [Bool.true_and, Bool.and_false]
    rw [genF_free, show m.c.toNat - 1 - n = rem from by omega]
theorem genF_from {m : Mk} {fr : List Int} (hc : 0 ≤ m.c) (hk : isKeyB m fr = true) : genF m (fun _ _ => true) fr true m.c.toNat [] = fr :: behind m fr := by
  have := genF_tight hc hk m.c.toNat 0 (by omega)
  rw [List.take_zero] at this
  exact this
/-- The keys are all different, and so none behind a key is that key. -/
theorem behind_ne {m : Mk} {C : Nat} {k : List Int} (hl : k.length = C) : ∀ n, ∀ x ∈ behindFrom m C k n, x ≠ k := by
  intro n x hx
  unfold behindFrom at hx
  rw [List.mem_flatMap] at hx
  obtain ⟨i, hi, hx⟩ := hx
  rw [List.mem_map] at hi
  obtain ⟨j, hj, rfl⟩ := hi
  have hj' := List.mem_range.1 hj
  rw [List.mem_flatMap] at hx
  obtain ⟨y, hy, hx⟩ := hx
  have hy2 := (mem_depths.1 hy).1
  unfold genB at hx
  split at hx
  · have h1 := ((gen_mem _ _ x).1 hx).1
    intro e
    subst e
    obtain ⟨z, hz⟩ := h1
    have hlt : C - 1 - j < x.length := by omega
    have h2 : geti x (C - 1 - j) = y := by
      have h3 : geti (x.take (C - 1 - j) ++ [y] ++ z) (C - 1 - j) = y := by
        rw [geti_append (by simp; omega)]
        have h4 := geti_snoc (a := x.take (C - 1 - j)) (x := y)
        rw [List.length_take, Nat.min_eq_left (by omega)] at h4
        exact h4
      rw [hz] at h3
      exact h3
    omega
  · cases hx
/-- A visit that passes over one key. -/
def skipS {σ : Type} (fr : List Int) (f : σ → List Int → σ × Bool) (s : σ) (k : List Int) : σ × Bool := if k = fr then (s, true) else f s k
theorem runL_skip {σ : Type} {fr : List Int} {f : σ → List Int → σ × Bool} : ∀ (l : List (List Int)), (∀ x ∈ l, x ≠ fr) → ∀ s, runL (skipS fr f) s l = runL f s l
  | [], _, s => rfl
  | k :: l, h, s => by
    have h1 : skipS fr f s k = f s k := by unfold skipS; rw [if_neg (h k (List.mem_cons_self ..))]
    unfold runL
    rw [h1, runL_skip l (fun x hx => h x (List.mem_cons_of_mem _ hx))]
theorem runL_from {σ : Type} {m : Mk} {fr : List Int} {f : σ → List Int → σ × Bool} (hc : 0 ≤ m.c) (hk : isKeyB m fr = true) (s : σ) :
    runL (skipS fr f) s (genF m (fun _ _ => true) fr true m.c.toNat []) = runL f s (behind m fr) := by
  rw [genF_from hc hk]
  have h1 : skipS fr f s fr = (s, true) := by unfold skipS; rw [if_pos rfl]
  have h2 : runL (skipS fr f) s ([fr] ++ behind m fr) = runL (skipS fr f) (runL (skipS fr f) s [fr]).1 (behind m fr) := runL_go (skipS fr f) (by rw [runL_one, h1])
  rw [runL_one, h1] at h2
  exact h2.trans (runL_skip _ (behind_ne (m := m) (C := m.c.toNat) (k := fr) (by have := (isKey_iff.1 hk).1; omega) 0) s)
/-- The search behind the key of a row, row by row. -/
def backF (m : Mk) (n : Nat) (t cuts : List (List Int)) (limit row : Nat) (s : GSt (List (List (List Int)))) : GSt (List (List (List Int))) × Bool :=
  runL (goStep limit (stayP n t) (goF limit (stayP n t) (visK 1) (keysOf m) (t.length - row - 1)) (cuts.take row)) s (behind m (getl cuts row))
def nextF (m : Mk) (n : Nat) (t cuts : List (List Int)) (limit : Nat) : Nat → GSt (List (List (List Int))) → GSt (List (List (List Int)))
  | 0, s => s
  | r + 1, s => if (backF m n t cuts limit r s).2 = true then nextF m n t cuts limit r (backF m n t cuts limit r s).1 else (backF m n t cuts limit r s).1
/-- Nothing is found and the limit is not met, exactly as long as the search goes on. -/
def actK (s : GSt (List (List (List Int)))) : Prop := s.2.1 = false ∧ s.2.2 = []
theorem goStep_actK {limit : Nat} {stay : List (List Int) → List Int → Bool} {rec : List (List Int) → GSt (List (List (List Int))) → GSt (List (List (List Int))) × Bool}
    (hr : ∀ c s, actK s → ((rec c s).2 = true ↔ actK (rec c s).1)) {cuts : List (List Int)} {s : GSt (List (List (List Int)))} {key : List Int} (h : actK s) : (goStep limit stay rec cuts s key).2 = true ↔ actK (goStep limit stay rec cuts s key).1 := by
  unfold goStep
  split
  · constructor
    · intro h; cases h
    · intro h; have := h.1; cases this
  · split
    · exact hr _ _ h
    · exact ⟨fun _ => h, fun _ => rfl⟩
theorem runL_actK {f : GSt (List (List (List Int))) → List Int → GSt (List (List (List Int))) × Bool} (hf : ∀ s k, actK s → ((f s k).2 = true ↔ actK (f s k).1)) : ∀ (l : List (List Int)) (s : GSt (List (List (List Int)))), actK s → ((runL f s l).2 = true ↔ actK (runL f s l).1)
  | [], s, h => ⟨fun _ => h, fun _ => rfl⟩
  | k :: l, s, h => by
    unfold runL
    by_cases hk : (f s k).2 = true
    · rw [if_pos hk]; exact runL_actK hf l _ ((hf s k h).1 hk)
    · rw [if_neg hk]
      exact ⟨fun h2 => (by cases h2), fun h2 => absurd ((hf s k h).2 h2) hk⟩
theorem goF_actK {limit : Nat} {stay : List (List Int) → List Int → Bool} {keys : List (List Int)} : ∀ {d : Nat} {cuts : List (List Int)} {s : GSt (List (List (List Int)))}, actK s → ((goF limit stay (visK 1) keys d cuts s).2 = true ↔ actK (goF limit stay (visK 1) keys d cuts s).1)
  | 0, cuts, s, h => by
    constructor
    · intro h2
      have h3 : decide ((s.2.2.length : Int) + 1 < 1) = true := h2
      have := of_decide_eq_true h3
      omega
    · intro h2
      have h3 : s.2.2 ++ [cuts] = [] := h2.2
      simp at h3
  | d + 1, cuts, s, h => runL_actK (fun s k hs => goStep_actK (fun c s hs => goF_actK hs) hs) keys s h
theorem backF_actK {m : Mk} {n : Nat} {t cuts : List (List Int)} {limit row : Nat} {s : GSt (List (List (List Int)))} (h : actK s) : (backF m n t cuts limit row s).2 = true ↔ actK (backF m n t cuts limit row s).1 :=
  runL_actK (fun s k hs => goStep_actK (fun c s hs => goF_actK hs) hs) _ s h
end Go.Proofs.YtikdbjaimcciiaaGreat
