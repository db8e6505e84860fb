/- The program's visit of all keys: the closure that sets the cuts, by induction. No conditions. -/
import Derived.Test.YtlfnadmbelngeaaEach2
namespace Go.Proofs.Ytlfnadmbelngeaa
open Go.RowKit
set_option linter.unusedVariables false
set_option linter.unusedSimpArgs false

/-- What stands in the first cell of a block, whatever it is. -/
def keyAt (b : Nat) (w : World) : Value := (w.cell? ⟨b, 0, none⟩).getD undef
theorem keyAt_of {b : Nat} {w : World} {v : Value} (h : w.cell? ⟨b, 0, none⟩ = some v) : w.cell? ⟨b, 0, none⟩ = some (keyAt b w) := by unfold keyAt; rw [h]; rfl
theorem keyAt_eq {b : Nat} {w : World} {v : Value} (h : w.cell? ⟨b, 0, none⟩ = some v) : keyAt b w = v := by unfold keyAt; rw [h]; rfl
theorem own_some {w : World} {B : Nat} {e : TypeId} {v : Value} {n : Nat} {xs : List Value} (h : w.ownsRow B e 1 v n xs) (hn : 1 ≤ n) : ∃ g c, v = .slice (some ⟨g, 0, none⟩) n c ∧ n ≤ c ∧ c ≤ maxLen := by
  rcases h.2 with ⟨rfl, h0⟩ | ⟨g, cap, cur, rfl, h1, h2, h3, h4, _⟩
  · omega
  · exact ⟨_, _, rfl, h3, h4⟩

theorem fit_runE {m : Mk} {l : List Int} {k : Nat} {r : Int} (hr : (runAt l k : Int) = r) (h : m.e < r) : fitAt m l k = false := by
  unfold fitAt; rw [hr, decide_eq_false (by omega)]; rfl
theorem own_len {w : World} {B : Nat} {e : TypeId} {v : Value} {pre : List Int} {x : Int} {xs : List Value} (h : w.ownsRow B e 1 v (pre ++ [x]).length xs) : w.ownsRow B e 1 v (pre.length + 1) xs := by
  simpa using h
theorem runL_pair {σ α : Type} {f : σ → α → σ × Bool} {s0 : σ} {l : List α} {r : σ × Bool} {b : Bool} (h : runL f s0 l = r) (hb : r.2 = b) : runL f s0 l = (r.1, b) := by rw [h, ← hb]
theorem neqNil (w : World) : Sem.run Try.prog (binOp .neq 82 .nilFunc .nilFunc) w = .ok (.bool false) w := by kernel_rfl
theorem neqFunc (f : FuncId) (ac : Array Value) (w : World) : Sem.run Try.prog (binOp .neq 82 (.func (.func f) #[] ac) .nilFunc) w = .ok (.bool true) w := by kernel_rfl
theorem Chg.drewN' {F : Nat → Prop} {a w : World} (h : Chg F a w) (n : Nat) : Chg F a (w.drewN n) := ⟨h.os, h.tape, h.output, h.size, h.block⟩
theorem brF_bad {m : Mk} {A : Nat → Int → Bool} {fr : List Int} {t : Bool} {rem : Nat} {pre : List Int} {x : Int} (h : ¬ (A pre.length x = true ∧ (pre.length = 0 ∨ absI (x - geti pre (pre.length - 1)) ≤ m.s))) : brF m A fr t rem pre x = [] := by
  unfold brF
  rw [if_neg]
  intro hc
  rw [Bool.and_eq_true, fit_push, Bool.and_eq_true, Bool.or_eq_true, decide_eq_true_eq, decide_eq_true_eq, beq_iff_eq] at hc
  exact h ⟨hc.1, hc.2.2⟩
section
variable {σ : Type} {m : Mk} {w0 : World} {F0 : Nat → Prop} {f : FuncId} {caps : Array Value} {step : σ → List Int → σ × Bool} {s0 : σ} {L : List (List Int)} {Inv : σ → (Nat → Prop) → World → Prop} {o : EK} {fv av vv kv : Value} {A : Nat → Int → Bool} {fr : List Int} {F : Nat → Prop} {s : σ} {w w1 : World} {pre : List Int}

theorem ES.grown_ck (h : ES m w0 F0 Inv o fv av vv s F w pre kv) (hg : w.grownBy w1 kv.ownBlock) : w1.cell? ⟨o.k, 0, none⟩ = some kv ∧ w1.frozen? ⟨o.k, 0, none⟩ = false := by
  obtain ⟨T, hT⟩ := h.hk
  have := hg.block o.k (h.new _ (has_k o)).2.1 (fun e => (h.far _ e.symm).2 (has_k o))
  rw [hT] at this
  exact ⟨cell_of_block this 0, frozen_of_block this 0⟩

/-- The cuts to start from, where there are some. -/
def FrOk (m : Mk) (w0 : World) (F0 : Nat → Prop) (fv : Value) (fr : List Int) : Prop :=
  V1 (fun b => b < w0.heap.size ∧ ¬ F0 b) w0 fv fr ∧ (fr.length : Int) = m.c ∧ ∀ k, k < fr.length → 0 ≤ geti fr k ∧ geti fr k ≤ 7
theorem frOk_cell (h : FrOk m w0 F0 fv fr) (hc : Chg F0 w0 w) : V1 (fun _ => True) w fv fr := h.1.mono (fun _ _ _ => trivial) (hc.keep fun b hb => hb.2)

/-- The keys with the cuts lo .. x - 1 here. -/
def partF (m : Mk) (A : Nat → Int → Bool) (fr : List Int) (tight : Bool) (rem : Nat) (pre : List Int) (x : Nat) : List (List Int) := (depths (lowF fr tight pre.length) x).flatMap (brF m A fr tight rem pre)
theorem partF_lo {tight : Bool} {rem : Nat} {x : Nat} (h : x ≤ lowF fr tight pre.length) : partF m A fr tight rem pre x = [] := by unfold partF; rw [depths_nil h]; rfl
theorem partF_succ {tight : Bool} {rem : Nat} {x : Nat} (h : lowF fr tight pre.length ≤ x) : partF m A fr tight rem pre (x + 1) = partF m A fr tight rem pre x ++ brF m A fr tight rem pre x := by
  unfold partF; rw [depths_snoc h, List.flatMap_append]; simp
theorem partF_end {tight : Bool} {rem : Nat} : partF m A fr tight rem pre m.d.toNat = genF m A fr tight (rem + 1) pre := rfl
theorem partF_le {tight : Bool} {rem : Nat} {x y : Nat} (h : x ≤ y) : ∃ r, partF m A fr tight rem pre y = partF m A fr tight rem pre x ++ r := by
  induction y with
  | zero => exact ⟨[], by rw [show x = 0 from by omega]; simp⟩
  | succ y ih =>
    by_cases e : x = y + 1
    · exact ⟨[], by rw [e]; simp⟩
    · obtain ⟨r, hr⟩ := ih (by omega)
      by_cases hl : lowF fr tight pre.length ≤ y
      · exact ⟨r ++ brF m A fr tight rem pre y, by rw [partF_succ hl, hr, List.append_assoc]⟩
      · rw [partF_lo (by omega), partF_lo (by omega)]; exact ⟨[], rfl⟩

theorem range_push {x : Nat} (h : ∀ k, k < pre.length → 0 ≤ geti pre k ∧ geti pre k ≤ 7) (hx : x < 8) : ∀ k, k < (pre ++ [(x : Int)]).length → 0 ≤ geti (pre ++ [(x : Int)]) k ∧ geti (pre ++ [(x : Int)]) k ≤ 7 := by
  intro k hk
  by_cases hkl : k < pre.length
  · rw [geti_append hkl]; exact h k hkl
  · rw [show k = pre.length from by simp at hk; omega, geti_snoc]; omega
end
end Go.Proofs.Ytlfnadmbelngeaa
