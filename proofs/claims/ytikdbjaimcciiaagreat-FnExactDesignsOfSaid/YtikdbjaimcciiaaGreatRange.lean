/- Copies and results whose memory lies between two sizes of the heap, and the laws' marks on them. No conditions. -/
import Derived.Test.YtikdbjaimcciiaaGreatMark
import Derived.Test.YtikdbjaimcciiaaGreatFrame
import Derived.Test.YtikdbjaimcciiaaGreatCopy
import Derived.Test.YtikdbjaimcciiaaGreatRowv
namespace Go.Proofs.YtikdbjaimcciiaaGreat
open Go.RowKit
set_option linter.unusedVariables false
set_option linter.unusedSimpArgs false

def Rg (lo hi : Nat) : Nat → Prop := fun b => lo ≤ b ∧ b < hi
def XR1 (lo hi : Nat) (w : World) (v : Value) (l : List Int) : Prop := ∃ b, X1 w v l b ∧ (l ≠ [] → lo ≤ b ∧ b < hi)
def XR2 (lo hi : Nat) (w : World) (v : Value) (ls : List (List Int)) : Prop :=
  ∃ ob bk, X2 w v ls ob bk ∧ (ls ≠ [] → lo ≤ ob ∧ ob < hi) ∧ ∀ k, k < ls.length → getl ls k ≠ [] → lo ≤ bk k ∧ bk k < hi
section
variable {lo hi lo' hi' s B : Nat} {w w' : World} {v : Value} {l : List Int} {ls : List (List Int)}
theorem XR1.of_F1 (h : F1 B w v l) : XR1 B w.heap.size w v l := by
  obtain ⟨b, h1, h2⟩ := h
  exact ⟨b, h1, fun hn => ⟨h2 hn, h1.lt hn⟩⟩
theorem XR2.of_F2 (h : F2 B w v ls) : XR2 B w.heap.size w v ls := by
  obtain ⟨ob, bk, h1, h2, h3⟩ := h
  exact ⟨ob, bk, h1, fun hn => ⟨h2 hn, (h1.lt hn).1⟩, fun k hk hn => ⟨h3 k hk hn, (h1.lt (rows_ne hk)).2 k hk hn⟩⟩
theorem XR2.of_copy {bk : Nat → Nat} (h : X2 w v ls B bk) (h1 : ∀ k, k < ls.length → B < bk k) : XR2 B w.heap.size w v ls :=
  ⟨B, bk, h, fun hn => ⟨Nat.le_refl _, (h.lt hn).1⟩, fun k hk hn => ⟨by have := h1 k hk; omega, (h.lt (rows_ne hk)).2 k hk hn⟩⟩
theorem XR1.of_copy (h : X1 w v l B) : XR1 B w.heap.size w v l := ⟨B, h, fun hn => ⟨Nat.le_refl _, h.lt hn⟩⟩
theorem XR1.below (h : XR1 lo hi w v l) (hb : Below w.heap.size w w') : XR1 lo hi w' v l := by
  obtain ⟨b, h1, h2⟩ := h
  exact ⟨b, h1.keep (fun hn => hb.block _ (h1.lt hn)), h2⟩
theorem XR2.below (h : XR2 lo hi w v ls) (hb : Below w.heap.size w w') : XR2 lo hi w' v ls := by
  obtain ⟨ob, bk, h1, h2, h3⟩ := h
  exact ⟨ob, bk, h1.keep (fun hn => hb.block _ (h1.lt hn).1) (fun k hk hn => hb.block _ ((h1.lt (rows_ne hk)).2 k hk hn)), h2, h3⟩
theorem XR1.chg (h : XR1 lo hi w v l) (hc : Chg (Rg lo' hi') w w') (hd : hi ≤ lo' ∨ hi' ≤ lo) : XR1 lo hi w' v l := by
  obtain ⟨b, h1, h2⟩ := h
  exact ⟨b, h1.keep (fun hn => hc.block _ (h1.lt hn) (fun hf => by have := h2 hn; obtain ⟨g1, g2⟩ := hf; omega)), h2⟩
theorem XR2.chg (h : XR2 lo hi w v ls) (hc : Chg (Rg lo' hi') w w') (hd : hi ≤ lo' ∨ hi' ≤ lo) : XR2 lo hi w' v ls := by
  obtain ⟨ob, bk, h1, h2, h3⟩ := h
  exact ⟨ob, bk, h1.keep (fun hn => hc.block _ (h1.lt hn).1 (fun hf => by have := h2 hn; obtain ⟨g1, g2⟩ := hf; omega)) (fun k hk hn => hc.block _ ((h1.lt (rows_ne hk)).2 k hk hn) (fun hf => by have := h3 k hk hn; obtain ⟨g1, g2⟩ := hf; omega)), h2, h3⟩
theorem V1.chgR (h : V1 (fun b => b < s) w v l) (hc : Chg (Rg lo hi) w w') (hs : s ≤ lo) : V1 (fun b => b < s) w' v l :=
  h.mono (fun _ h _ => h) (hc.keep fun b hb hf => by have h1 : b < s := hb; obtain ⟨g1, g2⟩ := hf; omega)
theorem V2.chgR (h : V2 (fun b => b < s) w v ls) (hc : Chg (Rg lo hi) w w') (hs : s ≤ lo) : V2 (fun b => b < s) w' v ls :=
  h.mono (fun _ h _ => h) (hc.keep fun b hb hf => by have h1 : b < s := hb; obtain ⟨g1, g2⟩ := hf; omega)
theorem Chg.belowR (h : Chg (Rg lo hi) w w') {w0 : World} (hb : Below B w0 w) (hB : B ≤ lo) (hs : B ≤ w0.heap.size) : Below B w0 w' :=
  hb.trans (h.to_below (fun i hi => by obtain ⟨g1, g2⟩ := hi; omega) (by have := hb.size; omega))
theorem XR1.v1 (h : XR1 lo hi w v l) : V1 (fun _ => True) w v l := by
  obtain ⟨b, h1, _⟩ := h; exact h1.v1 (fun _ => trivial)
theorem XR2.v2 (h : XR2 lo hi w v ls) : V2 (fun _ => True) w v ls := by
  obtain ⟨ob, bk, h1, _⟩ := h; exact h1.v2 (fun _ => trivial) (fun _ _ _ => trivial)
theorem XR1.form (h : XR1 lo hi w v l) : ∃ a c, v = .slice a l.length c := by
  obtain ⟨b, ⟨a, c, rfl, _⟩, _⟩ := h; exact ⟨a, c, rfl⟩
theorem XR2.form (h : XR2 lo hi w v ls) : ∃ a c, v = .slice a ls.length c := by
  obtain ⟨ob, bk, ⟨a, c, rfl, _⟩, _⟩ := h; exact ⟨a, c, rfl⟩
theorem F1.any (h : F1 B w v l) : V1 (fun _ => True) w v l := h.v1.any
theorem F2.any (h : F2 B w v ls) : V2 (fun _ => True) w v ls := h.v2.any
end

theorem markInt64S_r (lo hi : Nat) (v : Value) (l : List Int) (k : Int) (W : World) (h : XR1 lo hi W v l) (hk : 0 ≤ k) (hk2 : k + l.length ≤ 1152921504606846976) :
    Calls Tryz.prog 113 #[v, .int .i64 k] W fun e' w' => e' = .returned (.int .i64 (k + l.length)) ∧ XR1 lo hi w' v (marks l.length k) ∧ Chg (Rg lo hi) W w' := by
  obtain ⟨b, h1, h2⟩ := h
  refine (markInt64S_any (Rg lo hi) v l b k W h1 h2 hk hk2).mono ?_
  rintro e' w' ⟨rfl, h3, h4⟩
  exact ⟨rfl, ⟨b, h3, fun hn => h2 (by intro e; subst e; exact hn rfl)⟩, h4⟩
theorem marks2_len (ls : List (List Int)) (k : Int) : (marks2 ls k).length = ls.length := rowsM_len _ _ _
theorem markInt64SS_r (lo hi : Nat) (v : Value) (ls : List (List Int)) (k : Int) (W : World) (h : XR2 lo hi W v ls) (hk : 0 ≤ k) (hk2 : ∀ j, j ≤ ls.length → k + totTo ls j ≤ 1152921504606846976) :
    Calls Tryz.prog 35 #[v, .int .i64 k] W fun e' w' => e' = .returned (.int .i64 (k + totTo ls ls.length)) ∧ XR2 lo hi w' v (marks2 ls k) ∧ Chg (Rg lo hi) W w' := by
  obtain ⟨ob, bk, h1, h2, h3⟩ := h
  refine (markInt64SS_any (Rg lo hi) v ls ob bk k W h1 h3 hk hk2).mono ?_
  rintro e' w' ⟨rfl, h4, h5⟩
  refine ⟨rfl, ⟨ob, bk, h4, fun hn => h2 (fun e => by subst e; exact hn rfl), fun j hj hn => ?_⟩, h5⟩
  rw [marks2_len] at hj
  exact h3 j hj ((rowsM_nil hj).1 hn)
theorem markSystem_r (lo hi : Nat) (m : Mk) (u : Value) (t : List (List Int)) (k : Int) (W : World) (h : XR2 lo hi W u t) (hk : 0 ≤ k) (hk2 : ∀ j, j ≤ t.length → k + totTo t j ≤ 1152921504606846976) (hw : hi ≤ W.heap.size) :
    Calls Tryz.prog 34 #[.agg #[.int .i64 m.c, .int .i64 m.d, .int .i64 m.s, .int .i64 m.e, .int .i64 m.l, u], .int .i64 k] W fun e' w' => e' = .returned (.int .i64 (k + totTo t t.length)) ∧ XR2 lo hi w' u (marks2 t k) ∧ Chg (Rg lo hi) W w' := by
  obtain ⟨ob, bk, h1, h2, h3⟩ := h
  refine (markSystem_any (Rg lo hi) m u t ob bk k W h1 h3 hk hk2).mono ?_
  rintro e' w' ⟨rfl, h4, h5⟩
  refine ⟨rfl, ⟨ob, bk, h4, fun hn => h2 (fun e => by subst e; exact hn rfl), fun j hj hn => ?_⟩, h5⟩
  rw [marks2_len] at hj
  exact h3 j hj ((rowsM_nil hj).1 hn)
theorem totSmall {ls : List (List Int)} (h1 : ls.length ≤ 1048576) (h : ∀ r ∈ ls, r.length ≤ 1048576) : ∀ j, j ≤ ls.length → totTo ls j ≤ 1099511627776 := fun j hj => by
  have := totTo_le (n := 1048576) (fun i hi => h _ (getl_mem hi)) j hj
  have : j * 1048576 ≤ 1048576 * 1048576 := Nat.mul_le_mul_right _ (by omega)
  omega
end Go.Proofs.YtikdbjaimcciiaaGreat
