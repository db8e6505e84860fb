/- Slices that a call has made itself and that share no memory: what they hold, and what a store into them does. No conditions. -/
import Derived.Test.YtflboojmlkemdaaLib
namespace Go.Proofs.Ytflboojmlkemdaa
open Go.RowKit
set_option linter.unusedVariables false

theorem heap_setCell_self {w : World} {b off : Nat} {cs : Array Value} {T : TypeId} {fz : Nat × Nat} (h : w.heap[b]? = some (.cells cs T fz)) (u : Value) :
    (w.setCell ⟨b, off, none⟩ u).heap[b]? = some (.cells (cs.setIfInBounds off u) T fz) := by
  simp only [World.setCell, Array.getElem?_modify, if_true, h]
  rfl
theorem heap_setCell_other {w : World} {b off k : Nat} (u : Value) (h : k ≠ b) : (w.setCell ⟨b, off, none⟩ u).heap[k]? = w.heap[k]? := Below.heap_setCell _ _ _ _ h
theorem frozen_of_block {w : World} {b : Nat} {cs : Array Value} {T : TypeId} (h : w.heap[b]? = some (.cells cs T (0, 0))) (off : Nat) : w.frozen? ⟨b, off, none⟩ = false := by
  simp [World.frozen?, h]
theorem lt_of_heap {w : World} {b : Nat} {o : Obj} (h : w.heap[b]? = some o) : b < w.heap.size := (Array.getElem?_eq_some_iff.1 h).1

/-- v holds l, in block b alone, which may be written. -/
def X1 (w : World) (v : Value) (l : List Int) (b : Nat) : Prop :=
  ∃ a c, v = .slice a l.length c ∧ l.length ≤ c ∧ c ≤ maxLen ∧
    (l ≠ [] → ∃ off cs e, a = some ⟨b, off, none⟩ ∧ w.heap[b]? = some (.cells cs e (0, 0)) ∧ ∀ k, k < l.length → cs[off + k]? = some (.int .i64 (geti l k)))

theorem X1.keep {w w' : World} {v : Value} {l : List Int} {b : Nat} (h : X1 w v l b) (hk : l ≠ [] → w'.heap[b]? = w.heap[b]?) : X1 w' v l b := by
  obtain ⟨a, c, rfl, h1, h2, h⟩ := h
  refine ⟨a, c, rfl, h1, h2, fun hn => ?_⟩
  obtain ⟨off, cs, e, ha, hh, hc⟩ := h hn
  exact ⟨off, cs, e, ha, by rw [hk hn, hh], hc⟩
theorem X1.lt {w : World} {v : Value} {l : List Int} {b : Nat} (h : X1 w v l b) (hn : l ≠ []) : b < w.heap.size := by
  obtain ⟨a, c, rfl, h1, h2, h⟩ := h
  obtain ⟨off, cs, e, ha, hh, hc⟩ := h hn
  exact lt_of_heap hh
theorem X1.v1 {w : World} {v : Value} {l : List Int} {b : Nat} {S : Nat → Prop} (h : X1 w v l b) (hS : l ≠ [] → S b) : V1 S w v l := by
  obtain ⟨a, c, rfl, h1, h2, h⟩ := h
  refine ⟨a, c, rfl, h1, h2, fun k hk => ?_⟩
  have hn : l ≠ [] := by intro e; subst e; simp at hk
  obtain ⟨off, cs, e, ha, hh, hc⟩ := h hn
  exact ⟨b, off, _, ha, hS hn, by rw [cell_of_block hh]; exact hc k hk, rfl⟩

/-- v holds ls: the rows in blocks of their own (bk k), the slice of the rows in block ob. -/
def X2 (w : World) (v : Value) (ls : List (List Int)) (ob : Nat) (bk : Nat → Nat) : Prop :=
  ∃ a c, v = .slice a ls.length c ∧ ls.length ≤ c ∧ c ≤ maxLen ∧
    (ls ≠ [] → ∃ off cs e, a = some ⟨ob, off, none⟩ ∧ w.heap[ob]? = some (.cells cs e (0, 0)) ∧ ∀ k, k < ls.length → ∃ rv, cs[off + k]? = some rv ∧ X1 w rv (getl ls k) (bk k)) ∧
    (∀ k, k < ls.length → getl ls k ≠ [] → bk k ≠ ob ∧ ∀ j, j < ls.length → j ≠ k → getl ls j ≠ [] → bk j ≠ bk k)

theorem X2.keep {w w' : World} {v : Value} {ls : List (List Int)} {ob : Nat} {bk : Nat → Nat} (h : X2 w v ls ob bk) (ho : ls ≠ [] → w'.heap[ob]? = w.heap[ob]?) (hk : ∀ k, k < ls.length → getl ls k ≠ [] → w'.heap[bk k]? = w.heap[bk k]?) : X2 w' v ls ob bk := by
  obtain ⟨a, c, rfl, h1, h2, h, hd⟩ := h
  refine ⟨a, c, rfl, h1, h2, fun hn => ?_, hd⟩
  obtain ⟨off, cs, e, ha, hh, hc⟩ := h hn
  refine ⟨off, cs, e, ha, by rw [ho hn, hh], fun k hlt => ?_⟩
  obtain ⟨rv, h3, h4⟩ := hc k hlt
  exact ⟨rv, h3, h4.keep (hk k hlt)⟩
theorem X2.v2 {w : World} {v : Value} {ls : List (List Int)} {ob : Nat} {bk : Nat → Nat} {S : Nat → Prop} (h : X2 w v ls ob bk) (ho : ls ≠ [] → S ob) (hS : ∀ k, k < ls.length → getl ls k ≠ [] → S (bk k)) : V2 S w v ls := by
  obtain ⟨a, c, rfl, h1, h2, h, hd⟩ := h
  refine ⟨a, c, rfl, h1, h2, fun k hk => ?_⟩
  have hn : ls ≠ [] := by intro e; subst e; simp at hk
  obtain ⟨off, cs, e, ha, hh, hc⟩ := h hn
  obtain ⟨rv, h3, h4⟩ := hc k hk
  exact ⟨ob, off, rv, ha, ho hn, by rw [cell_of_block hh]; exact h3, h4.v1 (hS k hk)⟩
theorem X2.lt {w : World} {v : Value} {ls : List (List Int)} {ob : Nat} {bk : Nat → Nat} (h : X2 w v ls ob bk) (hn : ls ≠ []) : ob < w.heap.size ∧ ∀ k, k < ls.length → getl ls k ≠ [] → bk k < w.heap.size := by
  obtain ⟨a, c, rfl, h1, h2, h, hd⟩ := h
  obtain ⟨off, cs, e, ha, hh, hc⟩ := h hn
  refine ⟨lt_of_heap hh, fun k hk hne => ?_⟩
  obtain ⟨rv, h3, h4⟩ := hc k hk
  exact h4.lt hne

/-- Fresh from block B on. -/
def F1 (B : Nat) (w : World) (v : Value) (l : List Int) : Prop := ∃ b, X1 w v l b ∧ (l ≠ [] → B ≤ b)
def F2 (B : Nat) (w : World) (v : Value) (ls : List (List Int)) : Prop := ∃ ob bk, X2 w v ls ob bk ∧ (ls ≠ [] → B ≤ ob) ∧ ∀ k, k < ls.length → getl ls k ≠ [] → B ≤ bk k
theorem F1.v1 {B : Nat} {w : World} {v : Value} {l : List Int} (h : F1 B w v l) : V1 (fun b => B ≤ b) w v l := by
  obtain ⟨b, h1, h2⟩ := h
  exact h1.v1 h2
theorem F2.v2 {B : Nat} {w : World} {v : Value} {ls : List (List Int)} (h : F2 B w v ls) : V2 (fun b => B ≤ b) w v ls := by
  obtain ⟨ob, bk, h1, h2, h3⟩ := h
  exact h1.v2 h2 h3
theorem F1.below {B : Nat} {w w' : World} {v : Value} {l : List Int} (h : F1 B w v l) (hb : Below w.heap.size w w') : F1 B w' v l := by
  obtain ⟨b, h1, h2⟩ := h
  exact ⟨b, h1.keep fun hn => hb.block b (h1.lt hn), h2⟩
theorem F2.below {B : Nat} {w w' : World} {v : Value} {ls : List (List Int)} (h : F2 B w v ls) (hb : Below w.heap.size w w') : F2 B w' v ls := by
  obtain ⟨ob, bk, h1, h2, h3⟩ := h
  refine ⟨ob, bk, h1.keep (fun hn => hb.block ob (h1.lt hn).1) (fun k hk hne => hb.block _ ((h1.lt ?_).2 k hk hne)), h2, h3⟩
  intro e; subst e; simp at hk

/-- make([]T, n): a new block of n elements. -/
theorem wp_mk {P : Program} (w : World) {ops : Array Oper} {rest : List Oper} {o : Oper} {a : Act} {Q : Exit → Act → World → Prop}
    (hg : o.guard = none) (l c : Operand) (t : TypeId) (hop : o.op = Op.makeSlice t l c)
    (e : TypeId) (z : Value) (size bytes : Nat) (h1 : P.underlying t = some (.slice e)) (h2 : (P.info? e).map (fun i => (i.zero, i.size, i.bytes)) = some (some z, size, bytes))
    (n : Nat) (hl : a.eval l = .int .i64 (n : Int)) (hc : a.eval c = .int .i64 (n : Int)) (b2 : bytes * n ≤ 281474976710656) (b3 : n ≤ 9223372036854775807)
    (hK : ∀ w' cs, w'.heap[w.heap.size]? = some (.cells cs e (0, 0)) → cs.size = n * size → cs.toList = (madeCells z.cells (n * size)).toList → Below w.heap.size w w' → w.heap.size < w'.heap.size → wpList P ops Q rest (a.put o.dst (.slice (some ⟨w.heap.size, 0, none⟩) n n)) w') :
    wpList P ops Q (o :: rest) a w := by
  obtain ⟨i, hi, hz0, hz1, hz2⟩ := info_parts h2
  refine wpList_make_full w hg l c t hop w.heap.size e i z size h1 hi hz0 hz1 .i64 .i64 n n n hl hc rfl rfl (by rw [hz2]; exact b2) (by unfold maxLen; omega) (Nat.le_refl _) ?_
  intro w' hown hgrow
  obtain ⟨hlen, ⟨hv, _⟩ | ⟨g, cap, cur, hv, hg1, hh, _, _, hs, htake⟩⟩ := hown
  · cases hv
  · simp at hv
    obtain ⟨rfl, rfl⟩ := hv
    have ht : cur.toList = (madeCells z.cells (n * size)).toList := by
      rw [← htake, List.take_of_length_le]
      simp [hs]
    exact hK w' cur hh hs ht ((Below.refl _ _).grown hgrow (Nat.le_refl _) (fun k hk => by cases hk)) (lt_of_heap hh)
end Go.Proofs.Ytflboojmlkemdaa
