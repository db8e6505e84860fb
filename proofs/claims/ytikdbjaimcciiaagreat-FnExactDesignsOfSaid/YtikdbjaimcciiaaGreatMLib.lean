/- Plain lemmas and predicates on worlds: how slices of integers, of slices and so on lie in memory. No conditions. -/
import Derived.WalkKit
import Derived.Handy
import Derived.Lib.Hide
import Derived.WalkSmall
import Derived.Deep.Draws
namespace Go.Proofs.YtikdbjaimcciiaaGreat
open Go.RowKit
set_option linter.unusedVariables false
set_option linter.unusedSimpArgs false

/-- Element k of a list of integers, spelled so that simp leaves it alone. -/
def geti (l : List Int) (k : Nat) : Int := l.getD k 0
def getl (l : List (List Int)) (k : Nat) : List Int := l.getD k []
def getll (l : List (List (List Int))) (k : Nat) : List (List Int) := l.getD k []

theorem geti_eq {l : List Int} {k : Nat} (h : k < l.length) : geti l k = l[k] := by simp [geti, h]
theorem getl_eq {l : List (List Int)} {k : Nat} (h : k < l.length) : getl l k = l[k] := by simp [getl, h]
theorem getll_eq {l : List (List (List Int))} {k : Nat} (h : k < l.length) : getll l k = l[k] := by simp [getll, h]
theorem geti_mem {l : List Int} {k : Nat} (h : k < l.length) : geti l k ∈ l := by rw [geti_eq h]; exact List.getElem_mem _
theorem getl_mem {l : List (List Int)} {k : Nat} (h : k < l.length) : getl l k ∈ l := by rw [getl_eq h]; exact List.getElem_mem _
theorem getll_mem {l : List (List (List Int))} {k : Nat} (h : k < l.length) : getll l k ∈ l := by rw [getll_eq h]; exact List.getElem_mem _
theorem take_geti {l : List Int} {k : Nat} (h : k < l.length) : l.take (k + 1) = l.take k ++ [geti l k] := by
  rw [List.take_succ_eq_append_getElem h, geti_eq h]
theorem take_getl {l : List (List Int)} {k : Nat} (h : k < l.length) : l.take (k + 1) = l.take k ++ [getl l k] := by
  rw [List.take_succ_eq_append_getElem h, getl_eq h]
theorem take_getll {l : List (List (List Int))} {k : Nat} (h : k < l.length) : l.take (k + 1) = l.take k ++ [getll l k] := by
  rw [List.take_succ_eq_append_getElem h, getll_eq h]
theorem geti_take {l : List Int} {k n : Nat} (h : k < n) : geti (l.take n) k = geti l k := by
  simp [geti, List.getElem?_take, h]
theorem getl_take {l : List (List Int)} {k n : Nat} (h : k < n) : getl (l.take n) k = getl l k := by
  simp [getl, List.getElem?_take, h]

/-- v is a slice whose elements (one cell each, in blocks of S) hold what R says of xs. -/
def Vs {α : Type} (g : List α → Nat → α) (R : Value → α → Prop) (S : Nat → Prop) (w : World) (v : Value) (xs : List α) : Prop :=
  ∃ a c, v = .slice a xs.length c ∧ xs.length ≤ c ∧ (c ≤ maxLen) ∧ ∀ k, k < xs.length → ∃ b off ev, a = some ⟨b, off, none⟩ ∧ S b ∧ w.cell? ⟨b, off + k, none⟩ = some ev ∧ R ev (g xs k)
def isI (v : Value) (n : Int) : Prop := v = .int .i64 n
def V1 (S : Nat → Prop) (w : World) (v : Value) (l : List Int) : Prop := Vs geti isI S w v l
def V2 (S : Nat → Prop) (w : World) (v : Value) (l : List (List Int)) : Prop := Vs getl (V1 S w) S w v l
def V3 (S : Nat → Prop) (w : World) (v : Value) (l : List (List (List Int))) : Prop := Vs getll (V2 S w) S w v l

/-- Blocks of S have not turned. -/
def Keep (S : Nat → Prop) (w w' : World) : Prop := ∀ b, S b → b < w.heap.size → w'.heap[b]? = w.heap[b]?

theorem lt_of_cell {w : World} {a : Addr} {v : Value} (h : w.cell? a = some v) : a.block < w.heap.size := by
  unfold World.cell? at h
  split at h
  · rename_i hh; exact (Array.getElem?_eq_some_iff.1 hh).1
  · cases h

theorem cell_keep {w w' : World} {b off : Nat} {v : Value} (h : w.cell? ⟨b, off, none⟩ = some v) (hk : w'.heap[b]? = w.heap[b]?) : w'.cell? ⟨b, off, none⟩ = some v := by
  rw [World.cell?_of_block (w := w) (a := ⟨b, off, none⟩) hk, h]

section
variable {α : Type} {g : List α → Nat → α} {R R' : Value → α → Prop} {S S' : Nat → Prop} {w w' : World} {v : Value} {xs : List α}

theorem Vs.mono (h : Vs g R S w v xs) (hS : ∀ b, S b → b < w.heap.size → S' b) (hk : Keep S w w') (hR : ∀ ev x, R ev x → R' ev x) : Vs g R' S' w' v xs := by
  obtain ⟨a, c, rfl, hl, hm, h⟩ := h
  refine ⟨a, c, rfl, hl, hm, fun k hlt => ?_⟩
  obtain ⟨b, off, ev, ha, hb, hc, hr⟩ := h k hlt
  exact ⟨b, off, ev, ha, hS b hb (lt_of_cell hc), cell_keep hc (hk b hb (lt_of_cell hc)), hR _ _ hr⟩
end

theorem V1.mono {S S' : Nat → Prop} {w w' : World} {v : Value} {l : List Int} (h : V1 S w v l) (hS : ∀ b, S b → b < w.heap.size → S' b) (hk : Keep S w w') : V1 S' w' v l :=
  Vs.mono h hS hk fun _ _ r => r
theorem V2.mono {S S' : Nat → Prop} {w w' : World} {v : Value} {l : List (List Int)} (h : V2 S w v l) (hS : ∀ b, S b → b < w.heap.size → S' b) (hk : Keep S w w') : V2 S' w' v l :=
  Vs.mono h hS hk fun _ _ r => r.mono hS hk
theorem V3.mono {S S' : Nat → Prop} {w w' : World} {v : Value} {l : List (List (List Int))} (h : V3 S w v l) (hS : ∀ b, S b → b < w.heap.size → S' b) (hk : Keep S w w') : V3 S' w' v l :=
  Vs.mono h hS hk fun _ _ r => r.mono hS hk

theorem Below.keep {S : Nat → Prop} {B : Nat} {w w' : World} (h : Below B w w') (hB : ∀ b, S b → b < w.heap.size → b < B) : Keep S w w' := fun b hb hlt => h.block b (hB b hb hlt)

theorem V1.below {S : Nat → Prop} {w w' : World} {v : Value} {l : List Int} (h : V1 S w v l) (hb : Below w.heap.size w w') : V1 S w' v l :=
  h.mono (fun _ h _ => h) (Below.keep hb fun _ _ h => h)
theorem V2.below {S : Nat → Prop} {w w' : World} {v : Value} {l : List (List Int)} (h : V2 S w v l) (hb : Below w.heap.size w w') : V2 S w' v l :=
  h.mono (fun _ h _ => h) (Below.keep hb fun _ _ h => h)
theorem V3.below {S : Nat → Prop} {w w' : World} {v : Value} {l : List (List (List Int))} (h : V3 S w v l) (hb : Below w.heap.size w w') : V3 S w' v l :=
  h.mono (fun _ h _ => h) (Below.keep hb fun _ _ h => h)

theorem quiet_at {P : Program} {f : FuncId} {args : Array Value} {w : World} {n x : Nat} {v : Value} (h : Calls P f args (w.drewN (n + x)) fun e w' => e = .returned v ∧ ∃ m, w' = (w.drewN (n + x)).drewN m) :
    Calls P f args (w.drewN (n + x)) fun e w'' => e = .returned v ∧ ∃ k, w'' = w.drewN (n + k) :=
  h.mono fun _ _ ⟨he, m, hm⟩ => ⟨he, x + m, by rw [hm, World.drewN_drewN, Nat.add_assoc]⟩
theorem quiet_at0 {P : Program} {f : FuncId} {args : Array Value} {w : World} {x : Nat} {v : Value} (h : Calls P f args (w.drewN x) fun e w' => e = .returned v ∧ ∃ m, w' = (w.drewN x).drewN m) :
    Calls P f args (w.drewN x) fun e w'' => e = .returned v ∧ ∃ k, w'' = w.drewN k :=
  h.mono fun _ _ ⟨he, m, hm⟩ => ⟨he, x + m, by rw [hm, World.drewN_drewN]⟩
theorem quiet_same {P : Program} {f : FuncId} {args : Array Value} {w : World} {n x : Nat} {v : Value} (h : Calls P f args (w.drewN (n + x)) fun e w' => e = .returned v ∧ w.drewN (n + x) = w') :
    Calls P f args (w.drewN (n + x)) fun e w'' => e = .returned v ∧ ∃ k, w'' = w.drewN (n + k) :=
  h.mono fun _ _ ⟨he, hm⟩ => ⟨he, x, hm.symm⟩
theorem quiet_same0 {P : Program} {f : FuncId} {args : Array Value} {w : World} {x : Nat} {v : Value} (h : Calls P f args (w.drewN x) fun e w' => e = .returned v ∧ w.drewN x = w') :
    Calls P f args (w.drewN x) fun e w'' => e = .returned v ∧ ∃ k, w'' = w.drewN k :=
  h.mono fun _ _ ⟨he, hm⟩ => ⟨he, x, hm.symm⟩
theorem all_step {α : Type} (p : α → Bool) {l : List α} {k : Nat} (h : k < l.length) : (l.drop k).all p = (p l[k] && (l.drop (k + 1)).all p) := by
  rw [List.drop_eq_getElem_cons h, List.all_cons]
theorem all_stepi (p : Int → Bool) {l : List Int} {k : Nat} (h : k < l.length) : (l.drop k).all p = (p (geti l k) && (l.drop (k + 1)).all p) := by
  rw [all_step p h, geti_eq h]
theorem all_stepl (p : List Int → Bool) {l : List (List Int)} {k : Nat} (h : k < l.length) : (l.drop k).all p = (p (getl l k) && (l.drop (k + 1)).all p) := by
  rw [all_step p h, getl_eq h]
theorem keep_drewN (S : Nat → Prop) (w : World) (n : Nat) : Keep S w (w.drewN n) := fun _ _ _ => rfl
theorem V1.drewN {S : Nat → Prop} {w : World} {v : Value} {l : List Int} {n : Nat} (h : V1 S w v l) : V1 S (w.drewN n) v l := h.mono (fun _ h _ => h) (keep_drewN _ _ _)
theorem V2.drewN {S : Nat → Prop} {w : World} {v : Value} {l : List (List Int)} {n : Nat} (h : V2 S w v l) : V2 S (w.drewN n) v l := h.mono (fun _ h _ => h) (keep_drewN _ _ _)
theorem V3.drewN {S : Nat → Prop} {w : World} {v : Value} {l : List (List (List Int))} {n : Nat} (h : V3 S w v l) : V3 S (w.drewN n) v l := h.mono (fun _ h _ => h) (keep_drewN _ _ _)

/-- A part of a slice from its beginning. -/
theorem V2.take {S : Nat → Prop} {w : World} {a : Option Addr} {c n : Nat} {l : List (List Int)} (h : V2 S w (.slice a l.length c) l) (hn : n ≤ l.length) : V2 S w (.slice a n c) (l.take n) := by
  obtain ⟨a', c', e, hl, hm, h⟩ := h
  simp only [Value.slice.injEq] at e
  obtain ⟨rfl, _, rfl⟩ := e
  have hlen : (l.take n).length = n := by simp; omega
  refine ⟨a, c, by rw [hlen], by omega, hm, fun k hk => ?_⟩
  obtain ⟨b, off, ev, ha, hb, hc, hr⟩ := h k (by omega)
  exact ⟨b, off, ev, ha, hb, hc, by rw [getl_take (by omega)]; exact hr⟩
theorem V1.take {S : Nat → Prop} {w : World} {a : Option Addr} {c n : Nat} {l : List Int} (h : V1 S w (.slice a l.length c) l) (hn : n ≤ l.length) : V1 S w (.slice a n c) (l.take n) := by
  obtain ⟨a', c', e, hl, hm, h⟩ := h
  simp only [Value.slice.injEq] at e
  obtain ⟨rfl, _, rfl⟩ := e
  have hlen : (l.take n).length = n := by simp; omega
  refine ⟨a, c, by rw [hlen], by omega, hm, fun k hk => ?_⟩
  obtain ⟨b, off, ev, ha, hb, hc, hr⟩ := h k (by omega)
  exact ⟨b, off, ev, ha, hb, hc, by rw [geti_take (by omega)]; exact hr⟩

/-- One cell of a slice of integers. -/
theorem V1.cell {S : Nat → Prop} {w : World} {a : Option Addr} {n c k : Nat} {l : List Int} (h : V1 S w (.slice a n c) l) (hk : k < l.length) : ∃ b off, a = some ⟨b, off, none⟩ ∧ S b ∧ w.cell? ⟨b, off + k, none⟩ = some (.int .i64 (geti l k)) := by
  obtain ⟨a', c', e, hl, hm, h⟩ := h
  simp only [Value.slice.injEq] at e
  obtain ⟨rfl, rfl, rfl⟩ := e
  obtain ⟨b, off, ev, ha, hb, hc, rfl⟩ := h k hk
  exact ⟨b, off, ha, hb, hc⟩
theorem V2.cell {S : Nat → Prop} {w : World} {a : Option Addr} {n c k : Nat} {l : List (List Int)} (h : V2 S w (.slice a n c) l) (hk : k < l.length) : ∃ b off a' c', a = some ⟨b, off, none⟩ ∧ S b ∧ w.cell? ⟨b, off + k, none⟩ = some (.slice a' (getl l k).length c') ∧ V1 S w (.slice a' (getl l k).length c') (getl l k) := by
  obtain ⟨a', c', e, hl, hm, h⟩ := h
  simp only [Value.slice.injEq] at e
  obtain ⟨rfl, rfl, rfl⟩ := e
  obtain ⟨b, off, ev, ha, hb, hc, hr⟩ := h k hk
  have hr' := hr
  obtain ⟨a2, c2, rfl, _⟩ := hr
  exact ⟨b, off, a2, c2, ha, hb, hc, hr'⟩
theorem V2.cap {S : Nat → Prop} {w : World} {a : Option Addr} {n c : Nat} {l : List (List Int)} (h : V2 S w (.slice a n c) l) : l.length ≤ c := by
  obtain ⟨a', c', e, hl, hm, h⟩ := h
  injection e with _ _ e3; omega
theorem V1.cap {S : Nat → Prop} {w : World} {a : Option Addr} {n c : Nat} {l : List Int} (h : V1 S w (.slice a n c) l) : l.length ≤ c := by
  obtain ⟨a', c', e, hl, hm, h⟩ := h
  injection e with _ _ e3; omega
theorem V1.len {S : Nat → Prop} {w : World} {v : Value} {l : List Int} (h : V1 S w v l) : l.length ≤ maxLen := by
  obtain ⟨a, c, rfl, h1, h2, _⟩ := h; omega
theorem V2.len {S : Nat → Prop} {w : World} {v : Value} {l : List (List Int)} (h : V2 S w v l) : l.length ≤ maxLen := by
  obtain ⟨a, c, rfl, h1, h2, _⟩ := h; omega
theorem V1.form {S : Nat → Prop} {w : World} {v : Value} {l : List Int} (h : V1 S w v l) : ∃ a c, v = .slice a l.length c ∧ l.length ≤ 9223372036854775807 := by
  have := h.len
  obtain ⟨a, c, rfl, _⟩ := h
  exact ⟨a, c, rfl, by unfold maxLen at this; omega⟩
theorem V2.form {S : Nat → Prop} {w : World} {v : Value} {l : List (List Int)} (h : V2 S w v l) : ∃ a c, v = .slice a l.length c ∧ l.length ≤ 9223372036854775807 := by
  have := h.len
  obtain ⟨a, c, rfl, _⟩ := h
  exact ⟨a, c, rfl, by unfold maxLen at this; omega⟩

theorem ret_int {k : IntKind} {a b : Int} (h : a = b) : Ending.returned (.int k a) = .returned (.int k b) := by rw [h]
theorem ret_bool {a b : Bool} (h : a = b) : Ending.returned (.bool a) = .returned (.bool b) := by rw [h]
/-- Steps: two cells each. -/
def gets (l : List (Int × Int)) (k : Nat) : Int × Int := l.getD k (0, 0)
theorem gets_eq {l : List (Int × Int)} {k : Nat} (h : k < l.length) : gets l k = l[k] := by simp [gets, h]
theorem gets_mem {l : List (Int × Int)} {k : Nat} (h : k < l.length) : gets l k ∈ l := by rw [gets_eq h]; exact List.getElem_mem _
theorem take_gets {l : List (Int × Int)} {k : Nat} (h : k < l.length) : l.take (k + 1) = l.take k ++ [gets l k] := by
  rw [List.take_succ_eq_append_getElem h, gets_eq h]
def VS (S : Nat → Prop) (w : World) (v : Value) (l : List (Int × Int)) : Prop :=
  ∃ a c, v = .slice a l.length c ∧ l.length ≤ c ∧ c ≤ maxLen ∧ ∀ k, k < l.length → ∃ b off, a = some ⟨b, off, none⟩ ∧ S b ∧ w.cell? ⟨b, off + k * 2, none⟩ = some (.int .i64 (gets l k).1) ∧ w.cell? ⟨b, off + k * 2 + 1, none⟩ = some (.int .i64 (gets l k).2)
theorem VS.mono {S S' : Nat → Prop} {w w' : World} {v : Value} {l : List (Int × Int)} (h : VS S w v l) (hS : ∀ b, S b → b < w.heap.size → S' b) (hk : Keep S w w') : VS S' w' v l := by
  obtain ⟨a, c, rfl, hl, hm, h⟩ := h
  refine ⟨a, c, rfl, hl, hm, fun k hlt => ?_⟩
  obtain ⟨b, off, ha, hb, hc, hd⟩ := h k hlt
  exact ⟨b, off, ha, hS b hb (lt_of_cell hc), cell_keep hc (hk b hb (lt_of_cell hc)), cell_keep hd (hk b hb (lt_of_cell hc))⟩
theorem VS.below {S : Nat → Prop} {w w' : World} {v : Value} {l : List (Int × Int)} (h : VS S w v l) (hb : Below w.heap.size w w') : VS S w' v l :=
  h.mono (fun _ h _ => h) (Below.keep hb fun _ _ h => h)
theorem VS.form {S : Nat → Prop} {w : World} {v : Value} {l : List (Int × Int)} (h : VS S w v l) : ∃ a c, v = .slice a l.length c ∧ l.length ≤ 9223372036854775807 := by
  obtain ⟨a, c, rfl, h1, h2, _⟩ := h
  exact ⟨a, c, rfl, by unfold maxLen at h2; omega⟩
theorem VS.cell {S : Nat → Prop} {w : World} {a : Option Addr} {n c k : Nat} {l : List (Int × Int)} (h : VS S w (.slice a n c) l) (hk : k < l.length) : ∃ b off, a = some ⟨b, off, none⟩ ∧ S b ∧
    w.cell? ⟨b, off + k * 2, none⟩ = some (.int .i64 (gets l k).1) ∧ w.cell? ⟨b, off + k * 2 + 1, none⟩ = some (.int .i64 (gets l k).2) := by
  obtain ⟨a', c', e, hl, hm, h⟩ := h
  simp only [Value.slice.injEq] at e
  obtain ⟨rfl, rfl, rfl⟩ := e
  exact h k hk

theorem bcell {W w1 : World} (hb : Below W.heap.size W w1) : (∀ b o, b < W.heap.size → w1.cell? ⟨b, o, none⟩ = W.cell? ⟨b, o, none⟩) ∧ (∀ b o, b < W.heap.size → w1.frozen? ⟨b, o, none⟩ = W.frozen? ⟨b, o, none⟩) :=
  ⟨fun b o h => hb.cell (p := ⟨b, o, none⟩) h, fun b o h => hb.frozen (p := ⟨b, o, none⟩) h⟩
theorem heap_alloc_self (w : World) (o : Obj) : (w.alloc o).heap[w.heap.size]? = some o := by
  show (w.heap.push o)[w.heap.size]? = _
  simp
/-- A cell of a block that is known whole. -/
theorem cell_of_block {w : World} {b : Nat} {cs : Array Value} {T : TypeId} {fz : Nat × Nat} (h : w.heap[b]? = some (.cells cs T fz)) (off : Nat) : w.cell? ⟨b, off, none⟩ = cs[off]? := by
  simp [World.cell?, h]
theorem heap_below {B b : Nat} {w w' : World} {o : Obj} (h : w.heap[b]? = some o) (hb : Below B w w') (hB : b < B) : w'.heap[b]? = some o := by
  rw [hb.block b hB, h]
end Go.Proofs.YtikdbjaimcciiaaGreat

namespace Go.Proofs.YtikdbjaimcciiaaGreat
open Go.RowKit
set_option linter.unusedVariables false
set_option linter.unusedSimpArgs false

theorem heap_setCell_self {w : World} {b off : Nat} {cs : Array Value} {T : TypeId} {fz : Nat × Nat} (h : w.heap[b]? = some (.cells cs T fz)) (u : Value) :
    (w.setCell ⟨b, off, none⟩ u).heap[b]? = some (.cells (cs.setIfInBounds off u) T fz) := by
  simp only [World.setCell, Array.getElem?_modify, if_true, h]
  rfl
theorem heap_setCell_other {w : World} {b off k : Nat} (u : Value) (h : k ≠ b) : (w.setCell ⟨b, off, none⟩ u).heap[k]? = w.heap[k]? := Below.heap_setCell _ _ _ _ h
theorem frozen_of_block {w : World} {b : Nat} {cs : Array Value} {T : TypeId} (h : w.heap[b]? = some (.cells cs T (0, 0))) (off : Nat) : w.frozen? ⟨b, off, none⟩ = false := by
  simp [World.frozen?, h]
theorem lt_of_heap {w : World} {b : Nat} {o : Obj} (h : w.heap[b]? = some o) : b < w.heap.size := (Array.getElem?_eq_some_iff.1 h).1

/-- v holds l, in block b alone, which may be written. -/
def X1 (w : World) (v : Value) (l : List Int) (b : Nat) : Prop :=
  ∃ a c, v = .slice a l.length c ∧ l.length ≤ c ∧ c ≤ maxLen ∧
    (l ≠ [] → ∃ off cs e, a = some ⟨b, off, none⟩ ∧ w.heap[b]? = some (.cells cs e (0, 0)) ∧ ∀ k, k < l.length → cs[off + k]? = some (.int .i64 (geti l k)))

theorem X1.keep {w w' : World} {v : Value} {l : List Int} {b : Nat} (h : X1 w v l b) (hk : l ≠ [] → w'.heap[b]? = w.heap[b]?) : X1 w' v l b := by
  obtain ⟨a, c, rfl, h1, h2, h⟩ := h
  refine ⟨a, c, rfl, h1, h2, fun hn => ?_⟩
  obtain ⟨off, cs, e, ha, hh, hc⟩ := h hn
  exact ⟨off, cs, e, ha, by rw [hk hn, hh], hc⟩
theorem X1.lt {w : World} {v : Value} {l : List Int} {b : Nat} (h : X1 w v l b) (hn : l ≠ []) : b < w.heap.size := by
  obtain ⟨a, c, rfl, h1, h2, h⟩ := h
  obtain ⟨off, cs, e, ha, hh, hc⟩ := h hn
  exact lt_of_heap hh
theorem X1.v1 {w : World} {v : Value} {l : List Int} {b : Nat} {S : Nat → Prop} (h : X1 w v l b) (hS : l ≠ [] → S b) : V1 S w v l := by
  obtain ⟨a, c, rfl, h1, h2, h⟩ := h
  refine ⟨a, c, rfl, h1, h2, fun k hk => ?_⟩
  have hn : l ≠ [] := by intro e; subst e; simp at hk
  obtain ⟨off, cs, e, ha, hh, hc⟩ := h hn
  exact ⟨b, off, _, ha, hS hn, by rw [cell_of_block hh]; exact hc k hk, rfl⟩

/-- v holds ls: the rows in blocks of their own (bk k), the slice of the rows in block ob. -/
def X2 (w : World) (v : Value) (ls : List (List Int)) (ob : Nat) (bk : Nat → Nat) : Prop :=
  ∃ a c, v = .slice a ls.length c ∧ ls.length ≤ c ∧ c ≤ maxLen ∧
    (ls ≠ [] → ∃ off cs e, a = some ⟨ob, off, none⟩ ∧ w.heap[ob]? = some (.cells cs e (0, 0)) ∧ ∀ k, k < ls.length → ∃ rv, cs[off + k]? = some rv ∧ X1 w rv (getl ls k) (bk k)) ∧
    (∀ k, k < ls.length → getl ls k ≠ [] → bk k ≠ ob ∧ ∀ j, j < ls.length → j ≠ k → getl ls j ≠ [] → bk j ≠ bk k)

theorem X2.keep {w w' : World} {v : Value} {ls : List (List Int)} {ob : Nat} {bk : Nat → Nat} (h : X2 w v ls ob bk) (ho : ls ≠ [] → w'.heap[ob]? = w.heap[ob]?) (hk : ∀ k, k < ls.length → getl ls k ≠ [] → w'.heap[bk k]? = w.heap[bk k]?) : X2 w' v ls ob bk := by
  obtain ⟨a, c, rfl, h1, h2, h, hd⟩ := h
  refine ⟨a, c, rfl, h1, h2, fun hn => ?_, hd⟩
  obtain ⟨off, cs, e, ha, hh, hc⟩ := h hn
  refine ⟨off, cs, e, ha, by rw [ho hn, hh], fun k hlt => ?_⟩
  obtain ⟨rv, h3, h4⟩ := hc k hlt
  exact ⟨rv, h3, h4.keep (hk k hlt)⟩
theorem X2.v2 {w : World} {v : Value} {ls : List (List Int)} {ob : Nat} {bk : Nat → Nat} {S : Nat → Prop} (h : X2 w v ls ob bk) (ho : ls ≠ [] → S ob) (hS : ∀ k, k < ls.length → getl ls k ≠ [] → S (bk k)) : V2 S w v ls := by
  obtain ⟨a, c, rfl, h1, h2, h, hd⟩ := h
  refine ⟨a, c, rfl, h1, h2, fun k hk => ?_⟩
  have hn : ls ≠ [] := by intro e; subst e; simp at hk
  obtain ⟨off, cs, e, ha, hh, hc⟩ := h hn
  obtain ⟨rv, h3, h4⟩ := hc k hk
  exact ⟨ob, off, rv, ha, ho hn, by rw [cell_of_block hh]; exact h3, h4.v1 (hS k hk)⟩
theorem X2.lt {w : World} {v : Value} {ls : List (List Int)} {ob : Nat} {bk : Nat → Nat} (h : X2 w v ls ob bk) (hn : ls ≠ []) : ob < w.heap.size ∧ ∀ k, k < ls.length → getl ls k ≠ [] → bk k < w.heap.size := by
  obtain ⟨a, c, rfl, h1, h2, h, hd⟩ := h
  obtain ⟨off, cs, e, ha, hh, hc⟩ := h hn
  refine ⟨lt_of_heap hh, fun k hk hne => ?_⟩
  obtain ⟨rv, h3, h4⟩ := hc k hk
  exact h4.lt hne

/-- Fresh from block B on. -/
def F1 (B : Nat) (w : World) (v : Value) (l : List Int) : Prop := ∃ b, X1 w v l b ∧ (l ≠ [] → B ≤ b)
def F2 (B : Nat) (w : World) (v : Value) (ls : List (List Int)) : Prop := ∃ ob bk, X2 w v ls ob bk ∧ (ls ≠ [] → B ≤ ob) ∧ ∀ k, k < ls.length → getl ls k ≠ [] → B ≤ bk k
theorem F1.v1 {B : Nat} {w : World} {v : Value} {l : List Int} (h : F1 B w v l) : V1 (fun b => B ≤ b) w v l := by
  obtain ⟨b, h1, h2⟩ := h
  exact h1.v1 h2
theorem F2.v2 {B : Nat} {w : World} {v : Value} {ls : List (List Int)} (h : F2 B w v ls) : V2 (fun b => B ≤ b) w v ls := by
  obtain ⟨ob, bk, h1, h2, h3⟩ := h
  exact h1.v2 h2 h3
theorem F1.set {B b off : Nat} {w : World} {v u : Value} {l : List Int} (h : F1 B w v l) (hb : b < B) : F1 B (w.setCell ⟨b, off, none⟩ u) v l := by
  obtain ⟨c, h1, h2⟩ := h
  exact ⟨c, h1.keep fun hn => heap_setCell_other _ (by have := h2 hn; omega), h2⟩
theorem F2.set {B b off : Nat} {w : World} {v u : Value} {ls : List (List Int)} (h : F2 B w v ls) (hb : b < B) : F2 B (w.setCell ⟨b, off, none⟩ u) v ls := by
  obtain ⟨ob, bk, h1, h2, h3⟩ := h
  exact ⟨ob, bk, h1.keep (fun hn => heap_setCell_other _ (by have := h2 hn; omega)) (fun k hk hne => heap_setCell_other _ (by have := h3 k hk hne; omega)), h2, h3⟩
theorem F1.mono {B B' : Nat} {w : World} {v : Value} {l : List Int} (h : F1 B w v l) (hb : B' ≤ B) : F1 B' w v l := by
  obtain ⟨c, h1, h2⟩ := h
  exact ⟨c, h1, fun hn => by have := h2 hn; omega⟩
theorem F2.mono {B B' : Nat} {w : World} {v : Value} {ls : List (List Int)} (h : F2 B w v ls) (hb : B' ≤ B) : F2 B' w v ls := by
  obtain ⟨ob, bk, h1, h2, h3⟩ := h
  exact ⟨ob, bk, h1, fun hn => by have := h2 hn; omega, fun k hk hne => by have := h3 k hk hne; omega⟩
theorem F1.below {B : Nat} {w w' : World} {v : Value} {l : List Int} (h : F1 B w v l) (hb : Below w.heap.size w w') : F1 B w' v l := by
  obtain ⟨b, h1, h2⟩ := h
  exact ⟨b, h1.keep fun hn => hb.block b (h1.lt hn), h2⟩
theorem F2.below {B : Nat} {w w' : World} {v : Value} {ls : List (List Int)} (h : F2 B w v ls) (hb : Below w.heap.size w w') : F2 B w' v ls := by
  obtain ⟨ob, bk, h1, h2, h3⟩ := h
  refine ⟨ob, bk, h1.keep (fun hn => hb.block ob (h1.lt hn).1) (fun k hk hne => hb.block _ ((h1.lt ?_).2 k hk hne)), h2, h3⟩
  intro e; subst e; simp at hk

/-- make([]T, n): a new block of n elements. -/
theorem wp_mk {P : Program} (w : World) {ops : Array Oper} {rest : List Oper} {o : Oper} {a : Act} {Q : Exit → Act → World → Prop}
    (hg : o.guard = none) (l c : Operand) (t : TypeId) (hop : o.op = Op.makeSlice t l c)
    (e : TypeId) (z : Value) (size bytes : Nat) (h1 : P.underlying t = some (.slice e)) (h2 : (P.info? e).map (fun i => (i.zero, i.size, i.bytes)) = some (some z, size, bytes))
    (n : Nat) (hl : a.eval l = .int .i64 (n : Int)) (hc : a.eval c = .int .i64 (n : Int)) (b2 : bytes * n ≤ 281474976710656) (b3 : n ≤ 9223372036854775807)
    (hK : ∀ w' cs, w'.heap[w.heap.size]? = some (.cells cs e (0, 0)) → cs.size = n * size → cs.toList = (madeCells z.cells (n * size)).toList → Below w.heap.size w w' → w.heap.size < w'.heap.size → wpList P ops Q rest (a.put o.dst (.slice (some ⟨w.heap.size, 0, none⟩) n n)) w') :
    wpList P ops Q (o :: rest) a w := by
  obtain ⟨i, hi, hz0, hz1, hz2⟩ := info_parts h2
  refine wpList_make_full w hg l c t hop w.heap.size e i z size h1 hi hz0 hz1 .i64 .i64 n n n hl hc rfl rfl (by rw [hz2]; exact b2) (by unfold maxLen; omega) (Nat.le_refl _) ?_
  intro w' hown hgrow
  obtain ⟨hlen, ⟨hv, _⟩ | ⟨g, cap, cur, hv, hg1, hh, _, _, hs, htake⟩⟩ := hown
  · cases hv
  · simp at hv
    obtain ⟨rfl, rfl⟩ := hv
    have ht : cur.toList = (madeCells z.cells (n * size)).toList := by
      rw [← htake, List.take_of_length_le]
      simp [hs]
    exact hK w' cur hh hs ht ((Below.refl _ _).grown hgrow (Nat.le_refl _) (fun k hk => by cases hk)) (lt_of_heap hh)

/-- An append onto a slice that the call owns, of m elements: where the result lies. -/
theorem run_append_blk {P : Program} (w : World) (base : Nat) (t ty e : TypeId) (z : Value) (size bytes : Nat) (ht : P.underlying t = some (.slice e)) (h2 : (P.info? e).map (fun i => (i.zero, i.size, i.bytes)) = some (some z, size, bytes))
    (hzs : z.cells.size = size) (hsz : 0 < size) (v : Value) (n : Nat) (xs : List Value) (hown : w.ownsRow base e size v n xs)
    (a : Addr) (m c : Nat) (news : List Value) (hl : news.length = m * size) (hnews : ∀ j u, news[j]? = some u → w.cell? (a.add j) = some u) (h1 : ∀ u ∈ news, u.oneCell' = true)
    (h63 : n + m ≤ maxLen) (hbytes : (n + m) * bytes ≤ 140737488355328) (hbase : base ≤ w.heap.size) :
    ∃ v' w', (Builtin.append_ #[t, t] ty #[v, .slice (some a) m c]).run P w = .ok v' w' ∧ w'.ownsRow base e size v' (n + m) (xs ++ news) ∧ w.grownBy w' v.ownBlock ∧ (v'.ownBlock = v.ownBlock ∨ v'.ownBlock = some w.heap.size) := by
  obtain ⟨i, hi, hz, hs, hb⟩ := info_parts h2
  obtain ⟨v', w', hr, ho, hg, hn⟩ := run_append_own (P := P) w base t ty e i z size bytes ht hi hz hs hb hzs hsz v n xs hown a m c news hl hnews h1 h63 hbytes hbase
  refine ⟨v', w', hr, ho, hg, ?_⟩
  have h63' : n + m ≤ 9223372036854775807 := by simp only [maxLen] at h63; omega
  subst hs
  subst hb
  rcases hown.2 with ⟨hv, hn0⟩ | ⟨g, cap, cur, hv, hbg, hgg, hnc, hcm, hcs, htake⟩
  · subst hv
    subst hn0
    by_cases hm : m = 0
    · rw [hn.2 ⟨rfl, hm⟩]; exact .inl rfl
    · have hr2 := run_append_nil (P := P) w t ty e i z ht hi hz a m c news hl hnews (by omega) (by omega) (by have hb := hbytes; simp only [Nat.zero_add] at hb; omega)
      rw [hr2] at hr
      injection hr with e1 e2
      rw [← e1]; exact .inr rfl
  · subst hv
    by_cases hroom : n + m ≤ cap
    · obtain ⟨w2, hr2, _, _⟩ := run_append_fits (P := P) w base t ty e i i.size ht hi rfl g n cap xs hown a m c news hl hnews h1 hroom
      rw [hr2] at hr
      injection hr with e1 e2
      rw [← e1]; exact .inl rfl
    · have holds : ∀ j u, xs[j]? = some u → w.cell? ((⟨g, 0, none⟩ : Addr).add j) = some u := hown.cells (g := g) rfl
      have hr2 := run_append_grow (P := P) w t ty e i z ht hi hz ⟨g, 0, none⟩ n cap xs hown.1 holds a m c news hl hnews (by omega) (by omega) (growslice_fits (by omega) hbytes)
      rw [hr2] at hr
      injection hr with e1 e2
      rw [← e1]; exact .inr rfl

theorem wp_app {P : Program} {w : World} {ops : Array Oper} {rest : List Oper} {o : Oper} {a : Act} {Q : Exit → Act → World → Prop} (hgd : o.guard = none) (s x : Operand) (t : TypeId)
    (ho : o.op = .call { callee := .builtin .append, args := #[s, x], argTypes := #[t, t] })
    (base : Nat) (e : TypeId) (z : Value) (size bytes : Nat) (ht : P.underlying t = some (.slice e)) (h2 : (P.info? e).map (fun i => (i.zero, i.size, i.bytes)) = some (some z, size, bytes)) (hzs : z.cells.size = size) (hsz : 0 < size)
    (v : Value) (n : Nat) (xs : List Value) (hs : a.eval s = v) (hown : w.ownsRow base e size v n xs)
    (ad : Addr) (m c : Nat) (news : List Value) (hx : a.eval x = .slice (some ad) m c) (hl : news.length = m * size) (hnews : ∀ j u, news[j]? = some u → w.cell? (ad.add j) = some u) (h1 : ∀ u ∈ news, u.oneCell' = true)
    (h63 : n + m ≤ maxLen) (hbytes : (n + m) * bytes ≤ 140737488355328) (hbase : base ≤ w.heap.size)
    (h : ∀ v' w', w'.ownsRow base e size v' (n + m) (xs ++ news) → w.grownBy w' v.ownBlock → (v'.ownBlock = v.ownBlock ∨ v'.ownBlock = some w.heap.size) → wpList P ops Q rest (a.put o.dst v') w') : wpList P ops Q (o :: rest) a w :=
  wpList_plain hgd fun _ hK => by
    obtain ⟨v', w', hr, h2', h3, h4⟩ := run_append_blk (P := P) w base t o.type e z size bytes ht h2 hzs hsz v n xs hown ad m c news hl hnews h1 h63 hbytes hbase
    unfold Oper.wp execOp
    simp only [ho, resolve, invoke, builtin, Sem.run_bind, Sem.run_pure, Result.andThen_ok, List.map_toArray, List.map_cons, List.map_nil, hs, hx, hr]
    exact hK _ _ (h v' w' h2' h3 h4)

/-- 'append(out, x)', x in one cell, just laid in a block of its own. -/
theorem wp_app1 {P : Program} (w0 : World) {ops : Array Oper} {rest : List Oper} {o : Oper} {a : Act} {Q : Exit → Act → World → Prop} (hgd : o.guard = none) (s x : Operand) (t : TypeId)
    (ho : o.op = .call { callee := .builtin .append, args := #[s, x], argTypes := #[t, t] })
    (base : Nat) (e : TypeId) (z : Value) (bytes : Nat) (ht : P.underlying t = some (.slice e)) (h2 : (P.info? e).map (fun i => (i.zero, i.size, i.bytes)) = some (some z, 1, bytes)) (hzs : z.cells.size = 1)
    (v : Value) (n : Nat) (xs : List Value) (hs : a.eval s = v) (hown : w0.ownsRow base e 1 v n xs) (nv : Value) (e2 : TypeId) (hx : a.eval x = .slice (some ⟨w0.heap.size, 0, none⟩) 1 1) (hone : nv.oneCell' = true)
    (hn : n + 1 ≤ 1000000000) (hby : bytes ≤ 1000) (hbase : base ≤ w0.heap.size)
    (h : ∀ v' w', w'.ownsRow base e 1 v' (n + 1) (xs ++ [nv]) → w0.grownBy w' v.ownBlock → (v'.ownBlock = v.ownBlock ∨ ∃ g, v'.ownBlock = some g ∧ w0.heap.size ≤ g) → Below base w0 w' → wpList P ops Q rest (a.put o.dst v') w') :
    wpList P ops Q (o :: rest) a (w0.alloc (.cells #[nv] e2)) := by
  have hown' := hown.alloc (.cells #[nv] e2)
  have hlt := hown.lt
  refine wp_app hgd s x t ho base e z 1 bytes ht h2 hzs (by omega) v n xs hs hown' ⟨w0.heap.size, 0, none⟩ 1 1 [nv] hx rfl ?_ (by simpa using hone) (by unfold maxLen; omega) ?_ (by simp; omega) ?_
  · intro j u hj
    cases j with
    | zero =>
      simp at hj
      subst hj
      rw [Addr.add_zero', cell_of_block (heap_alloc_self _ _)]; rfl
    | succ j => simp at hj
  · have : (n + 1) * bytes ≤ 1000000000 * 1000 := Nat.mul_le_mul hn hby
    omega
  · intro v' w' ho' hg hblk
    have hg0 : w0.grownBy w' v.ownBlock := ⟨hg.os, hg.tape, hg.output, by have := hg.size; simp at this; omega, fun k hk hne => by
      rw [hg.block k (by simp; omega) hne]; exact Below.heap_alloc _ _ _ hk⟩
    refine h v' w' ho' hg0 ?_ ((Below.refl _ _).grown hg0 hbase (fun k hk => (hlt k hk).1))
    rcases hblk with hb | hb
    · exact .inl hb
    · exact .inr ⟨_, hb, by simp⟩

theorem own_lit0 (w : World) (base : Nat) (e : TypeId) (size : Nat) (hb : base ≤ w.heap.size) : (w.alloc (.cells #[] e)).ownsRow base e size (.slice (some ⟨w.heap.size, 0, none⟩) 0 0) 0 [] :=
  World.ownsRow_lit w #[] 0 hb (Nat.zero_le _) (by simp)

/-- What the call owns and has finished. -/
theorem own_F1 {w : World} {B : Nat} {e : TypeId} {v : Value} {n : Nat} {l : List Int} (h : w.ownsRow B e 1 v n (l.map (Value.int .i64))) : F1 B w v l := by
  obtain ⟨hl, h⟩ := h
  have hn : n = l.length := by simpa using hl.symm
  subst hn
  rcases h with ⟨rfl, h0⟩ | ⟨g, cap, cur, rfl, hb, hh, hc, hm, hs, ht⟩
  · have : l = [] := List.eq_nil_of_length_eq_zero h0
    subst this
    exact ⟨0, ⟨none, 0, rfl, Nat.le_refl _, Nat.zero_le _, fun h => absurd rfl h⟩, fun h => absurd rfl h⟩
  · refine ⟨g, ⟨_, _, rfl, hc, hm, fun _ => ⟨0, cur, e, rfl, hh, fun k hk => ?_⟩⟩, fun _ => hb⟩
    have h1 : (cur.toList.take (l.length * 1))[k]? = (l.map (Value.int .i64))[k]? := by rw [ht]
    rw [List.getElem?_take, if_pos (by omega), List.getElem?_map] at h1
    rw [Nat.zero_add, ← Array.getElem?_toList, h1, List.getElem?_eq_getElem hk, geti_eq hk]; rfl

theorem box_facts (W : World) (cs : Array Value) (T : TypeId) : ∃ W1, W1 = W.alloc (.cells cs T) ∧ Below W.heap.size W W1 ∧ W.heap.size < W1.heap.size ∧ Hid (W1.heap.size = W.heap.size + 1) ∧ (∀ o, W1.cell? ⟨W.heap.size, o, none⟩ = cs[o]?) ∧ W1.heap[W.heap.size]? = some (.cells cs T (0, 0)) :=
  ⟨_, rfl, (Below.refl _ _).alloc (Nat.le_refl _) _, by simp, Lib.hid (by simp), fun o => cell_of_block (heap_alloc_self _ _) o, heap_alloc_self _ _⟩
/-- A slice that has an address, or nil. -/
def PV (v : Value) : Prop := v = .slice none 0 0 ∨ ∃ b off n c, v = .slice (some ⟨b, off, none⟩) n c
end Go.Proofs.YtikdbjaimcciiaaGreat
