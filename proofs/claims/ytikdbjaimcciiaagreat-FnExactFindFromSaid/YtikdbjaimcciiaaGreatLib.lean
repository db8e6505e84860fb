/- Plain lemmas and predicates on worlds: how slices of integers, of slices and so on lie in memory. No conditions. -/
import Derived.WalkKit
import Derived.Handy
import Derived.Lib.Hide
import Derived.WalkSmall
import Derived.Deep.Draws
namespace Go.Proofs.YtikdbjaimcciiaaGreat
open Go.RowKit
set_option linter.unusedVariables false
set_option linter.unusedSimpArgs false

/-- Element k of a list of integers, spelled so that simp leaves it alone. -/
def geti (l : List Int) (k : Nat) : Int := l.getD k 0
def getl (l : List (List Int)) (k : Nat) : List Int := l.getD k []
def getll (l : List (List (List Int))) (k : Nat) : List (List Int) := l.getD k []

theorem geti_eq {l : List Int} {k : Nat} (h : k < l.length) : geti l k = l[k] := by simp [geti, h]
theorem getl_eq {l : List (List Int)} {k : Nat} (h : k < l.length) : getl l k = l[k] := by simp [getl, h]
theorem getll_eq {l : List (List (List Int))} {k : Nat} (h : k < l.length) : getll l k = l[k] := by simp [getll, h]
theorem geti_mem {l : List Int} {k : Nat} (h : k < l.length) : geti l k ∈ l := by rw [geti_eq h]; exact List.getElem_mem _
theorem getl_mem {l : List (List Int)} {k : Nat} (h : k < l.length) : getl l k ∈ l := by rw [getl_eq h]; exact List.getElem_mem _
theorem getll_mem {l : List (List (List Int))} {k : Nat} (h : k < l.length) : getll l k ∈ l := by rw [getll_eq h]; exact List.getElem_mem _
theorem take_geti {l : List Int} {k : Nat} (h : k < l.length) : l.take (k + 1) = l.take k ++ [geti l k] := by
  rw [List.take_succ_eq_append_getElem h, geti_eq h]
theorem take_getl {l : List (List Int)} {k : Nat} (h : k < l.length) : l.take (k + 1) = l.take k ++ [getl l k] := by
  rw [List.take_succ_eq_append_getElem h, getl_eq h]
theorem take_getll {l : List (List (List Int))} {k : Nat} (h : k < l.length) : l.take (k + 1) = l.take k ++ [getll l k] := by
  rw [List.take_succ_eq_append_getElem h, getll_eq h]
theorem geti_take {l : List Int} {k n : Nat} (h : k < n) : geti (l.take n) k = geti l k := by
  simp [geti, List.getElem?_take, h]
theorem getl_take {l : List (List Int)} {k n : Nat} (h : k < n) : getl (l.take n) k = getl l k := by
  simp [getl, List.getElem?_take, h]

/-- v is a slice whose elements (one cell each, in blocks of S) hold what R says of xs. -/
def Vs {α : Type} (g : List α → Nat → α) (R : Value → α → Prop) (S : Nat → Prop) (w : World) (v : Value) (xs : List α) : Prop :=
  ∃ a c, v = .slice a xs.length c ∧ xs.length ≤ c ∧ (c ≤ maxLen) ∧ ∀ k, k < xs.length → ∃ b off ev, a = some ⟨b, off, none⟩ ∧ S b ∧ w.cell? ⟨b, off + k, none⟩ = some ev ∧ R ev (g xs k)
def isI (v : Value) (n : Int) : Prop := v = .int .i64 n
def V1 (S : Nat → Prop) (w : World) (v : Value) (l : List Int) : Prop := Vs geti isI S w v l
def V2 (S : Nat → Prop) (w : World) (v : Value) (l : List (List Int)) : Prop := Vs getl (V1 S w) S w v l
def V3 (S : Nat → Prop) (w : World) (v : Value) (l : List (List (List Int))) : Prop := Vs getll (V2 S w) S w v l

/-- Blocks of S have not turned. -/
def Keep (S : Nat → Prop) (w w' : World) : Prop := ∀ b, S b → b < w.heap.size → w'.heap[b]? = w.heap[b]?

theorem lt_of_cell {w : World} {a : Addr} {v : Value} (h : w.cell? a = some v) : a.block < w.heap.size := by
  unfold World.cell? at h
  split at h
  · rename_i hh; exact (Array.getElem?_eq_some_iff.1 hh).1
  · cases h

theorem cell_keep {w w' : World} {b off : Nat} {v : Value} (h : w.cell? ⟨b, off, none⟩ = some v) (hk : w'.heap[b]? = w.heap[b]?) : w'.cell? ⟨b, off, none⟩ = some v := by
  rw [World.cell?_of_block (w := w) (a := ⟨b, off, none⟩) hk, h]

section
variable {α : Type} {g : List α → Nat → α} {R R' : Value → α → Prop} {S S' : Nat → Prop} {w w' : World} {v : Value} {xs : List α}

theorem Vs.mono (h : Vs g R S w v xs) (hS : ∀ b, S b → b < w.heap.size → S' b) (hk : Keep S w w') (hR : ∀ ev x, R ev x → R' ev x) : Vs g R' S' w' v xs := by
  obtain ⟨a, c, rfl, hl, hm, h⟩ := h
  refine ⟨a, c, rfl, hl, hm, fun k hlt => ?_⟩
  obtain ⟨b, off, ev, ha, hb, hc, hr⟩ := h k hlt
  exact ⟨b, off, ev, ha, hS b hb (lt_of_cell hc), cell_keep hc (hk b hb (lt_of_cell hc)), hR _ _ hr⟩
end

theorem V1.mono {S S' : Nat → Prop} {w w' : World} {v : Value} {l : List Int} (h : V1 S w v l) (hS : ∀ b, S b → b < w.heap.size → S' b) (hk : Keep S w w') : V1 S' w' v l :=
  Vs.mono h hS hk fun _ _ r => r
theorem V2.mono {S S' : Nat → Prop} {w w' : World} {v : Value} {l : List (List Int)} (h : V2 S w v l) (hS : ∀ b, S b → b < w.heap.size → S' b) (hk : Keep S w w') : V2 S' w' v l :=
  Vs.mono h hS hk fun _ _ r => r.mono hS hk
theorem V3.mono {S S' : Nat → Prop} {w w' : World} {v : Value} {l : List (List (List Int))} (h : V3 S w v l) (hS : ∀ b, S b → b < w.heap.size → S' b) (hk : Keep S w w') : V3 S' w' v l :=
  Vs.mono h hS hk fun _ _ r => r.mono hS hk

theorem Below.keep {S : Nat → Prop} {B : Nat} {w w' : World} (h : Below B w w') (hB : ∀ b, S b → b < w.heap.size → b < B) : Keep S w w' := fun b hb hlt => h.block b (hB b hb hlt)

theorem V1.below {S : Nat → Prop} {w w' : World} {v : Value} {l : List Int} (h : V1 S w v l) (hb : Below w.heap.size w w') : V1 S w' v l :=
  h.mono (fun _ h _ => h) (Below.keep hb fun _ _ h => h)
theorem V2.below {S : Nat → Prop} {w w' : World} {v : Value} {l : List (List Int)} (h : V2 S w v l) (hb : Below w.heap.size w w') : V2 S w' v l :=
  h.mono (fun _ h _ => h) (Below.keep hb fun _ _ h => h)
theorem V3.below {S : Nat → Prop} {w w' : World} {v : Value} {l : List (List (List Int))} (h : V3 S w v l) (hb : Below w.heap.size w w') : V3 S w' v l :=
  h.mono (fun _ h _ => h) (Below.keep hb fun _ _ h => h)

theorem quiet_at {P : Program} {f : FuncId} {args : Array Value} {w : World} {n x : Nat} {v : Value} (h : Calls P f args (w.drewN (n + x)) fun e w' => e = .returned v ∧ ∃ m, w' = (w.drewN (n + x)).drewN m) :
    Calls P f args (w.drewN (n + x)) fun e w'' => e = .returned v ∧ ∃ k, w'' = w.drewN (n + k) :=
  h.mono fun _ _ ⟨he, m, hm⟩ => ⟨he, x + m, by rw [hm, World.drewN_drewN, Nat.add_assoc]⟩
theorem quiet_at0 {P : Program} {f : FuncId} {args : Array Value} {w : World} {x : Nat} {v : Value} (h : Calls P f args (w.drewN x) fun e w' => e = .returned v ∧ ∃ m, w' = (w.drewN x).drewN m) :
    Calls P f args (w.drewN x) fun e w'' => e = .returned v ∧ ∃ k, w'' = w.drewN k :=
  h.mono fun _ _ ⟨he, m, hm⟩ => ⟨he, x + m, by rw [hm, World.drewN_drewN]⟩
theorem quiet_same {P : Program} {f : FuncId} {args : Array Value} {w : World} {n x : Nat} {v : Value} (h : Calls P f args (w.drewN (n + x)) fun e w' => e = .returned v ∧ w.drewN (n + x) = w') :
    Calls P f args (w.drewN (n + x)) fun e w'' => e = .returned v ∧ ∃ k, w'' = w.drewN (n + k) :=
  h.mono fun _ _ ⟨he, hm⟩ => ⟨he, x, hm.symm⟩
theorem quiet_same0 {P : Program} {f : FuncId} {args : Array Value} {w : World} {x : Nat} {v : Value} (h : Calls P f args (w.drewN x) fun e w' => e = .returned v ∧ w.drewN x = w') :
    Calls P f args (w.drewN x) fun e w'' => e = .returned v ∧ ∃ k, w'' = w.drewN k :=
  h.mono fun _ _ ⟨he, hm⟩ => ⟨he, x, hm.symm⟩
theorem all_step {α : Type} (p : α → Bool) {l : List α} {k : Nat} (h : k < l.length) : (l.drop k).all p = (p l[k] && (l.drop (k + 1)).all p) := by
  rw [List.drop_eq_getElem_cons h, List.all_cons]
theorem all_stepi (p : Int → Bool) {l : List Int} {k : Nat} (h : k < l.length) : (l.drop k).all p = (p (geti l k) && (l.drop (k + 1)).all p) := by
  rw [all_step p h, geti_eq h]
theorem all_stepl (p : List Int → Bool) {l : List (List Int)} {k : Nat} (h : k < l.length) : (l.drop k).all p = (p (getl l k) && (l.drop (k + 1)).all p) := by
  rw [all_step p h, getl_eq h]
theorem keep_drewN (S : Nat → Prop) (w : World) (n : Nat) : Keep S w (w.drewN n) := fun _ _ _ => rfl
theorem V1.drewN {S : Nat → Prop} {w : World} {v : Value} {l : List Int} {n : Nat} (h : V1 S w v l) : V1 S (w.drewN n) v l := h.mono (fun _ h _ => h) (keep_drewN _ _ _)
theorem V2.drewN {S : Nat → Prop} {w : World} {v : Value} {l : List (List Int)} {n : Nat} (h : V2 S w v l) : V2 S (w.drewN n) v l := h.mono (fun _ h _ => h) (keep_drewN _ _ _)
theorem V3.drewN {S : Nat → Prop} {w : World} {v : Value} {l : List (List (List Int))} {n : Nat} (h : V3 S w v l) : V3 S (w.drewN n) v l := h.mono (fun _ h _ => h) (keep_drewN _ _ _)

/-- A part of a slice from its beginning. -/
theorem V2.take {S : Nat → Prop} {w : World} {a : Option Addr} {c n : Nat} {l : List (List Int)} (h : V2 S w (.slice a l.length c) l) (hn : n ≤ l.length) : V2 S w (.slice a n c) (l.take n) := by
  obtain ⟨a', c', e, hl, hm, h⟩ := h
  simp only [Value.slice.injEq] at e
  obtain ⟨rfl, _, rfl⟩ := e
  have hlen : (l.take n).length = n := by simp; omega
  refine ⟨a, c, by rw [hlen], by omega, hm, fun k hk => ?_⟩
  obtain ⟨b, off, ev, ha, hb, hc, hr⟩ := h k (by omega)
  exact ⟨b, off, ev, ha, hb, hc, by rw [getl_take (by omega)]; exact hr⟩
theorem V1.take {S : Nat → Prop} {w : World} {a : Option Addr} {c n : Nat} {l : List Int} (h : V1 S w (.slice a l.length c) l) (hn : n ≤ l.length) : V1 S w (.slice a n c) (l.take n) := by
  obtain ⟨a', c', e, hl, hm, h⟩ := h
  simp only [Value.slice.injEq] at e
  obtain ⟨rfl, _, rfl⟩ := e
  have hlen : (l.take n).length = n := by simp; omega
  refine ⟨a, c, by rw [hlen], by omega, hm, fun k hk => ?_⟩
  obtain ⟨b, off, ev, ha, hb, hc, hr⟩ := h k (by omega)
  exact ⟨b, off, ev, ha, hb, hc, by rw [geti_take (by omega)]; exact hr⟩

/-- One cell of a slice of integers. -/
theorem V1.cell {S : Nat → Prop} {w : World} {a : Option Addr} {n c k : Nat} {l : List Int} (h : V1 S w (.slice a n c) l) (hk : k < l.length) : ∃ b off, a = some ⟨b, off, none⟩ ∧ S b ∧ w.cell? ⟨b, off + k, none⟩ = some (.int .i64 (geti l k)) := by
  obtain ⟨a', c', e, hl, hm, h⟩ := h
  simp only [Value.slice.injEq] at e
  obtain ⟨rfl, rfl, rfl⟩ := e
  obtain ⟨b, off, ev, ha, hb, hc, rfl⟩ := h k hk
  exact ⟨b, off, ha, hb, hc⟩
theorem V2.cell {S : Nat → Prop} {w : World} {a : Option Addr} {n c k : Nat} {l : List (List Int)} (h : V2 S w (.slice a n c) l) (hk : k < l.length) : ∃ b off a' c', a = some ⟨b, off, none⟩ ∧ S b ∧ w.cell? ⟨b, off + k, none⟩ = some (.slice a' (getl l k).length c') ∧ V1 S w (.slice a' (getl l k).length c') (getl l k) := by
  obtain ⟨a', c', e, hl, hm, h⟩ := h
  simp only [Value.slice.injEq] at e
  obtain ⟨rfl, rfl, rfl⟩ := e
  obtain ⟨b, off, ev, ha, hb, hc, hr⟩ := h k hk
  have hr' := hr
  obtain ⟨a2, c2, rfl, _⟩ := hr
  exact ⟨b, off, a2, c2, ha, hb, hc, hr'⟩
theorem V2.cap {S : Nat → Prop} {w : World} {a : Option Addr} {n c : Nat} {l : List (List Int)} (h : V2 S w (.slice a n c) l) : l.length ≤ c := by
  obtain ⟨a', c', e, hl, hm, h⟩ := h
  injection e with _ _ e3; omega
theorem V1.cap {S : Nat → Prop} {w : World} {a : Option Addr} {n c : Nat} {l : List Int} (h : V1 S w (.slice a n c) l) : l.length ≤ c := by
  obtain ⟨a', c', e, hl, hm, h⟩ := h
  injection e with _ _ e3; omega
theorem V1.len {S : Nat → Prop} {w : World} {v : Value} {l : List Int} (h : V1 S w v l) : l.length ≤ maxLen := by
  obtain ⟨a, c, rfl, h1, h2, _⟩ := h; omega
theorem V2.len {S : Nat → Prop} {w : World} {v : Value} {l : List (List Int)} (h : V2 S w v l) : l.length ≤ maxLen := by
  obtain ⟨a, c, rfl, h1, h2, _⟩ := h; omega
theorem V1.form {S : Nat → Prop} {w : World} {v : Value} {l : List Int} (h : V1 S w v l) : ∃ a c, v = .slice a l.length c ∧ l.length ≤ 9223372036854775807 := by
  have := h.len
  obtain ⟨a, c, rfl, _⟩ := h
  exact ⟨a, c, rfl, by unfold maxLen at this; omega⟩
theorem V2.form {S : Nat → Prop} {w : World} {v : Value} {l : List (List Int)} (h : V2 S w v l) : ∃ a c, v = .slice a l.length c ∧ l.length ≤ 9223372036854775807 := by
  have := h.len
  obtain ⟨a, c, rfl, _⟩ := h
  exact ⟨a, c, rfl, by unfold maxLen at this; omega⟩

theorem ret_int {k : IntKind} {a b : Int} (h : a = b) : Ending.returned (.int k a) = .returned (.int k b) := by rw [h]
theorem ret_bool {a b : Bool} (h : a = b) : Ending.returned (.bool a) = .returned (.bool b) := by rw [h]
/-- Steps: two cells each. -/
def gets (l : List (Int × Int)) (k : Nat) : Int × Int := l.getD k (0, 0)
theorem gets_eq {l : List (Int × Int)} {k : Nat} (h : k < l.length) : gets l k = l[k] := by simp [gets, h]
theorem gets_mem {l : List (Int × Int)} {k : Nat} (h : k < l.length) : gets l k ∈ l := by rw [gets_eq h]; exact List.getElem_mem _
theorem take_gets {l : List (Int × Int)} {k : Nat} (h : k < l.length) : l.take (k + 1) = l.take k ++ [gets l k] := by
  rw [List.take_succ_eq_append_getElem h, gets_eq h]
def VS (S : Nat → Prop) (w : World) (v : Value) (l : List (Int × Int)) : Prop :=
  ∃ a c, v = .slice a l.length c ∧ l.length ≤ c ∧ c ≤ maxLen ∧ ∀ k, k < l.length → ∃ b off, a = some ⟨b, off, none⟩ ∧ S b ∧ w.cell? ⟨b, off + k * 2, none⟩ = some (.int .i64 (gets l k).1) ∧ w.cell? ⟨b, off + k * 2 + 1, none⟩ = some (.int .i64 (gets l k).2)
theorem VS.mono {S S' : Nat → Prop} {w w' : World} {v : Value} {l : List (Int × Int)} (h : VS S w v l) (hS : ∀ b, S b → b < w.heap.size → S' b) (hk : Keep S w w') : VS S' w' v l := by
  obtain ⟨a, c, rfl, hl, hm, h⟩ := h
  refine ⟨a, c, rfl, hl, hm, fun k hlt => ?_⟩
  obtain ⟨b, off, ha, hb, hc, hd⟩ := h k hlt
  exact ⟨b, off, ha, hS b hb (lt_of_cell hc), cell_keep hc (hk b hb (lt_of_cell hc)), cell_keep hd (hk b hb (lt_of_cell hc))⟩
theorem VS.below {S : Nat → Prop} {w w' : World} {v : Value} {l : List (Int × Int)} (h : VS S w v l) (hb : Below w.heap.size w w') : VS S w' v l :=
  h.mono (fun _ h _ => h) (Below.keep hb fun _ _ h => h)
theorem VS.form {S : Nat → Prop} {w : World} {v : Value} {l : List (Int × Int)} (h : VS S w v l) : ∃ a c, v = .slice a l.length c ∧ l.length ≤ 9223372036854775807 := by
  obtain ⟨a, c, rfl, h1, h2, _⟩ := h
  exact ⟨a, c, rfl, by unfold maxLen at h2; omega⟩
theorem VS.cell {S : Nat → Prop} {w : World} {a : Option Addr} {n c k : Nat} {l : List (Int × Int)} (h : VS S w (.slice a n c) l) (hk : k < l.length) : ∃ b off, a = some ⟨b, off, none⟩ ∧ S b ∧
    w.cell? ⟨b, off + k * 2, none⟩ = some (.int .i64 (gets l k).1) ∧ w.cell? ⟨b, off + k * 2 + 1, none⟩ = some (.int .i64 (gets l k).2) := by
  obtain ⟨a', c', e, hl, hm, h⟩ := h
  simp only [Value.slice.injEq] at e
  obtain ⟨rfl, rfl, rfl⟩ := e
  exact h k hk

theorem bcell {W w1 : World} (hb : Below W.heap.size W w1) : (∀ b o, b < W.heap.size → w1.cell? ⟨b, o, none⟩ = W.cell? ⟨b, o, none⟩) ∧ (∀ b o, b < W.heap.size → w1.frozen? ⟨b, o, none⟩ = W.frozen? ⟨b, o, none⟩) :=
  ⟨fun b o h => hb.cell (p := ⟨b, o, none⟩) h, fun b o h => hb.frozen (p := ⟨b, o, none⟩) h⟩
theorem heap_alloc_self (w : World) (o : Obj) : (w.alloc o).heap[w.heap.size]? = some o := by
  show (w.heap.push o)[w.heap.size]? = _
  simp
/-- A cell of a block that is known whole. -/
theorem cell_of_block {w : World} {b : Nat} {cs : Array Value} {T : TypeId} {fz : Nat × Nat} (h : w.heap[b]? = some (.cells cs T fz)) (off : Nat) : w.cell? ⟨b, off, none⟩ = cs[off]? := by
  simp [World.cell?, h]
theorem heap_below {B b : Nat} {w w' : World} {o : Obj} (h : w.heap[b]? = some o) (hb : Below B w w') (hB : b < B) : w'.heap[b]? = some o := by
  rw [hb.block b hB, h]
end Go.Proofs.YtikdbjaimcciiaaGreat
