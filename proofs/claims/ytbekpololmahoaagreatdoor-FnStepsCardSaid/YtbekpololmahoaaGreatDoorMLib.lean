/- Plain lemmas and predicates on worlds: how slices of integers, of slices and so on lie in memory. No conditions. -/
import Derived.WalkKit
import Derived.Handy
import Derived.Lib.Hide
import Derived.WalkSmall
import Derived.Deep.Draws
import Derived.ProofKit
import Derived.OpenShut
import Derived.Deep.Matrix
import Derived.Carry
import Derived.JoinedOf
import Derived.ChangeSame
import Derived.Test.YtbekpololmahoaaGreatDoorProg
import Derived.Deep.QuietTactic
import Derived.BigQuiet
import Derived.StillTailTactics
namespace Go.Proofs.YtbekpololmahoaaGreatDoor
open Go.RowKit
set_option linter.unusedVariables false
set_option linter.unusedSimpArgs false
/-- Element k of a list of integers, spelled so that simp leaves it alone. -/
def geti (l : List Int) (k : Nat) : Int := l.getD k 0
def getl (l : List (List Int)) (k : Nat) : List Int := l.getD k []
def getll (l : List (List (List Int))) (k : Nat) : List (List Int) := l.getD k []
theorem geti_eq {l : List Int} {k : Nat} (h : k < l.length) : geti l k = l[k] := by simp [geti, h]
theorem getl_eq {l : List (List Int)} {k : Nat} (h : k < l.length) : getl l k = l[k] := by simp [getl, h]
theorem geti_mem {l : List Int} {k : Nat} (h : k < l.length) : geti l k ∈ l := by rw [geti_eq h]; exact List.getElem_mem _
theorem getl_mem {l : List (List Int)} {k : Nat} (h : k < l.length) : getl l k ∈ l := by rw [getl_eq h]; exact List.getElem_mem _
theorem take_geti {l : List Int} {k : Nat} (h : k < l.length) : l.take (k + 1) = l.take k ++ [geti l k] := by
 rw [List.take_succ_eq_append_getElem h, geti_eq h]
theorem geti_take {l : List Int} {k n : Nat} (h : k < n) : geti (l.take n) k = geti l k := by
 simp [geti, List.getElem?_take, h]
theorem getl_take {l : List (List Int)} {k n : Nat} (h : k < n) : getl (l.take n) k = getl l k := by
 simp [getl, List.getElem?_take, h]
/-- v is a slice whose elements (one cell each, in blocks of S) hold what R says of xs. -/
def Vs {α : Type} (g : List α → Nat → α) (R : Value → α → Prop) (S : Nat → Prop) (w : World) (v : Value) (xs : List α) : Prop :=
 ∃ a c, v = .slice a xs.length c ∧ xs.length ≤ c ∧ (c ≤ maxLen) ∧ ∀ k, k < xs.length → ∃ b off ev, a = some ⟨b, off, none⟩ ∧ S b ∧ w.cell? ⟨b, off + k, none⟩ = some ev ∧ R ev (g xs k)
def isI (v : Value) (n : Int) : Prop := v = .int .i64 n
def V1 (S : Nat → Prop) (w : World) (v : Value) (l : List Int) : Prop := Vs geti isI S w v l
def V2 (S : Nat → Prop) (w : World) (v : Value) (l : List (List Int)) : Prop := Vs getl (V1 S w) S w v l
def V3 (S : Nat → Prop) (w : World) (v : Value) (l : List (List (List Int))) : Prop := Vs getll (V2 S w) S w v l
/-- Blocks of S have not turned. -/
def Keep (S : Nat → Prop) (w w' : World) : Prop := ∀ b, S b → b < w.heap.size → w'.heap[b]? = w.heap[b]?
theorem lt_of_cell {w : World} {a : Addr} {v : Value} (h : w.cell? a = some v) : a.block < w.heap.size := by
 unfold World.cell? at h
 split at h
 ·rename_i hh; exact (Array.getElem?_eq_some_iff.1 hh).1
 ·cases h
theorem cell_keep {w w' : World} {b off : Nat} {v : Value} (h : w.cell? ⟨b, off, none⟩ = some v) (hk : w'.heap[b]? = w.heap[b]?) : w'.cell? ⟨b, off, none⟩ = some v := by
 rw [World.cell?_of_block (w := w) (a := ⟨b, off, none⟩) hk, h]
section
variable {α : Type} {g : List α → Nat → α} {R R' : Value → α → Prop} {S S' : Nat → Prop} {w w' : World} {v : Value} {xs : List α}
theorem Vs.mono (h : Vs g R S w v xs) (hS : ∀ b, S b → b < w.heap.size → S' b) (hk : Keep S w w') (hR : ∀ ev x, R ev x → R' ev x) : Vs g R' S' w' v xs := by
 obtain ⟨a, c, rfl, hl, hm, h⟩ := h
 refine ⟨a, c, rfl, hl, hm, fun k hlt => ?_⟩
 obtain ⟨b, off, ev, ha, hb, hc, hr⟩ := h k hlt
 exact ⟨b, off, ev, ha, hS b hb (lt_of_cell hc), cell_keep hc (hk b hb (lt_of_cell hc)), hR _ _ hr⟩
end
theorem V1.mono {S S' : Nat → Prop} {w w' : World} {v : Value} {l : List Int} (h : V1 S w v l) (hS : ∀ b, S b → b < w.heap.size → S' b) (hk : Keep S w w') : V1 S' w' v l :=
 Vs.mono h hS hk fun _ _ r => r
theorem V2.mono {S S' : Nat → Prop} {w w' : World} {v : Value} {l : List (List Int)} (h : V2 S w v l) (hS : ∀ b, S b → b < w.heap.size → S' b) (hk : Keep S w w') : V2 S' w' v l :=
 Vs.mono h hS hk fun _ _ r => r.mono hS hk
theorem V3.mono {S S' : Nat → Prop} {w w' : World} {v : Value} {l : List (List (List Int))} (h : V3 S w v l) (hS : ∀ b, S b → b < w.heap.size → S' b) (hk : Keep S w w') : V3 S' w' v l :=
 Vs.mono h hS hk fun _ _ r => r.mono hS hk
theorem Below.keep {S : Nat → Prop} {B : Nat} {w w' : World} (h : Below B w w') (hB : ∀ b, S b → b < w.heap.size → b < B) : Keep S w w' := fun b hb hlt => h.block b (hB b hb hlt)
theorem V1.below {S : Nat → Prop} {w w' : World} {v : Value} {l : List Int} (h : V1 S w v l) (hb : Below w.heap.size w w') : V1 S w' v l :=
 h.mono (fun _ h _ => h) (Below.keep hb fun _ _ h => h)
theorem V2.below {S : Nat → Prop} {w w' : World} {v : Value} {l : List (List Int)} (h : V2 S w v l) (hb : Below w.heap.size w w') : V2 S w' v l :=
 h.mono (fun _ h _ => h) (Below.keep hb fun _ _ h => h)
theorem V3.below {S : Nat → Prop} {w w' : World} {v : Value} {l : List (List (List Int))} (h : V3 S w v l) (hb : Below w.heap.size w w') : V3 S w' v l :=
 h.mono (fun _ h _ => h) (Below.keep hb fun _ _ h => h)
theorem quiet_at {P : Program} {f : FuncId} {args : Array Value} {w : World} {n x : Nat} {v : Value} (h : Calls P f args (w.drewN (n + x)) fun e w' => e = .returned v ∧ ∃ m, w' = (w.drewN (n + x)).drewN m) :
  Calls P f args (w.drewN (n + x)) fun e w'' => e = .returned v ∧ ∃ k, w'' = w.drewN (n + k) :=
 h.mono fun _ _ ⟨he, m, hm⟩ => ⟨he, x + m, by rw [hm, World.drewN_drewN, Nat.add_assoc]⟩
theorem quiet_at0 {P : Program} {f : FuncId} {args : Array Value} {w : World} {x : Nat} {v : Value} (h : Calls P f args (w.drewN x) fun e w' => e = .returned v ∧ ∃ m, w' = (w.drewN x).drewN m) :
  Calls P f args (w.drewN x) fun e w'' => e = .returned v ∧ ∃ k, w'' = w.drewN k :=
 h.mono fun _ _ ⟨he, m, hm⟩ => ⟨he, x + m, by rw [hm, World.drewN_drewN]⟩
theorem quiet_same {P : Program} {f : FuncId} {args : Array Value} {w : World} {n x : Nat} {v : Value} (h : Calls P f args (w.drewN (n + x)) fun e w' => e = .returned v ∧ w.drewN (n + x) = w') :
  Calls P f args (w.drewN (n + x)) fun e w'' => e = .returned v ∧ ∃ k, w'' = w.drewN (n + k) :=
 h.mono fun _ _ ⟨he, hm⟩ => ⟨he, x, hm.symm⟩
theorem quiet_same0 {P : Program} {f : FuncId} {args : Array Value} {w : World} {x : Nat} {v : Value} (h : Calls P f args (w.drewN x) fun e w' => e = .returned v ∧ w.drewN x = w') :
  Calls P f args (w.drewN x) fun e w'' => e = .returned v ∧ ∃ k, w'' = w.drewN k :=
 h.mono fun _ _ ⟨he, hm⟩ => ⟨he, x, hm.symm⟩
theorem all_step {α : Type} (p : α → Bool) {l : List α} {k : Nat} (h : k < l.length) : (l.drop k).all p = (p l[k] && (l.drop (k + 1)).all p) := by
 rw [List.drop_eq_getElem_cons h, List.all_cons]
theorem all_stepi (p : Int → Bool) {l : List Int} {k : Nat} (h : k < l.length) : (l.drop k).all p = (p (geti l k) && (l.drop (k + 1)).all p) := by
 rw [all_step p h, geti_eq h]
theorem all_stepl (p : List Int → Bool) {l : List (List Int)} {k : Nat} (h : k < l.length) : (l.drop k).all p = (p (getl l k) && (l.drop (k + 1)).all p) := by
 rw [all_step p h, getl_eq h]
theorem keep_drewN (S : Nat → Prop) (w : World) (n : Nat) : Keep S w (w.drewN n) := fun _ _ _ => rfl
theorem V1.drewN {S : Nat → Prop} {w : World} {v : Value} {l : List Int} {n : Nat} (h : V1 S w v l) : V1 S (w.drewN n) v l := h.mono (fun _ h _ => h) (keep_drewN _ _ _)
theorem V2.drewN {S : Nat → Prop} {w : World} {v : Value} {l : List (List Int)} {n : Nat} (h : V2 S w v l) : V2 S (w.drewN n) v l := h.mono (fun _ h _ => h) (keep_drewN _ _ _)
theorem V3.drewN {S : Nat → Prop} {w : World} {v : Value} {l : List (List (List Int))} {n : Nat} (h : V3 S w v l) : V3 S (w.drewN n) v l := h.mono (fun _ h _ => h) (keep_drewN _ _ _)
/-- A part of a slice from its beginning. -/
theorem V2.take {S : Nat → Prop} {w : World} {a : Option Addr} {c n : Nat} {l : List (List Int)} (h : V2 S w (.slice a l.length c) l) (hn : n ≤ l.length) : V2 S w (.slice a n c) (l.take n) := by
 obtain ⟨a', c', e, hl, hm, h⟩ := h
 simp only [Value.slice.injEq] at e
 obtain ⟨rfl, _, rfl⟩ := e
 have hlen : (l.take n).length = n := by simp; omega
 refine ⟨a, c, by rw [hlen], by omega, hm, fun k hk => ?_⟩
 obtain ⟨b, off, ev, ha, hb, hc, hr⟩ := h k (by omega)
 exact ⟨b, off, ev, ha, hb, hc, by rw [getl_take (by omega)]; exact hr⟩
theorem V1.take {S : Nat → Prop} {w : World} {a : Option Addr} {c n : Nat} {l : List Int} (h : V1 S w (.slice a l.length c) l) (hn : n ≤ l.length) : V1 S w (.slice a n c) (l.take n) := by
 obtain ⟨a', c', e, hl, hm, h⟩ := h
 simp only [Value.slice.injEq] at e
 obtain ⟨rfl, _, rfl⟩ := e
 have hlen : (l.take n).length = n := by simp; omega
 refine ⟨a, c, by rw [hlen], by omega, hm, fun k hk => ?_⟩
 obtain ⟨b, off, ev, ha, hb, hc, hr⟩ := h k (by omega)
 exact ⟨b, off, ev, ha, hb, hc, by rw [geti_take (by omega)]; exact hr⟩
/-- One cell of a slice of integers. -/
theorem V1.cell {S : Nat → Prop} {w : World} {a : Option Addr} {n c k : Nat} {l : List Int} (h : V1 S w (.slice a n c) l) (hk : k < l.length) : ∃ b off, a = some ⟨b, off, none⟩ ∧ S b ∧ w.cell? ⟨b, off + k, none⟩ = some (.int .i64 (geti l k)) := by
 obtain ⟨a', c', e, hl, hm, h⟩ := h
 simp only [Value.slice.injEq] at e
 obtain ⟨rfl, rfl, rfl⟩ := e
 obtain ⟨b, off, ev, ha, hb, hc, rfl⟩ := h k hk
 exact ⟨b, off, ha, hb, hc⟩
theorem V2.cell {S : Nat → Prop} {w : World} {a : Option Addr} {n c k : Nat} {l : List (List Int)} (h : V2 S w (.slice a n c) l) (hk : k < l.length) : ∃ b off a' c', a = some ⟨b, off, none⟩ ∧ S b ∧ w.cell? ⟨b, off + k, none⟩ = some (.slice a' (getl l k).length c') ∧ V1 S w (.slice a' (getl l k).length c') (getl l k) := by
 obtain ⟨a', c', e, hl, hm, h⟩ := h
 simp only [Value.slice.injEq] at e
 obtain ⟨rfl, rfl, rfl⟩ := e
 obtain ⟨b, off, ev, ha, hb, hc, hr⟩ := h k hk
 have hr' := hr
 obtain ⟨a2, c2, rfl, _⟩ := hr
 exact ⟨b, off, a2, c2, ha, hb, hc, hr'⟩
theorem V2.cap {S : Nat → Prop} {w : World} {a : Option Addr} {n c : Nat} {l : List (List Int)} (h : V2 S w (.slice a n c) l) : l.length ≤ c := by
 obtain ⟨a', c', e, hl, hm, h⟩ := h
 injection e with _ _ e3; omega
theorem V1.cap {S : Nat → Prop} {w : World} {a : Option Addr} {n c : Nat} {l : List Int} (h : V1 S w (.slice a n c) l) : l.length ≤ c := by
 obtain ⟨a', c', e, hl, hm, h⟩ := h
 injection e with _ _ e3; omega
theorem V1.len {S : Nat → Prop} {w : World} {v : Value} {l : List Int} (h : V1 S w v l) : l.length ≤ maxLen := by
 obtain ⟨a, c, rfl, h1, h2, _⟩ := h; omega
theorem V2.len {S : Nat → Prop} {w : World} {v : Value} {l : List (List Int)} (h : V2 S w v l) : l.length ≤ maxLen := by
 obtain ⟨a, c, rfl, h1, h2, _⟩ := h; omega
theorem V1.form {S : Nat → Prop} {w : World} {v : Value} {l : List Int} (h : V1 S w v l) : ∃ a c, v = .slice a l.length c ∧ l.length ≤ 9223372036854775807 := by
 have := h.len
 obtain ⟨a, c, rfl, _⟩ := h
 exact ⟨a, c, rfl, by unfold maxLen at this; omega⟩
theorem V2.form {S : Nat → Prop} {w : World} {v : Value} {l : List (List Int)} (h : V2 S w v l) : ∃ a c, v = .slice a l.length c ∧ l.length ≤ 9223372036854775807 := by
 have := h.len
 obtain ⟨a, c, rfl, _⟩ := h
 exact ⟨a, c, rfl, by unfold maxLen at this; omega⟩
theorem ret_int {k : IntKind} {a b : Int} (h : a = b) : Ending.returned (.int k a) = .returned (.int k b) := by rw [h]
theorem ret_bool {a b : Bool} (h : a = b) : Ending.returned (.bool a) = .returned (.bool b) := by rw [h]
/-- Steps: two cells each. -/
def gets (l : List (Int × Int)) (k : Nat) : Int × Int := l.getD k (0, 0)
theorem gets_eq {l : List (Int × Int)} {k : Nat} (h : k < l.length) : gets l k = l[k] := by simp [gets, h]
theorem take_gets {l : List (Int × Int)} {k : Nat} (h : k < l.length) : l.take (k + 1) = l.take k ++ [gets l k] := by
 rw [List.take_succ_eq_append_getElem h, gets_eq h]
def VS (S : Nat → Prop) (w : World) (v : Value) (l : List (Int × Int)) : Prop :=
 ∃ a c, v = .slice a l.length c ∧ l.length ≤ c ∧ c ≤ maxLen ∧ ∀ k, k < l.length → ∃ b off, a = some ⟨b, off, none⟩ ∧ S b ∧ w.cell? ⟨b, off + k * 2, none⟩ = some (.int .i64 (gets l k).1) ∧ w.cell? ⟨b, off + k * 2 + 1, none⟩ = some (.int .i64 (gets l k).2)
theorem VS.mono {S S' : Nat → Prop} {w w' : World} {v : Value} {l : List (Int × Int)} (h : VS S w v l) (hS : ∀ b, S b → b < w.heap.size → S' b) (hk : Keep S w w') : VS S' w' v l := by
 obtain ⟨a, c, rfl, hl, hm, h⟩ := h
 refine ⟨a, c, rfl, hl, hm, fun k hlt => ?_⟩
 obtain ⟨b, off, ha, hb, hc, hd⟩ := h k hlt
 exact ⟨b, off, ha, hS b hb (lt_of_cell hc), cell_keep hc (hk b hb (lt_of_cell hc)), cell_keep hd (hk b hb (lt_of_cell hc))⟩
theorem VS.below {S : Nat → Prop} {w w' : World} {v : Value} {l : List (Int × Int)} (h : VS S w v l) (hb : Below w.heap.size w w') : VS S w' v l :=
 h.mono (fun _ h _ => h) (Below.keep hb fun _ _ h => h)
theorem VS.form {S : Nat → Prop} {w : World} {v : Value} {l : List (Int × Int)} (h : VS S w v l) : ∃ a c, v = .slice a l.length c ∧ l.length ≤ 9223372036854775807 := by
 obtain ⟨a, c, rfl, h1, h2, _⟩ := h
 exact ⟨a, c, rfl, by unfold maxLen at h2; omega⟩
theorem VS.cell {S : Nat → Prop} {w : World} {a : Option Addr} {n c k : Nat} {l : List (Int × Int)} (h : VS S w (.slice a n c) l) (hk : k < l.length) : ∃ b off, a = some ⟨b, off, none⟩ ∧ S b ∧
  w.cell? ⟨b, off + k * 2, none⟩ = some (.int .i64 (gets l k).1) ∧ w.cell? ⟨b, off + k * 2 + 1, none⟩ = some (.int .i64 (gets l k).2) := by
 obtain ⟨a', c', e, hl, hm, h⟩ := h
 simp only [Value.slice.injEq] at e
 obtain ⟨rfl, rfl, rfl⟩ := e
 exact h k hk
theorem bcell {W w1 : World} (hb : Below W.heap.size W w1) : (∀ b o, b < W.heap.size → w1.cell? ⟨b, o, none⟩ = W.cell? ⟨b, o, none⟩) ∧ (∀ b o, b < W.heap.size → w1.frozen? ⟨b, o, none⟩ = W.frozen? ⟨b, o, none⟩) :=
 ⟨fun b o h => hb.cell (p := ⟨b, o, none⟩) h, fun b o h => hb.frozen (p := ⟨b, o, none⟩) h⟩
theorem heap_alloc_self (w : World) (o : Obj) : (w.alloc o).heap[w.heap.size]? = some o := by
 show (w.heap.push o)[w.heap.size]? = _
 simp
/-- A cell of a block that is known whole. -/
theorem cell_of_block {w : World} {b : Nat} {cs : Array Value} {T : TypeId} {fz : Nat × Nat} (h : w.heap[b]? = some (.cells cs T fz)) (off : Nat) : w.cell? ⟨b, off, none⟩ = cs[off]? := by
 simp [World.cell?, h]
theorem heap_below {B b : Nat} {w w' : World} {o : Obj} (h : w.heap[b]? = some o) (hb : Below B w w') (hB : b < B) : w'.heap[b]? = some o := by
 rw [hb.block b hB, h]
end Go.Proofs.YtbekpololmahoaaGreatDoor
namespace Go.Proofs.YtbekpololmahoaaGreatDoor
open Go.ChangeShapes Go.WideShapes Go.ChangeAt Go.RowKit Go.Deep
set_option linter.unusedVariables false
set_option linter.unusedSimpArgs false
section
variable {H : Type} {enc : TypeId × Value → H} {P : Program} {w : World} {held : Bool}
/-- The blocks that are there. -/
def Old (w : World) : Nat → Prop := fun b => b < w.heap.size
theorem addr_of_cell {a : Addr} {i : Nat} {v : Value} (h : w.cell? (a.add i) = some v) : i = 0 → a = ⟨a.block, a.off, none⟩ := by
 intro h0; subst h0
 obtain ⟨b, o, s⟩ := a
 simp only [World.cell?, Addr.add, if_true] at h
 split at h
 ·cases s with
  | none => rfl
  | some s => simp at h
 ·cases h
theorem _root_.Go.DataW.Trod.stay_below {P : Program} {enc : TypeId × Value → H} {t : TypeId} (hl : laidOutB P = true) (hr : P.readableRec t = true) (hrow : t < P.types.size) {W W' : World} {v : Value} {d : DataW H} {ps : List MemPlace}
  (h : DataW.Trod enc P W 0 (fun _ => true) true t v d ps) (hb : Below W.heap.size W W') (hlt : ∀ x ∈ ps, x.block < W.heap.size) : DataW.Trod enc P W' 0 (fun b => decide (b < W.heap.size)) true t v d ps :=
 Below.trod hl hr hrow h hb hlt
theorem trodAll_stays {P : Program} {enc : TypeId × Value → H} (hl : laidOutB P = true) {W W' : World} (hB : Below W.heap.size W W') : ∀ {ts : List TypeId} {vs : List Value} {ds : List (DataW H)} {ps : List MemPlace},
  (∀ t ∈ ts, P.readableRec t = true ∧ t < P.types.size) → DataW.TrodAll enc P W 0 (fun _ => true) true ts vs ds ps → (∀ x ∈ ps, x.block < W.heap.size) → DataW.TrodAll enc P W' 0 (fun b => decide (b < W.heap.size)) true ts vs ds ps := by
 intro ts
 induction ts with
 | nil => intro vs ds ps _ h _; obtain ⟨rfl, rfl, rfl⟩ := trodAll_nil h; exact trodAll_mk0
 | cons t ts ih =>
   intro vs ds ps hr h hlt
   obtain ⟨v, vs', d, ds', p, q, rfl, rfl, rfl, h0, h1⟩ := trodAll_cons h
   refine trodAll_cons_mk ?_ (ih (fun u hu => hr u (List.mem_cons_of_mem _ hu)) h1 (fun x hx => hlt x (List.mem_append_right _ hx)))
   exact h0.stay_below hl (hr t (List.mem_cons_self ..)).1 (hr t (List.mem_cons_self ..)).2 hB (fun x hx => hlt x (List.mem_append_left _ hx))
/-- What a law's row asks behind the call, where the call has left alone all that was there. -/
theorem law_post {P : Program} {enc : TypeId × Value → H} {f : Func} {s : ChangeSpec} {W W' : World} {args : Array Value} {ds gs : List (DataW H)} {before : List MemPlace} {tb : TypeId}
  (hW : DataW.Whole enc P f.params.toList s.vars false W args.toList ds gs before) (hv : s.vars = []) (hrt : f.resultTypes = #[tb]) (hb : P.underlying tb = some .bool)
  (hs : s.fn H (ds ++ gs) = { results := [.lit (.bool true)], args := ds }) (hB : Below W.heap.size W W') (hl : laidOutB P = true) (hr0 : (f.params.toList.all fun t => P.readableRec t && decide (t < P.types.size)) = true) :
  s.post enc P f false true false false W args (.bool true) W' := by
 have hr : ∀ t ∈ f.params.toList, P.readableRec t = true ∧ t < P.types.size := fun t ht => by
  have := List.all_eq_true.1 hr0 t ht
  simpa using this
 have hlt := hW.lt
 have hW' := hW
 obtain ⟨p, q, hA, hV, rfl, _, _⟩ := hW
 rw [hv] at hV
 obtain ⟨rfl, rfl⟩ := trodVars_none hV
 refine ⟨ds, [], p ++ [], [], p, [], hW', ?_, ?_, ?_, hB.frame _, fun h => by cases h⟩
 ·rw [hs, hrt]; exact trodAll_mk1 (shut_bool hb true)
 ·rw [hs]; exact trodAll_stays hl hB hr hA (fun x hx => hlt x (List.mem_append_left _ hx))
 ·rw [hs, hv]; rfl
end
end Go.Proofs.YtbekpololmahoaaGreatDoor
namespace Go.Proofs.YtbekpololmahoaaGreatDoor
open Go.RowKit
set_option linter.unusedVariables false
set_option linter.unusedSimpArgs false
theorem heap_setCell_self {w : World} {b off : Nat} {cs : Array Value} {T : TypeId} {fz : Nat × Nat} (h : w.heap[b]? = some (.cells cs T fz)) (u : Value) :
  (w.setCell ⟨b, off, none⟩ u).heap[b]? = some (.cells (cs.setIfInBounds off u) T fz) := by
 simp only [World.setCell, Array.getElem?_modify, if_true, h]
 rfl
theorem heap_setCell_other {w : World} {b off k : Nat} (u : Value) (h : k ≠ b) : (w.setCell ⟨b, off, none⟩ u).heap[k]? = w.heap[k]? := Below.heap_setCell _ _ _ _ h
theorem frozen_of_block {w : World} {b : Nat} {cs : Array Value} {T : TypeId} (h : w.heap[b]? = some (.cells cs T (0, 0))) (off : Nat) : w.frozen? ⟨b, off, none⟩ = false := by
 simp [World.frozen?, h]
theorem lt_of_heap {w : World} {b : Nat} {o : Obj} (h : w.heap[b]? = some o) : b < w.heap.size := (Array.getElem?_eq_some_iff.1 h).1
/-- v holds l, in block b alone, which may be written. -/
def X1 (w : World) (v : Value) (l : List Int) (b : Nat) : Prop :=
 ∃ a c, v = .slice a l.length c ∧ l.length ≤ c ∧ c ≤ maxLen ∧
   (l ≠ [] → ∃ off cs e, a = some ⟨b, off, none⟩ ∧ w.heap[b]? = some (.cells cs e (0, 0)) ∧ ∀ k, k < l.length → cs[off + k]? = some (.int .i64 (geti l k)))
theorem X1.keep {w w' : World} {v : Value} {l : List Int} {b : Nat} (h : X1 w v l b) (hk : l ≠ [] → w'.heap[b]? = w.heap[b]?) : X1 w' v l b := by
 obtain ⟨a, c, rfl, h1, h2, h⟩ := h
 refine ⟨a, c, rfl, h1, h2, fun hn => ?_⟩
 obtain ⟨off, cs, e, ha, hh, hc⟩ := h hn
 exact ⟨off, cs, e, ha, by rw [hk hn, hh], hc⟩
theorem X1.lt {w : World} {v : Value} {l : List Int} {b : Nat} (h : X1 w v l b) (hn : l ≠ []) : b < w.heap.size := by
 obtain ⟨a, c, rfl, h1, h2, h⟩ := h
 obtain ⟨off, cs, e, ha, hh, hc⟩ := h hn
 exact lt_of_heap hh
theorem X1.v1 {w : World} {v : Value} {l : List Int} {b : Nat} {S : Nat → Prop} (h : X1 w v l b) (hS : l ≠ [] → S b) : V1 S w v l := by
 obtain ⟨a, c, rfl, h1, h2, h⟩ := h
 refine ⟨a, c, rfl, h1, h2, fun k hk => ?_⟩
 have hn : l ≠ [] := by intro e; subst e; simp at hk
 obtain ⟨off, cs, e, ha, hh, hc⟩ := h hn
 exact ⟨b, off, _, ha, hS hn, by rw [cell_of_block hh]; exact hc k hk, rfl⟩
/-- v holds ls: the rows in blocks of their own (bk k), the slice of the rows in block ob. -/
def X2 (w : World) (v : Value) (ls : List (List Int)) (ob : Nat) (bk : Nat → Nat) : Prop :=
 ∃ a c, v = .slice a ls.length c ∧ ls.length ≤ c ∧ c ≤ maxLen ∧
   (ls ≠ [] → ∃ off cs e, a = some ⟨ob, off, none⟩ ∧ w.heap[ob]? = some (.cells cs e (0, 0)) ∧ ∀ k, k < ls.length → ∃ rv, cs[off + k]? = some rv ∧ X1 w rv (getl ls k) (bk k)) ∧
   (∀ k, k < ls.length → getl ls k ≠ [] → bk k ≠ ob ∧ ∀ j, j < ls.length → j ≠ k → getl ls j ≠ [] → bk j ≠ bk k)
theorem X2.keep {w w' : World} {v : Value} {ls : List (List Int)} {ob : Nat} {bk : Nat → Nat} (h : X2 w v ls ob bk) (ho : ls ≠ [] → w'.heap[ob]? = w.heap[ob]?) (hk : ∀ k, k < ls.length → getl ls k ≠ [] → w'.heap[bk k]? = w.heap[bk k]?) : X2 w' v ls ob bk := by
 obtain ⟨a, c, rfl, h1, h2, h, hd⟩ := h
 refine ⟨a, c, rfl, h1, h2, fun hn => ?_, hd⟩
 obtain ⟨off, cs, e, ha, hh, hc⟩ := h hn
 refine ⟨off, cs, e, ha, by rw [ho hn, hh], fun k hlt => ?_⟩
 obtain ⟨rv, h3, h4⟩ := hc k hlt
 exact ⟨rv, h3, h4.keep (hk k hlt)⟩
theorem X2.v2 {w : World} {v : Value} {ls : List (List Int)} {ob : Nat} {bk : Nat → Nat} {S : Nat → Prop} (h : X2 w v ls ob bk) (ho : ls ≠ [] → S ob) (hS : ∀ k, k < ls.length → getl ls k ≠ [] → S (bk k)) : V2 S w v ls := by
 obtain ⟨a, c, rfl, h1, h2, h, hd⟩ := h
 refine ⟨a, c, rfl, h1, h2, fun k hk => ?_⟩
 have hn : ls ≠ [] := by intro e; subst e; simp at hk
 obtain ⟨off, cs, e, ha, hh, hc⟩ := h hn
 obtain ⟨rv, h3, h4⟩ := hc k hk
 exact ⟨ob, off, rv, ha, ho hn, by rw [cell_of_block hh]; exact h3, h4.v1 (hS k hk)⟩
theorem X2.lt {w : World} {v : Value} {ls : List (List Int)} {ob : Nat} {bk : Nat → Nat} (h : X2 w v ls ob bk) (hn : ls ≠ []) : ob < w.heap.size ∧ ∀ k, k < ls.length → getl ls k ≠ [] → bk k < w.heap.size := by
 obtain ⟨a, c, rfl, h1, h2, h, hd⟩ := h
 obtain ⟨off, cs, e, ha, hh, hc⟩ := h hn
 refine ⟨lt_of_heap hh, fun k hk hne => ?_⟩
 obtain ⟨rv, h3, h4⟩ := hc k hk
 exact h4.lt hne
/-- Fresh from block B on. -/
def F1 (B : Nat) (w : World) (v : Value) (l : List Int) : Prop := ∃ b, X1 w v l b ∧ (l ≠ [] → B ≤ b)
def F2 (B : Nat) (w : World) (v : Value) (ls : List (List Int)) : Prop := ∃ ob bk, X2 w v ls ob bk ∧ (ls ≠ [] → B ≤ ob) ∧ ∀ k, k < ls.length → getl ls k ≠ [] → B ≤ bk k
theorem F1.v1 {B : Nat} {w : World} {v : Value} {l : List Int} (h : F1 B w v l) : V1 (fun b => B ≤ b) w v l := by
 obtain ⟨b, h1, h2⟩ := h
 exact h1.v1 h2
theorem F2.v2 {B : Nat} {w : World} {v : Value} {ls : List (List Int)} (h : F2 B w v ls) : V2 (fun b => B ≤ b) w v ls := by
 obtain ⟨ob, bk, h1, h2, h3⟩ := h
 exact h1.v2 h2 h3
theorem F1.set {B b off : Nat} {w : World} {v u : Value} {l : List Int} (h : F1 B w v l) (hb : b < B) : F1 B (w.setCell ⟨b, off, none⟩ u) v l := by
 obtain ⟨c, h1, h2⟩ := h
 exact ⟨c, h1.keep fun hn => heap_setCell_other _ (by have := h2 hn; omega), h2⟩
theorem F2.set {B b off : Nat} {w : World} {v u : Value} {ls : List (List Int)} (h : F2 B w v ls) (hb : b < B) : F2 B (w.setCell ⟨b, off, none⟩ u) v ls := by
 obtain ⟨ob, bk, h1, h2, h3⟩ := h
 exact ⟨ob, bk, h1.keep (fun hn => heap_setCell_other _ (by have := h2 hn; omega)) (fun k hk hne => heap_setCell_other _ (by have := h3 k hk hne; omega)), h2, h3⟩
theorem F1.mono {B B' : Nat} {w : World} {v : Value} {l : List Int} (h : F1 B w v l) (hb : B' ≤ B) : F1 B' w v l := by
 obtain ⟨c, h1, h2⟩ := h
 exact ⟨c, h1, fun hn => by have := h2 hn; omega⟩
theorem F2.mono {B B' : Nat} {w : World} {v : Value} {ls : List (List Int)} (h : F2 B w v ls) (hb : B' ≤ B) : F2 B' w v ls := by
 obtain ⟨ob, bk, h1, h2, h3⟩ := h
 exact ⟨ob, bk, h1, fun hn => by have := h2 hn; omega, fun k hk hne => by have := h3 k hk hne; omega⟩
theorem F1.below {B : Nat} {w w' : World} {v : Value} {l : List Int} (h : F1 B w v l) (hb : Below w.heap.size w w') : F1 B w' v l := by
 obtain ⟨b, h1, h2⟩ := h
 exact ⟨b, h1.keep fun hn => hb.block b (h1.lt hn), h2⟩
theorem F2.below {B : Nat} {w w' : World} {v : Value} {ls : List (List Int)} (h : F2 B w v ls) (hb : Below w.heap.size w w') : F2 B w' v ls := by
 obtain ⟨ob, bk, h1, h2, h3⟩ := h
 refine ⟨ob, bk, h1.keep (fun hn => hb.block ob (h1.lt hn).1) (fun k hk hne => hb.block _ ((h1.lt ?_).2 k hk hne)), h2, h3⟩
 intro e; subst e; simp at hk
/-- make([]T, n): a new block of n elements. -/
theorem wp_mk {P : Program} (w : World) {ops : Array Oper} {rest : List Oper} {o : Oper} {a : Act} {Q : Exit → Act → World → Prop}
  (hg : o.guard = none) (l c : Operand) (t : TypeId) (hop : o.op = Op.makeSlice t l c)
  (e : TypeId) (z : Value) (size bytes : Nat) (h1 : P.underlying t = some (.slice e)) (h2 : (P.info? e).map (fun i => (i.zero, i.size, i.bytes)) = some (some z, size, bytes))
  (n : Nat) (hl : a.eval l = .int .i64 (n : Int)) (hc : a.eval c = .int .i64 (n : Int)) (b2 : bytes * n ≤ 281474976710656) (b3 : n ≤ 9223372036854775807)
  (hK : ∀ w' cs, w'.heap[w.heap.size]? = some (.cells cs e (0, 0)) → cs.size = n * size → cs.toList = (madeCells z.cells (n * size)).toList → Below w.heap.size w w' → w.heap.size < w'.heap.size → wpList P ops Q rest (a.put o.dst (.slice (some ⟨w.heap.size, 0, none⟩) n n)) w') :
  wpList P ops Q (o :: rest) a w := by
 obtain ⟨i, hi, hz0, hz1, hz2⟩ := info_parts h2
 refine wpList_make_full w hg l c t hop w.heap.size e i z size h1 hi hz0 hz1 .i64 .i64 n n n hl hc rfl rfl (by rw [hz2]; exact b2) (by unfold maxLen; omega) (Nat.le_refl _) ?_
 intro w' hown hgrow
 obtain ⟨hlen, ⟨hv, _⟩ | ⟨g, cap, cur, hv, hg1, hh, _, _, hs, htake⟩⟩ := hown
 ·cases hv
 ·simp at hv
  obtain ⟨rfl, rfl⟩ := hv
  have ht : cur.toList = (madeCells z.cells (n * size)).toList := by
   rw [← htake, List.take_of_length_le]
   simp [hs]
  exact hK w' cur hh hs ht ((Below.refl _ _).grown hgrow (Nat.le_refl _) (fun k hk => by cases hk)) (lt_of_heap hh)
/-- An append onto a slice that the call owns, of m elements: where the result lies. -/
theorem run_append_blk {P : Program} (w : World) (base : Nat) (t ty e : TypeId) (z : Value) (size bytes : Nat) (ht : P.underlying t = some (.slice e)) (h2 : (P.info? e).map (fun i => (i.zero, i.size, i.bytes)) = some (some z, size, bytes))
  (hzs : z.cells.size = size) (hsz : 0 < size) (v : Value) (n : Nat) (xs : List Value) (hown : w.ownsRow base e size v n xs)
  (a : Addr) (m c : Nat) (news : List Value) (hl : news.length = m * size) (hnews : ∀ j u, news[j]? = some u → w.cell? (a.add j) = some u) (h1 : ∀ u ∈ news, u.oneCell' = true)
  (h63 : n + m ≤ maxLen) (hbytes : (n + m) * bytes ≤ 140737488355328) (hbase : base ≤ w.heap.size) :
  ∃ v' w', (Builtin.append_ #[t, t] ty #[v, .slice (some a) m c]).run P w = .ok v' w' ∧ w'.ownsRow base e size v' (n + m) (xs ++ news) ∧ w.grownBy w' v.ownBlock ∧ (v'.ownBlock = v.ownBlock ∨ v'.ownBlock = some w.heap.size) := by
 obtain ⟨i, hi, hz, hs, hb⟩ := info_parts h2
 obtain ⟨v', w', hr, ho, hg, hn⟩ := run_append_own (P := P) w base t ty e i z size bytes ht hi hz hs hb hzs hsz v n xs hown a m c news hl hnews h1 h63 hbytes hbase
 refine ⟨v', w', hr, ho, hg, ?_⟩
 have h63' : n + m ≤ 9223372036854775807 := by simp only [maxLen] at h63; omega
 subst hs
 subst hb
 rcases hown.2 with ⟨hv, hn0⟩ | ⟨g, cap, cur, hv, hbg, hgg, hnc, hcm, hcs, htake⟩
 ·subst hv
  subst hn0
  by_cases hm : m = 0
  ·rw [hn.2 ⟨rfl, hm⟩]; exact .inl rfl
  ·have hr2 := run_append_nil (P := P) w t ty e i z ht hi hz a m c news hl hnews (by omega) (by omega) (by have hb := hbytes; simp only [Nat.zero_add] at hb; omega)
   rw [hr2] at hr
   injection hr with e1 e2
   rw [← e1]; exact .inr rfl
 ·subst hv
  by_cases hroom : n + m ≤ cap
  ·obtain ⟨w2, hr2, _, _⟩ := run_append_fits (P := P) w base t ty e i i.size ht hi rfl g n cap xs hown a m c news hl hnews h1 hroom
   rw [hr2] at hr
   injection hr with e1 e2
   rw [← e1]; exact .inl rfl
  ·have holds : ∀ j u, xs[j]? = some u → w.cell? ((⟨g, 0, none⟩ : Addr).add j) = some u := hown.cells (g := g) rfl
   have hr2 := run_append_grow (P := P) w t ty e i z ht hi hz ⟨g, 0, none⟩ n cap xs hown.1 holds a m c news hl hnews (by omega) (by omega) (growslice_fits (by omega) hbytes)
   rw [hr2] at hr
   injection hr with e1 e2
   rw [← e1]; exact .inr rfl
theorem wp_app {P : Program} {w : World} {ops : Array Oper} {rest : List Oper} {o : Oper} {a : Act} {Q : Exit → Act → World → Prop} (hgd : o.guard = none) (s x : Operand) (t : TypeId)
  (ho : o.op = .call { callee := .builtin .append, args := #[s, x], argTypes := #[t, t] })
  (base : Nat) (e : TypeId) (z : Value) (size bytes : Nat) (ht : P.underlying t = some (.slice e)) (h2 : (P.info? e).map (fun i => (i.zero, i.size, i.bytes)) = some (some z, size, bytes)) (hzs : z.cells.size = size) (hsz : 0 < size)
  (v : Value) (n : Nat) (xs : List Value) (hs : a.eval s = v) (hown : w.ownsRow base e size v n xs)
  (ad : Addr) (m c : Nat) (news : List Value) (hx : a.eval x = .slice (some ad) m c) (hl : news.length = m * size) (hnews : ∀ j u, news[j]? = some u → w.cell? (ad.add j) = some u) (h1 : ∀ u ∈ news, u.oneCell' = true)
  (h63 : n + m ≤ maxLen) (hbytes : (n + m) * bytes ≤ 140737488355328) (hbase : base ≤ w.heap.size)
  (h : ∀ v' w', w'.ownsRow base e size v' (n + m) (xs ++ news) → w.grownBy w' v.ownBlock → (v'.ownBlock = v.ownBlock ∨ v'.ownBlock = some w.heap.size) → wpList P ops Q rest (a.put o.dst v') w') : wpList P ops Q (o :: rest) a w :=
 wpList_plain hgd fun _ hK => by
  obtain ⟨v', w', hr, h2', h3, h4⟩ := run_append_blk (P := P) w base t o.type e z size bytes ht h2 hzs hsz v n xs hown ad m c news hl hnews h1 h63 hbytes hbase
  unfold Oper.wp execOp
  simp only [ho, resolve, invoke, builtin, Sem.run_bind, Sem.run_pure, Result.andThen_ok, List.map_toArray, List.map_cons, List.map_nil, hs, hx, hr]
  exact hK _ _ (h v' w' h2' h3 h4)
/-- 'append(out, x)', x in one cell, just laid in a block of its own. -/
theorem wp_app1 {P : Program} (w0 : World) {ops : Array Oper} {rest : List Oper} {o : Oper} {a : Act} {Q : Exit → Act → World → Prop} (hgd : o.guard = none) (s x : Operand) (t : TypeId)
  (ho : o.op = .call { callee := .builtin .append, args := #[s, x], argTypes := #[t, t] })
  (base : Nat) (e : TypeId) (z : Value) (bytes : Nat) (ht : P.underlying t = some (.slice e)) (h2 : (P.info? e).map (fun i => (i.zero, i.size, i.bytes)) = some (some z, 1, bytes)) (hzs : z.cells.size = 1)
  (v : Value) (n : Nat) (xs : List Value) (hs : a.eval s = v) (hown : w0.ownsRow base e 1 v n xs) (nv : Value) (e2 : TypeId) (hx : a.eval x = .slice (some ⟨w0.heap.size, 0, none⟩) 1 1) (hone : nv.oneCell' = true)
  (hn : n + 1 ≤ 1000000000) (hby : bytes ≤ 1000) (hbase : base ≤ w0.heap.size)
  (h : ∀ v' w', w'.ownsRow base e 1 v' (n + 1) (xs ++ [nv]) → w0.grownBy w' v.ownBlock → (v'.ownBlock = v.ownBlock ∨ ∃ g, v'.ownBlock = some g ∧ w0.heap.size ≤ g) → Below base w0 w' → wpList P ops Q rest (a.put o.dst v') w') :
  wpList P ops Q (o :: rest) a (w0.alloc (.cells #[nv] e2)) := by
 have hown' := hown.alloc (.cells #[nv] e2)
 have hlt := hown.lt
 refine wp_app hgd s x t ho base e z 1 bytes ht h2 hzs (by omega) v n xs hs hown' ⟨w0.heap.size, 0, none⟩ 1 1 [nv] hx rfl ?_ (by simpa using hone) (by unfold maxLen; omega) ?_ (by simp; omega) ?_
 ·intro j u hj
  cases j with
  | zero =>
    simp at hj
    subst hj
    rw [Addr.add_zero', cell_of_block (heap_alloc_self _ _)]; rfl
  | succ j => simp at hj
 ·have : (n + 1) * bytes ≤ 1000000000 * 1000 := Nat.mul_le_mul hn hby
  omega
 ·intro v' w' ho' hg hblk
  have hg0 : w0.grownBy w' v.ownBlock := ⟨hg.os, hg.tape, hg.output, by have := hg.size; simp at this; omega, fun k hk hne => by
   rw [hg.block k (by simp; omega) hne]; exact Below.heap_alloc _ _ _ hk⟩
  refine h v' w' ho' hg0 ?_ ((Below.refl _ _).grown hg0 hbase (fun k hk => (hlt k hk).1))
  rcases hblk with hb | hb
  ·exact .inl hb
  ·exact .inr ⟨_, hb, by simp⟩
theorem own_lit0 (w : World) (base : Nat) (e : TypeId) (size : Nat) (hb : base ≤ w.heap.size) : (w.alloc (.cells #[] e)).ownsRow base e size (.slice (some ⟨w.heap.size, 0, none⟩) 0 0) 0 [] :=
 World.ownsRow_lit w #[] 0 hb (Nat.zero_le _) (by simp)
/-- What the call owns and has finished. -/
theorem own_F1 {w : World} {B : Nat} {e : TypeId} {v : Value} {n : Nat} {l : List Int} (h : w.ownsRow B e 1 v n (l.map (Value.int .i64))) : F1 B w v l := by
 obtain ⟨hl, h⟩ := h
 have hn : n = l.length := by simpa using hl.symm
 subst hn
 rcases h with ⟨rfl, h0⟩ | ⟨g, cap, cur, rfl, hb, hh, hc, hm, hs, ht⟩
 ·have : l = [] := List.eq_nil_of_length_eq_zero h0
  subst this
  exact ⟨0, ⟨none, 0, rfl, Nat.le_refl _, Nat.zero_le _, fun h => absurd rfl h⟩, fun h => absurd rfl h⟩
 ·refine ⟨g, ⟨_, _, rfl, hc, hm, fun _ => ⟨0, cur, e, rfl, hh, fun k hk => ?_⟩⟩, fun _ => hb⟩
  have h1 : (cur.toList.take (l.length * 1))[k]? = (l.map (Value.int .i64))[k]? := by rw [ht]
  rw [List.getElem?_take, if_pos (by omega), List.getElem?_map] at h1
  rw [Nat.zero_add, ← Array.getElem?_toList, h1, List.getElem?_eq_getElem hk, geti_eq hk]; rfl
theorem box_facts (W : World) (cs : Array Value) (T : TypeId) : ∃ W1, W1 = W.alloc (.cells cs T) ∧ Below W.heap.size W W1 ∧ W.heap.size < W1.heap.size ∧ Hid (W1.heap.size = W.heap.size + 1) ∧ (∀ o, W1.cell? ⟨W.heap.size, o, none⟩ = cs[o]?) ∧ W1.heap[W.heap.size]? = some (.cells cs T (0, 0)) :=
 ⟨_, rfl, (Below.refl _ _).alloc (Nat.le_refl _) _, by simp, Lib.hid (by simp), fun o => cell_of_block (heap_alloc_self _ _) o, heap_alloc_self _ _⟩
/-- A slice that has an address, or nil. -/
def PV (v : Value) : Prop := v = .slice none 0 0 ∨ ∃ b off n c, v = .slice (some ⟨b, off, none⟩) n c
/-- From w to w' only blocks of F may turn, and new blocks may come. -/
structure Chg (F : Nat → Prop) (w w' : World) : Prop where
 os : w'.os = w.os
 tape : w'.tape = w.tape
 output : w'.output = w.output
 size : w.heap.size ≤ w'.heap.size
 block : ∀ k, k < w.heap.size → ¬ F k → w'.heap[k]? = w.heap[k]?
theorem Chg.refl (F : Nat → Prop) (w : World) : Chg F w w := ⟨rfl, rfl, rfl, Nat.le_refl _, fun _ _ _ => rfl⟩
theorem Chg.trans {F G : Nat → Prop} {a b c : World} (h : Chg F a b) (k : Chg G b c) (hs : ∀ i, G i → F i ∨ a.heap.size ≤ i) : Chg F a c :=
 ⟨k.os.trans h.os, k.tape.trans h.tape, k.output.trans h.output, Nat.le_trans h.size k.size, fun i hi hf => by
  rw [k.block i (Nat.lt_of_lt_of_le hi h.size) (fun hg => by rcases hs i hg with h1 | h1; exact hf h1; omega), h.block i hi hf]⟩
theorem Chg.of_below {F : Nat → Prop} {a b : World} (h : Below a.heap.size a b) : Chg F a b := ⟨h.os, h.tape, h.output, h.size, fun k hk _ => h.block k hk⟩
theorem Chg.then_below {F : Nat → Prop} {a b c : World} (h : Chg F a b) (k : Below b.heap.size b c) : Chg F a c := h.trans (Chg.of_below (F := fun _ => False) k) (fun _ h => h.elim)
theorem Chg.to_below {F : Nat → Prop} {B : Nat} {a b : World} (h : Chg F a b) (hF : ∀ i, F i → B ≤ i) (hB : B ≤ a.heap.size) : Below B a b :=
 ⟨h.os, h.tape, h.output, h.size, fun k hk => h.block k (by omega) (fun hf => by have := hF k hf; omega)⟩
theorem Chg.mono {F G : Nat → Prop} {a b : World} (h : Chg F a b) (hs : ∀ i, F i → G i) : Chg G a b := ⟨h.os, h.tape, h.output, h.size, fun k hk hf => h.block k hk (fun x => hf (hs k x))⟩
theorem Chg.alloc {F : Nat → Prop} {a w : World} (h : Chg F a w) (o : Obj) : Chg F a (w.alloc o) :=
 h.then_below ((Below.refl _ _).alloc (Nat.le_refl _) _)
theorem Chg.drew {F : Nat → Prop} {a w : World} (h : Chg F a w) : Chg F a w.drew := ⟨h.os, h.tape, h.output, h.size, h.block⟩
theorem Chg.setCell {F : Nat → Prop} {a w : World} (h : Chg F a w) {p : Addr} (hp : F p.block ∨ a.heap.size ≤ p.block) (u : Value) : Chg F a (w.setCell p u) :=
 h.trans (G := fun i => i = p.block) ⟨rfl, rfl, rfl, by simp [World.setCell], fun k hk hf => Below.heap_setCell _ _ _ _ hf⟩ (fun i hi => by rw [hi]; exact hp)
theorem Chg.grown {F : Nat → Prop} {a w w' : World} {row : Option Nat} (h : Chg F a w) (hg : w.grownBy w' row) (hr : ∀ k, row = some k → F k ∨ a.heap.size ≤ k) : Chg F a w' :=
 h.trans (G := fun i => row = some i) ⟨hg.os, hg.tape, hg.output, hg.size, fun k hk hf => hg.block k hk (fun e => hf e.symm)⟩ hr
theorem Chg.keep {F S : Nat → Prop} {a w : World} (h : Chg F a w) (hs : ∀ b, S b → ¬ F b) : Keep S a w := fun b hb hlt => h.block b hlt (hs b hb)
theorem Chg.cell {F : Nat → Prop} {a w : World} (h : Chg F a w) {b : Nat} (hb : b < a.heap.size) (hf : ¬ F b) (o : Nat) : w.cell? ⟨b, o, none⟩ = a.cell? ⟨b, o, none⟩ :=
 World.cell?_of_block (w := a) (a := ⟨b, o, none⟩) (h.block b hb hf)
theorem Chg.frozen {F : Nat → Prop} {a w : World} (h : Chg F a w) {b : Nat} (hb : b < a.heap.size) (hf : ¬ F b) (o : Nat) : w.frozen? ⟨b, o, none⟩ = a.frozen? ⟨b, o, none⟩ :=
 World.frozen?_of_block (w := a) (a := ⟨b, o, none⟩) (h.block b hb hf)
theorem Chg.heap {F : Nat → Prop} {a w : World} {b : Nat} {o : Obj} (h : Chg F a w) (ha : a.heap[b]? = some o) (hf : ¬ F b) : w.heap[b]? = some o := by
 rw [h.block b (lt_of_heap ha) hf, ha]
/-- What is owned stays owned while other blocks turn. -/
theorem own_chg {F : Nat → Prop} {w w' : World} {base : Nat} {e : TypeId} {v : Value} {n : Nat} {xs : List Value} (h : w.ownsRow base e 1 v n xs) (hc : Chg F w w') (hf : ∀ g, v.ownBlock = some g → ¬ F g) : w'.ownsRow base e 1 v n xs := by
 refine ⟨h.1, ?_⟩
 rcases h.2 with h0 | ⟨g, cap, cur, rfl, h1, h2, h3⟩
 ·exact .inl h0
 ·exact .inr ⟨g, cap, cur, rfl, h1, hc.heap h2 (hf g rfl), h3⟩
/-- The beginning of what is owned. -/
theorem own_take {w : World} {base : Nat} {e : TypeId} {a : Option Addr} {n c k : Nat} {xs : List Value} (h : w.ownsRow base e 1 (.slice a n c) n xs) (hk : k ≤ n) : w.ownsRow base e 1 (.slice a k c) k (xs.take k) := by
 obtain ⟨hl, h⟩ := h
 refine ⟨by simp; omega, ?_⟩
 rcases h with ⟨h1, h2⟩ | ⟨g, cap, cur, h1, h2, h3, h4, h5, h6, h7⟩
 ·simp only [Value.slice.injEq] at h1
  obtain ⟨rfl, rfl, rfl⟩ := h1
  exact .inl ⟨by rw [show k = 0 from by omega], by omega⟩
 ·simp only [Value.slice.injEq] at h1
  obtain ⟨rfl, _, rfl⟩ := h1
  refine .inr ⟨g, c, cur, rfl, h2, h3, by omega, h5, h6, ?_⟩
  rw [← h7, List.take_take]
  congr 1
  omega
/-- What is owned reads as a list of integers. -/
theorem own_V1 {w : World} {B : Nat} {e : TypeId} {v : Value} {n : Nat} {l : List Int} (h : w.ownsRow B e 1 v n (l.map (Value.int .i64))) : V1 (fun b => v.ownBlock = some b) w v l := by
 obtain ⟨hl, h⟩ := h
 have hn : n = l.length := by simpa using hl.symm
 subst hn
 rcases h with ⟨rfl, h0⟩ | ⟨g, cap, cur, rfl, hb, hh, hc, hm, hs, ht⟩
 ·exact ⟨none, 0, by rw [h0], by omega, Nat.zero_le _, fun k hk => by omega⟩
 ·refine ⟨_, _, rfl, hc, hm, fun k hk => ⟨g, 0, _, rfl, rfl, ?_, rfl⟩⟩
  have h1 : (cur.toList.take (l.length * 1))[k]? = (l.map (Value.int .i64))[k]? := by rw [ht]
  rw [List.getElem?_take, if_pos (by omega), List.getElem?_map] at h1
  rw [cell_of_block hh, Nat.zero_add, ← Array.getElem?_toList, h1, List.getElem?_eq_getElem hk, geti_eq hk]; rfl
theorem own_form {w : World} {B : Nat} {e : TypeId} {v : Value} {n : Nat} {xs : List Value} (h : w.ownsRow B e 1 v n xs) : ∃ a c, v = .slice a n c ∧ n ≤ c ∧ c ≤ maxLen := by
 rcases h.2 with ⟨rfl, h0⟩ | ⟨g, cap, cur, rfl, h1, h2, h3, h4, _⟩
 ·subst h0; exact ⟨_, _, rfl, Nat.le_refl _, Nat.zero_le _⟩
 ·exact ⟨_, _, rfl, h3, h4⟩
theorem own_base {w : World} {B B' : Nat} {e : TypeId} {v : Value} {n : Nat} {xs : List Value} (h : w.ownsRow B e 1 v n xs) (hB : B' ≤ B) : w.ownsRow B' e 1 v n xs := by
 refine ⟨h.1, ?_⟩
 rcases h.2 with h0 | ⟨g, cap, cur, rfl, h1, h2⟩
 ·exact .inl h0
 ·exact .inr ⟨g, cap, cur, rfl, by omega, h2⟩
theorem own_lo {w : World} {B B' : Nat} {e : TypeId} {v : Value} {n : Nat} {xs : List Value} (h : w.ownsRow B e 1 v n xs) (hB : B' ≤ B) : ∀ k, v.ownBlock = some k → B' ≤ k := fun k hk => by have := (h.lt k hk).1; omega
theorem inf_int : (Tryz.prog.info? 2).map (fun i => (i.zero, i.size, i.bytes)) = some (some (.int .i64 0), 1, 8) := by kernel_rfl
theorem inf_ints : (Tryz.prog.info? 57).map (fun i => (i.zero, i.size, i.bytes)) = some (some (.slice none 0 0), 1, 24) := by kernel_rfl
/-- How far a copy of rows has come. -/
structure CopyRel (B : Nat) (w : World) (cs : Array Value) (ls : List (List Int)) (k : Nat) (bk : Nat → Nat) : Prop where
 heap : w.heap[B]? = some (.cells cs 57 (0, 0))
 size : cs.size = ls.length
 rows : ∀ j, j < k → ∃ rv, cs[j]? = some rv ∧ X1 w rv (getl ls j) (bk j)
 at_ : ∀ j, j < k → B < bk j ∧ bk j < w.heap.size
 inc : ∀ i j, i < j → j < k → bk i < bk j
theorem CopyRel.done {B : Nat} {w : World} {cs : Array Value} {ls : List (List Int)} {bk : Nat → Nat} (h : CopyRel B w cs ls ls.length bk) (hl : ls.length ≤ 1048576) : X2 w (.slice (some ⟨B, 0, none⟩) ls.length ls.length) ls B bk := by
 refine ⟨_, _, rfl, Nat.le_refl _, by unfold maxLen; omega, fun _ => ⟨0, cs, _, rfl, h.heap, fun k hk => by rw [Nat.zero_add]; exact h.rows k hk⟩, fun k hk _ => ⟨by have := (h.at_ k hk).1; omega, fun j hj hne _ => ?_⟩⟩
 rcases Nat.lt_or_gt_of_ne hne with h1 | h1
 ·have := h.inc j k h1 hk; omega
 ·have := h.inc k j h1 hj; omega
theorem CopyRel.step {B : Nat} {w w1 w2 : World} {cs : Array Value} {ls : List (List Int)} {k : Nat} {bk : Nat → Nat} {rv : Value} (h : CopyRel B w cs ls k bk) (hk : k < ls.length) (hB : B < w.heap.size)
  (hb : Below w.heap.size w w1) (hx : X1 w1 rv (getl ls k) w.heap.size) (hsz : w.heap.size < w1.heap.size) (hw2 : w2 = w1.setCell ⟨B, k, none⟩ rv) :
  CopyRel B w2 (cs.setIfInBounds k rv) ls (k + 1) (fun j => if j < k then bk j else w.heap.size) := by
 subst hw2
 have h1 : w1.heap[B]? = some (.cells cs 57 (0, 0)) := heap_below h.heap hb hB
 have hs2 : (w1.setCell ⟨B, k, none⟩ rv).heap.size = w1.heap.size := by simp [World.setCell]
 refine ⟨heap_setCell_self h1 rv, by simp [h.size], fun j hj => ?_, fun j hj => ?_, fun i j hij hj => ?_⟩
 ·rw [Array.getElem?_setIfInBounds]
  by_cases e : k = j
  ·subst e
   refine ⟨rv, by simp [h.size, hk], ?_⟩
   rw [if_neg (by omega)]
   exact hx.keep fun _ => heap_setCell_other _ (by omega)
  ·rw [if_neg e, if_pos (by omega : j < k)]
   obtain ⟨u, hu, hxu⟩ := h.rows j (by omega)
   have ha := h.at_ j (by omega)
   exact ⟨u, hu, (hxu.keep fun _ => hb.block _ ha.2).keep fun _ => heap_setCell_other _ (by omega)⟩
 ·rw [hs2]
  split
  ·have ha := h.at_ j (by omega); omega
  ·omega
 ·have hjk : j ≤ k := by omega
  simp only [show i < k from by omega, if_true]
  split
  ·exact h.inc i j hij (by omega)
  ·exact (h.at_ i (by omega)).2
def inB (n lo hi : Int) : Bool := decide (lo ≤ n) && decide (n ≤ hi)
theorem inB_iff {n lo hi : Int} : inB n lo hi = true ↔ lo ≤ n ∧ n ≤ hi := by simp [inB]
theorem inB_false {n lo hi : Int} : inB n lo hi = false ↔ n < lo ∨ hi < n := by simp [inB]; omega
/-- A valid maker. -/
def isMk (c d s e l : Int) : Bool := inB c 2 6 && inB d 2 8 && inB s 1 (d - 1) && inB e 1 c && inB l 1 (min c d)
theorem isMk_iff {c d s e l : Int} : isMk c d s e l = true ↔ (2 ≤ c ∧ c ≤ 6) ∧ (2 ≤ d ∧ d ≤ 8) ∧ (1 ≤ s ∧ s ≤ d - 1) ∧ (1 ≤ e ∧ e ≤ c) ∧ (1 ≤ l ∧ l ≤ c ∧ l ≤ d) := by
 simp only [isMk, Bool.and_eq_true, inB_iff]; omega
end Go.Proofs.YtbekpololmahoaaGreatDoor
namespace Go.Proofs.YtbekpololmahoaaGreatDoor
set_option linter.unusedVariables false
set_option linter.unusedSimpArgs false
structure Mk where
 c : Int
 d : Int
 s : Int
 e : Int
 l : Int
def Mk.ok (m : Mk) : Bool := isMk m.c m.d m.s m.e m.l
theorem Mk.ok_iff {m : Mk} : m.ok = true ↔ (2 ≤ m.c ∧ m.c ≤ 6) ∧ (2 ≤ m.d ∧ m.d ≤ 8) ∧ (1 ≤ m.s ∧ m.s ≤ m.d - 1) ∧ (1 ≤ m.e ∧ m.e ≤ m.c) ∧ (1 ≤ m.l ∧ m.l ≤ m.c ∧ m.l ≤ m.d) := isMk_iff
def absI (x : Int) : Int := max x (-x)
def hasI (l : List Int) (x : Int) : Bool := l.any fun y => decide (y = x)
/-- The run of equal cuts that ends at index k. -/
def runAt (l : List Int) : Nat → Nat
 | 0 => 1
 | k + 1 => if geti l (k + 1) = geti l k then runAt l k + 1 else 1
theorem geti_append {a b : List Int} {k : Nat} (h : k < a.length) : geti (a ++ b) k = geti a k := by
 simp [geti, List.getElem?_append_left h]
theorem geti_snoc {a : List Int} {x : Int} : geti (a ++ [x]) a.length = x := by simp [geti]
theorem runAt_congr {a b : List Int} : ∀ k, (∀ i, i ≤ k → geti a i = geti b i) → runAt a k = runAt b k
 | 0, _ => rfl
 | k + 1, h => by
   unfold runAt
   rw [h (k + 1) (Nat.le_refl _), h k (by omega), runAt_congr k (fun i hi => h i (by omega))]
theorem runAt_append {a b : List Int} {k : Nat} (h : k < a.length) : runAt (a ++ b) k = runAt a k :=
 runAt_congr k fun i hi => geti_append (by omega)
theorem runAt_take {l : List Int} {k n : Nat} (h : k < n) : runAt (l.take n) k = runAt l k :=
 runAt_congr k fun i hi => geti_take (by omega)
theorem runAt_le (l : List Int) : ∀ k, runAt l k ≤ k + 1
 | 0 => Nat.le_refl _
 | k + 1 => by have := runAt_le l k; unfold runAt; split <;> omega
/-- How many different cuts there are among the first k. -/
def kindsTo (l : List Int) : Nat → Nat
 | 0 => 0
 | k + 1 => kindsTo l k + if hasI (l.take k) (geti l k) = true then 0 else 1
def kinds (l : List Int) : Nat := kindsTo l l.length
theorem kindsTo_le (l : List Int) : ∀ k, kindsTo l k ≤ k
 | 0 => Nat.le_refl _
 | k + 1 => by have := kindsTo_le l k; unfold kindsTo; split <;> omega
/-- Is the cut at index i within the step and the run? -/
def fitAt (m : Mk) (l : List Int) (i : Nat) : Bool := decide ((runAt l i : Int) ≤ m.e) && (i == 0 || decide (absI (geti l i - geti l (i - 1)) ≤ m.s))
def begins (m : Mk) (l : List Int) : Bool := (List.range l.length).all (fitAt m l)
theorem begins_iff {m : Mk} {l : List Int} : begins m l = true ↔ ∀ i, i < l.length → fitAt m l i = true := by simp [begins]
theorem fitAt_append {m : Mk} {a b : List Int} {i : Nat} (h : i < a.length) : fitAt m (a ++ b) i = fitAt m a i := by
 unfold fitAt
 rw [runAt_append h, geti_append h]
 cases i with
 | zero => rfl
 | succ n => rw [geti_append (by simpa using (by omega : n < a.length))]
theorem begins_snoc {m : Mk} {a : List Int} {x : Int} : begins m (a ++ [x]) = (begins m a && fitAt m (a ++ [x]) a.length) := by
 rw [Bool.eq_iff_iff, Bool.and_eq_true, begins_iff, begins_iff]
 constructor
 ·intro h
  exact ⟨fun i hi => by rw [← fitAt_append (b := [x]) hi]; exact h i (by simp; omega), h a.length (by simp)⟩
 ·rintro ⟨h1, h2⟩ i hi
  by_cases e : i = a.length
  ·subst e; exact h2
  ·rw [fitAt_append (by simp at hi; omega)]; exact h1 i (by simp at hi; omega)
theorem begins_nil {m : Mk} : begins m [] = true := rfl
def stepBad (m : Mk) (l : List Int) (i : Nat) : Bool := decide (0 < i) && decide (m.s < absI (geti l i - geti l (i - 1)))
def runBad (m : Mk) (l : List Int) (i : Nat) : Bool := decide (m.e < (runAt l i : Int))
/-- The first rule that cuts do not keep. -/
def fault (m : Mk) (l : List Int) : Int :=
 if (l.length : Int) ≠ m.c then 1 else if (l.all fun n => inB n 0 (m.d - 1)) = false then 2
 else if (List.range l.length).any (stepBad m l) = true then 3 else if (List.range l.length).any (runBad m l) = true then 4 else if (kinds l : Int) < m.l then 5 else 0
def isKeyB (m : Mk) (l : List Int) : Bool := decide (fault m l = 0)
theorem isKey_iff {m : Mk} {l : List Int} : isKeyB m l = true ↔ (l.length : Int) = m.c ∧ (∀ x ∈ l, 0 ≤ x ∧ x ≤ m.d - 1) ∧ begins m l = true ∧ m.l ≤ (kinds l : Int) := by
 have hb : begins m l = true ↔ ((List.range l.length).any (stepBad m l) = false ∧ (List.range l.length).any (runBad m l) = false) := by
  rw [begins_iff]
  simp only [List.any_eq_false, List.mem_range]
  constructor
  ·intro h
   constructor
   ·intro i hi
    have := h i hi
    simp only [fitAt, Bool.and_eq_true, Bool.or_eq_true, beq_iff_eq, decide_eq_true_eq] at this
    simp only [stepBad, Bool.and_eq_true, decide_eq_true_eq]
    omega
   ·intro i hi
    have := h i hi
    simp only [fitAt, Bool.and_eq_true, decide_eq_true_eq] at this
    simp only [runBad, decide_eq_true_eq]
    omega
  ·rintro ⟨h1, h2⟩ i hi
   have a1 := h1 i hi
   have a2 := h2 i hi
   simp only [stepBad, Bool.and_eq_true, decide_eq_true_eq] at a1
   simp only [runBad, decide_eq_true_eq] at a2
   simp only [fitAt, Bool.and_eq_true, Bool.or_eq_true, beq_iff_eq, decide_eq_true_eq]
   omega
 have ha : (l.all fun n => inB n 0 (m.d - 1)) = false ↔ ¬ ∀ x ∈ l, 0 ≤ x ∧ x ≤ m.d - 1 := by
  rw [← Bool.not_eq_true, List.all_eq_true]
  simp only [inB_iff]
 unfold isKeyB
 rw [decide_eq_true_eq, hb]
 unfold fault
 by_cases h1 : (l.length : Int) ≠ m.c
 ·rw [if_pos h1]; constructor
  ·intro h; cases h
  ·intro h; exact absurd h.1 h1
 ·rw [if_neg h1]
  by_cases h2 : (l.all fun n => inB n 0 (m.d - 1)) = false
  ·rw [if_pos h2]; constructor
   ·intro h; cases h
   ·intro h; exact absurd h.2.1 (ha.1 h2)
  ·rw [if_neg h2]
   have h2' : ∀ x ∈ l, 0 ≤ x ∧ x ≤ m.d - 1 := Classical.not_not.1 fun h => h2 (ha.2 h)
   by_cases h3 : (List.range l.length).any (stepBad m l) = true
   ·rw [if_pos h3]; constructor
    ·intro h; cases h
    ·intro h; rw [h.2.2.1.1] at h3; cases h3
   ·rw [if_neg h3]
    by_cases h4 : (List.range l.length).any (runBad m l) = true
    ·rw [if_pos h4]; constructor
     ·intro h; cases h
     ·intro h; rw [h.2.2.1.2] at h4; cases h4
    ·rw [if_neg h4]
     by_cases h5 : (kinds l : Int) < m.l
     ·rw [if_pos h5]; constructor
      ·intro h; cases h
      ·intro h; omega
     ·rw [if_neg h5]; constructor
      ·intro _; exact ⟨by omega, h2', ⟨by simpa using h3, by simpa using h4⟩, by omega⟩
      ·intro _; rfl
/-! ### All keys, in order -/
def depths (lo hi : Nat) : List Int := (List.range (hi - lo)).map fun i => ((lo + i : Nat) : Int)
theorem depths_cons {lo hi : Nat} (h : lo < hi) : depths lo hi = (lo : Int) :: depths (lo + 1) hi := by
 unfold depths
 rw [show hi - lo = (hi - (lo + 1)) + 1 from by omega, List.range_succ_eq_map]
 simp only [List.map_cons, List.map_map, Nat.add_zero]
 congr 1
 refine List.map_congr_left fun i _ => ?_
 simp only [Function.comp]; omega
theorem depths_nil {lo hi : Nat} (h : hi ≤ lo) : depths lo hi = [] := by
 unfold depths; rw [show hi - lo = 0 from by omega]; rfl
theorem mem_depths {lo hi : Nat} {x : Int} : x ∈ depths lo hi ↔ (lo : Int) ≤ x ∧ x < hi := by
 simp only [depths, List.mem_map, List.mem_range]
 constructor
 ·rintro ⟨i, hi', rfl⟩; omega
 ·intro h; exact ⟨(x - lo).toNat, by omega, by omega⟩
/-- The keys that begin with pre, rem cuts more. -/
def gen (m : Mk) : Nat → List Int → List (List Int)
 | 0, pre => if m.l ≤ (kinds pre : Int) then [pre] else []
 | rem + 1, pre => (depths 0 m.d.toNat).flatMap fun x => if fitAt m (pre ++ [x]) pre.length = true then gen m rem (pre ++ [x]) else []
def branch (m : Mk) (rem : Nat) (pre : List Int) (x : Int) : List (List Int) := if fitAt m (pre ++ [x]) pre.length = true then gen m rem (pre ++ [x]) else []
theorem gen_succ (m : Mk) (rem : Nat) (pre : List Int) : gen m (rem + 1) pre = (depths 0 m.d.toNat).flatMap (branch m rem pre) := rfl
def keysOf (m : Mk) : List (List Int) := gen m m.c.toNat []
theorem gen_mem {m : Mk} : ∀ (rem : Nat) (pre k : List Int), k ∈ gen m rem pre ↔ pre <+: k ∧ k.length = pre.length + rem ∧ (∀ i, pre.length ≤ i → i < k.length → (0 ≤ geti k i ∧ geti k i ≤ m.d - 1) ∧ fitAt m k i = true) ∧ m.l ≤ (kinds k : Int)
 | 0, pre, k => by
   unfold gen
   constructor
   ·intro h
    split at h
    ·simp only [List.mem_singleton] at h
     subst h
     exact ⟨List.prefix_refl _, rfl, fun i h1 h2 => by omega, by assumption⟩
    ·cases h
   ·rintro ⟨h1, h2, _, h4⟩
    have : pre = k := h1.eq_of_length (by omega)
    subst this
    rw [if_pos h4]; exact List.mem_singleton.2 rfl
 | rem + 1, pre, k => by
   rw [gen_succ, List.mem_flatMap]
   constructor
   ·rintro ⟨x, hx, hk⟩
    unfold branch at hk
    split at hk
    ·rename_i hfit
     obtain ⟨h1, h2, h3, h4⟩ := (gen_mem rem (pre ++ [x]) k).1 hk
     obtain ⟨t, ht⟩ := h1
     rw [mem_depths] at hx
     refine ⟨⟨x :: t, by rw [← ht]; simp⟩, by simp at h2; omega, fun i hi1 hi2 => ?_, h4⟩
     by_cases e : i = pre.length
     ·subst e
      have hg : geti k pre.length = x := by rw [← ht, geti_append (by simp)]; exact geti_snoc
      refine ⟨by rw [hg]; omega, ?_⟩
      rw [← ht, fitAt_append (by simp)]; exact hfit
     ·exact h3 i (by simp; omega) hi2
    ·cases hk
   ·rintro ⟨⟨t, ht⟩, h2, h3, h4⟩
    cases t with
    | nil => simp at ht; subst ht; omega
    | cons x t =>
      have ht' : pre ++ [x] ++ t = k := by rw [← ht]; simp
      have hl : pre.length < k.length := by omega
      obtain ⟨hr, hf⟩ := h3 pre.length (Nat.le_refl _) hl
      have hg : geti k pre.length = x := by rw [← ht', geti_append (by simp)]; exact geti_snoc
      rw [hg] at hr
      refine ⟨x, mem_depths.2 ⟨by omega, by omega⟩, ?_⟩
      unfold branch
      have hfa := fitAt_append (m := m) (a := pre ++ [x]) (b := t) (i := pre.length) (by simp)
      rw [ht', hf] at hfa
      have hfit : fitAt m (pre ++ [x]) pre.length = true := hfa.symm
      rw [if_pos hfit]
      exact (gen_mem rem (pre ++ [x]) k).2 ⟨⟨t, ht'⟩, by simp; omega, fun i hi1 hi2 => h3 i (by simp at hi1; omega) hi2, h4⟩
theorem mem_keysOf {m : Mk} (hc : 0 ≤ m.c) {k : List Int} : k ∈ keysOf m ↔ isKeyB m k = true := by
 unfold keysOf
 rw [gen_mem, isKey_iff, begins_iff]
 constructor
 ·rintro ⟨_, h2, h3, h4⟩
  refine ⟨by simp at h2; omega, fun x hx => ?_, fun i hi => (h3 i (Nat.zero_le _) hi).2, h4⟩
  obtain ⟨i, hi, rfl⟩ := List.getElem_of_mem hx
  have := (h3 i (Nat.zero_le _) hi).1
  rw [geti_eq hi] at this; exact this
 ·rintro ⟨h1, h2, h3, h4⟩
  exact ⟨List.nil_prefix, by simp; omega, fun i _ hi => ⟨h2 _ (geti_mem hi), h3 i hi⟩, h4⟩
/-- The keys behind k that share the first n cuts with it, n cuts or more. -/
def afterFrom (m : Mk) (C : Nat) (k : List Int) (n : Nat) : List (List Int) :=
 ((List.range (C - n)).map fun j => C - 1 - j).flatMap fun i => (depths ((geti k i).toNat + 1) m.d.toNat).flatMap (branch m (C - 1 - i) (k.take i))
theorem afterFrom_step {m : Mk} {C : Nat} {k : List Int} {n : Nat} (h : n < C) :
  afterFrom m C k n = afterFrom m C k (n + 1) ++ (depths ((geti k n).toNat + 1) m.d.toNat).flatMap (branch m (C - 1 - n) (k.take n)) := by
 unfold afterFrom
 rw [show C - n = (C - (n + 1)) + 1 from by omega, List.range_succ, List.map_append, List.flatMap_append]
 congr 1
 simp only [List.map_cons, List.map_nil, List.flatMap_cons, List.flatMap_nil, List.append_nil]
 rw [show C - 1 - (C - (n + 1)) = n from by omega]
theorem afterFrom_end {m : Mk} {C : Nat} {k : List Int} : afterFrom m C k C = [] := by
 unfold afterFrom; rw [Nat.sub_self]; rfl
theorem flatMap_split {α β : Type} (f : α → List β) : ∀ (l : List α) (L1 L2 : List β) (k : β), l.flatMap f = L1 ++ k :: L2 → ∃ a x b l1 l2, l = a ++ x :: b ∧ f x = l1 ++ k :: l2 ∧ L2 = l2 ++ b.flatMap f ∧ L1 = a.flatMap f ++ l1
 | [], L1, L2, k, h => by cases L1 <;> simp at h
 | y :: l, L1, L2, k, h => by
   rw [List.flatMap_cons] at h
   rcases List.append_eq_append_iff.1 h with ⟨c, h1, h2⟩ | ⟨c, h1, h2⟩
   ·obtain ⟨a, x, b, l1, l2, e1, e2, e3, e4⟩ := flatMap_split f l c L2 k h2
    exact ⟨y :: a, x, b, l1, l2, by rw [e1]; rfl, e2, e3, by rw [h1, e4]; simp⟩
   ·cases c with
    | nil =>
      simp at h1 h2
      obtain ⟨a, x, b, l1, l2, e1, e2, e3, e4⟩ := flatMap_split f l [] L2 k (by rw [← h2]; rfl)
      exact ⟨y :: a, x, b, l1, l2, by rw [e1]; rfl, e2, e3, by rw [← h1, List.flatMap_cons, List.append_assoc, ← e4]; simp⟩
    | cons z c =>
      simp at h2
      obtain ⟨rfl, h2⟩ := h2
      exact ⟨[], y, l, L1, c, rfl, h1, h2, by simp⟩
theorem depths_split {lo hi : Nat} {a b : List Int} {x : Int} (h : depths lo hi = a ++ x :: b) : b = depths (x.toNat + 1) hi ∧ a = depths lo x.toNat ∧ (lo : Int) ≤ x := by
 induction a generalizing lo with
 | nil =>
   by_cases hl : lo < hi
   ·rw [depths_cons hl] at h
    simp at h
    obtain ⟨rfl, rfl⟩ := h
    exact ⟨by simp, by rw [depths_nil (by simp)], Int.le_refl _⟩
   ·rw [depths_nil (by omega)] at h; simp at h
 | cons y a ih =>
   by_cases hl : lo < hi
   ·rw [depths_cons hl] at h
    simp at h
    obtain ⟨rfl, h⟩ := h
    obtain ⟨h1, h2, h3⟩ := ih h
    refine ⟨h1, ?_, by omega⟩
    rw [depths_cons (by omega), ← h2]
   ·rw [depths_nil (by omega)] at h; simp at h
theorem gen_split {m : Mk} {C : Nat} : ∀ (rem : Nat) (pre L1 L2 k : _), pre.length + rem = C → gen m rem pre = L1 ++ k :: L2 → L2 = afterFrom m C k pre.length
 | 0, pre, L1, L2, k, hC, h => by
   unfold gen at h
   split at h
   ·have : L1 = [] ∧ L2 = [] := by
     cases L1 with
     | nil => simp at h; exact ⟨rfl, by rw [h.2]⟩
     | cons y L1 => simp at h
    rw [this.2, show pre.length = C from by omega, afterFrom_end]
   ·cases L1 <;> simp at h
 | rem + 1, pre, L1, L2, k, hC, h => by
   rw [gen_succ] at h
   obtain ⟨a, x, b, l1, l2, e1, e2, e3, e4⟩ := flatMap_split _ _ _ _ _ h
   have e2' := e2
   unfold branch at e2
   split at e2
   ·have ih := gen_split (C := C) rem (pre ++ [x]) l1 l2 k (by simp; omega) e2
    have hk : k ∈ gen m rem (pre ++ [x]) := by rw [e2]; simp
    obtain ⟨⟨t, ht⟩, hlen, _, _⟩ := (gen_mem rem (pre ++ [x]) k).1 hk
    have hg : geti k pre.length = x := by rw [← ht, geti_append (by simp)]; exact geti_snoc
    have htk : k.take pre.length = pre := by rw [← ht]; simp
    obtain ⟨hb, _, hx0⟩ := depths_split e1
    rw [afterFrom_step (by omega), hg, htk, e3, ih, hb]
    simp only [List.length_append, List.length_cons, List.length_nil, Nat.zero_add]
    rw [show C - 1 - pre.length = rem from by omega]
   ·cases l1 <;> simp at e2
def after (m : Mk) (k : List Int) : List (List Int) := afterFrom m m.c.toNat k 0
theorem keys_after {m : Mk} {L1 L2 : List (List Int)} {k : List Int} (h : keysOf m = L1 ++ k :: L2) : after m k = L2 := by
 have := gen_split (C := m.c.toNat) m.c.toNat [] L1 L2 k (by simp) h
 exact this.symm
end Go.Proofs.YtbekpololmahoaaGreatDoor
namespace Go.Proofs.YtbekpololmahoaaGreatDoor
open Go.RowKit
set_option linter.unusedVariables false
set_option linter.unusedSimpArgs false
theorem within_any (n lo hi : Int) (w : World) :
  Calls Tryz.prog 22 #[.int .i64 n, .int .i64 lo, .int .i64 hi] w fun e w' => e = .returned (.bool (inB n lo hi)) ∧ w = w' := by
 go_enter Tryz.func22, Tryz.ntmps22
 go_wp2
 all_goals go_ret
 all_goals refine ⟨?_, rfl⟩
 all_goals simp [inB]
 all_goals omega
theorem l01In_any (n lo hi : Int) (w : World) :
  Calls Tryz.prog 45 #[.int .i64 n, .int .i64 lo, .int .i64 hi] w fun e w' => e = .returned (.bool (inB n lo hi)) ∧ w = w' := by
 go_enter Tryz.func45, Tryz.ntmps45
 go_wp2
 all_goals go_ret
 all_goals refine ⟨?_, rfl⟩
 all_goals simp [inB]
 all_goals omega
theorem within_b (n lo hi : Int) (w : World) (r : Bool) (hr : inB n lo hi = r) :
  Calls Tryz.prog 22 #[.int .i64 n, .int .i64 lo, .int .i64 hi] w fun e w' => e = .returned (.bool r) ∧ w = w' := by subst hr; exact within_any _ _ _ _
theorem l01In_b (n lo hi : Int) (w : World) (r : Bool) (hr : inB n lo hi = r) :
  Calls Tryz.prog 45 #[.int .i64 n, .int .i64 lo, .int .i64 hi] w fun e w' => e = .returned (.bool r) ∧ w = w' := by subst hr; exact l01In_any _ _ _ _
theorem isMaker_any (c d s e l : Int) (w : World) :
  Calls Tryz.prog 49 #[.agg #[.int .i64 c, .int .i64 d, .int .i64 s, .int .i64 e, .int .i64 l]] w fun e' w' => e' = .returned (.bool (isMk c d s e l)) ∧ Below w.heap.size w w' := by
 have hw : inB d 2 8 = true → wrap64 (d - 1) = d - 1 := fun h => by rw [inB_iff] at h; exact IntWalk.wrap64_in _ ⟨by omega, by omega⟩
 have HW := Lib.hid hw; clear hw
 go_enter Tryz.func49, Tryz.ntmps49
 go_wp2_with (go_at_call 22; refine (within_any _ _ _ _).mono ?_; rintro e w' ⟨rfl, rfl⟩)
 all_goals go_ret
 all_goals refine ⟨?_, by go_grown⟩
 all_goals simp_all [isMk, Int.min_def, HW.out]
 rw [if_neg (by omega)]
theorem isMakerR_any (c d s e l : Int) (w : World) :
  Calls Tryz.prog 58 #[.agg #[.int .i64 c, .int .i64 d, .int .i64 s, .int .i64 e, .int .i64 l]] w fun e' w' => e' = .returned (.bool (isMk c d s e l)) ∧ Below w.heap.size w w' := by
 have hw : inB d 2 8 = true → wrap64 (d - 1) = d - 1 := fun h => by rw [inB_iff] at h; exact IntWalk.wrap64_in _ ⟨by omega, by omega⟩
 have HW := Lib.hid hw; clear hw
 go_enter Tryz.func58, Tryz.ntmps58
 go_wp2_with (go_at_call 45; refine (l01In_any _ _ _ _).mono ?_; rintro e w' ⟨rfl, rfl⟩)
 all_goals go_ret
 all_goals refine ⟨?_, by go_grown⟩
 all_goals simp_all [isMk, Int.min_def, HW.out]
 rw [if_neg (by omega)]
end Go.Proofs.YtbekpololmahoaaGreatDoor
