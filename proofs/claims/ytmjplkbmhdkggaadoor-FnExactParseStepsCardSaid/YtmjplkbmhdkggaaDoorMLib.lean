/- Plain lemmas and predicates on worlds: how slices of integers, of slices and so on lie in memory. No conditions. -/
import Derived.WalkKit
import Derived.Handy
import Derived.Lib.Hide
import Derived.WalkSmall
import Derived.Deep.Draws
import Derived.ProofKit
import Derived.OpenShut
import Derived.Deep.Matrix
import Derived.Carry
import Derived.JoinedOf
import Derived.ChangeSame
import Derived.Test.YtmjplkbmhdkggaaDoorProg
import Derived.Deep.QuietTactic
import Derived.BigQuiet
import Derived.StillTailTactics
import Derived.Deep.RegionHeld3
import Derived.Laws.StructEq
import Derived.Lib.Join
import Derived.Lib.ItoaNum
namespace Go.Proofs.YtmjplkbmhdkggaaDoor
open Go.RowKit
set_option linter.unusedVariables false
set_option linter.unusedSimpArgs false
/-- Element k of a list of integers, spelled so that simp leaves it alone. -/
def geti (l : List Int) (k : Nat) : Int := l.getD k 0
def getl (l : List (List Int)) (k : Nat) : List Int := l.getD k []
def getll (l : List (List (List Int))) (k : Nat) : List (List Int) := l.getD k []
theorem geti_take {l : List Int} {k n : Nat} (h : k < n) : geti (l.take n) k = geti l k := by
 simp [geti, List.getElem?_take, h]
theorem getl_take {l : List (List Int)} {k n : Nat} (h : k < n) : getl (l.take n) k = getl l k := by
 simp [getl, List.getElem?_take, h]
/-- v is a slice whose elements (one cell each, in blocks of S) hold what R says of xs. -/
def Vs {α : Type} (g : List α → Nat → α) (R : Value → α → Prop) (S : Nat → Prop) (w : World) (v : Value) (xs : List α) : Prop :=
 ∃ a c, v = .slice a xs.length c ∧ xs.length ≤ c ∧ (c ≤ maxLen) ∧ ∀ k, k < xs.length → ∃ b off ev, a = some ⟨b, off, none⟩ ∧ S b ∧ w.cell? ⟨b, off + k, none⟩ = some ev ∧ R ev (g xs k)
def isI (v : Value) (n : Int) : Prop := v = .int .i64 n
def V1 (S : Nat → Prop) (w : World) (v : Value) (l : List Int) : Prop := Vs geti isI S w v l
def V2 (S : Nat → Prop) (w : World) (v : Value) (l : List (List Int)) : Prop := Vs getl (V1 S w) S w v l
def V3 (S : Nat → Prop) (w : World) (v : Value) (l : List (List (List Int))) : Prop := Vs getll (V2 S w) S w v l
/-- Blocks of S have not turned. -/
def Keep (S : Nat → Prop) (w w' : World) : Prop := ∀ b, S b → b < w.heap.size → w'.heap[b]? = w.heap[b]?
theorem lt_of_cell {w : World} {a : Addr} {v : Value} (h : w.cell? a = some v) : a.block < w.heap.size := by
 unfold World.cell? at h
 split at h
 ·rename_i hh; exact (Array.getElem?_eq_some_iff.1 hh).1
 ·cases h
theorem cell_keep {w w' : World} {b off : Nat} {v : Value} (h : w.cell? ⟨b, off, none⟩ = some v) (hk : w'.heap[b]? = w.heap[b]?) : w'.cell? ⟨b, off, none⟩ = some v := by
 rw [World.cell?_of_block (w := w) (a := ⟨b, off, none⟩) hk, h]
section
variable {α : Type} {g : List α → Nat → α} {R R' : Value → α → Prop} {S S' : Nat → Prop} {w w' : World} {v : Value} {xs : List α}
theorem Vs.mono (h : Vs g R S w v xs) (hS : ∀ b, S b → b < w.heap.size → S' b) (hk : Keep S w w') (hR : ∀ ev x, R ev x → R' ev x) : Vs g R' S' w' v xs := by
 obtain ⟨a, c, rfl, hl, hm, h⟩ := h
 refine ⟨a, c, rfl, hl, hm, fun k hlt => ?_⟩
 obtain ⟨b, off, ev, ha, hb, hc, hr⟩ := h k hlt
 exact ⟨b, off, ev, ha, hS b hb (lt_of_cell hc), cell_keep hc (hk b hb (lt_of_cell hc)), hR _ _ hr⟩
end
theorem V1.mono {S S' : Nat → Prop} {w w' : World} {v : Value} {l : List Int} (h : V1 S w v l) (hS : ∀ b, S b → b < w.heap.size → S' b) (hk : Keep S w w') : V1 S' w' v l :=
 Vs.mono h hS hk fun _ _ r => r
theorem V2.mono {S S' : Nat → Prop} {w w' : World} {v : Value} {l : List (List Int)} (h : V2 S w v l) (hS : ∀ b, S b → b < w.heap.size → S' b) (hk : Keep S w w') : V2 S' w' v l :=
 Vs.mono h hS hk fun _ _ r => r.mono hS hk
theorem V3.mono {S S' : Nat → Prop} {w w' : World} {v : Value} {l : List (List (List Int))} (h : V3 S w v l) (hS : ∀ b, S b → b < w.heap.size → S' b) (hk : Keep S w w') : V3 S' w' v l :=
 Vs.mono h hS hk fun _ _ r => r.mono hS hk
theorem Below.keep {S : Nat → Prop} {B : Nat} {w w' : World} (h : Below B w w') (hB : ∀ b, S b → b < w.heap.size → b < B) : Keep S w w' := fun b hb hlt => h.block b (hB b hb hlt)
theorem V1.below {S : Nat → Prop} {w w' : World} {v : Value} {l : List Int} (h : V1 S w v l) (hb : Below w.heap.size w w') : V1 S w' v l :=
 h.mono (fun _ h _ => h) (Below.keep hb fun _ _ h => h)
theorem V2.below {S : Nat → Prop} {w w' : World} {v : Value} {l : List (List Int)} (h : V2 S w v l) (hb : Below w.heap.size w w') : V2 S w' v l :=
 h.mono (fun _ h _ => h) (Below.keep hb fun _ _ h => h)
theorem V3.below {S : Nat → Prop} {w w' : World} {v : Value} {l : List (List (List Int))} (h : V3 S w v l) (hb : Below w.heap.size w w') : V3 S w' v l :=
 h.mono (fun _ h _ => h) (Below.keep hb fun _ _ h => h)
theorem keep_drewN (S : Nat → Prop) (w : World) (n : Nat) : Keep S w (w.drewN n) := fun _ _ _ => rfl
theorem V1.drewN {S : Nat → Prop} {w : World} {v : Value} {l : List Int} {n : Nat} (h : V1 S w v l) : V1 S (w.drewN n) v l := h.mono (fun _ h _ => h) (keep_drewN _ _ _)
theorem V2.drewN {S : Nat → Prop} {w : World} {v : Value} {l : List (List Int)} {n : Nat} (h : V2 S w v l) : V2 S (w.drewN n) v l := h.mono (fun _ h _ => h) (keep_drewN _ _ _)
theorem V3.drewN {S : Nat → Prop} {w : World} {v : Value} {l : List (List (List Int))} {n : Nat} (h : V3 S w v l) : V3 S (w.drewN n) v l := h.mono (fun _ h _ => h) (keep_drewN _ _ _)
/-- A part of a slice from its beginning. -/
theorem V2.take {S : Nat → Prop} {w : World} {a : Option Addr} {c n : Nat} {l : List (List Int)} (h : V2 S w (.slice a l.length c) l) (hn : n ≤ l.length) : V2 S w (.slice a n c) (l.take n) := by
 obtain ⟨a', c', e, hl, hm, h⟩ := h
 simp only [Value.slice.injEq] at e
 obtain ⟨rfl, _, rfl⟩ := e
 have hlen : (l.take n).length = n := by simp; omega
 refine ⟨a, c, by rw [hlen], by omega, hm, fun k hk => ?_⟩
 obtain ⟨b, off, ev, ha, hb, hc, hr⟩ := h k (by omega)
 exact ⟨b, off, ev, ha, hb, hc, by rw [getl_take (by omega)]; exact hr⟩
theorem V1.take {S : Nat → Prop} {w : World} {a : Option Addr} {c n : Nat} {l : List Int} (h : V1 S w (.slice a l.length c) l) (hn : n ≤ l.length) : V1 S w (.slice a n c) (l.take n) := by
 obtain ⟨a', c', e, hl, hm, h⟩ := h
 simp only [Value.slice.injEq] at e
 obtain ⟨rfl, _, rfl⟩ := e
 have hlen : (l.take n).length = n := by simp; omega
 refine ⟨a, c, by rw [hlen], by omega, hm, fun k hk => ?_⟩
 obtain ⟨b, off, ev, ha, hb, hc, hr⟩ := h k (by omega)
 exact ⟨b, off, ev, ha, hb, hc, by rw [geti_take (by omega)]; exact hr⟩
/-- One cell of a slice of integers. -/
theorem V1.cell {S : Nat → Prop} {w : World} {a : Option Addr} {n c k : Nat} {l : List Int} (h : V1 S w (.slice a n c) l) (hk : k < l.length) : ∃ b off, a = some ⟨b, off, none⟩ ∧ S b ∧ w.cell? ⟨b, off + k, none⟩ = some (.int .i64 (geti l k)) := by
 obtain ⟨a', c', e, hl, hm, h⟩ := h
 simp only [Value.slice.injEq] at e
 obtain ⟨rfl, rfl, rfl⟩ := e
 obtain ⟨b, off, ev, ha, hb, hc, rfl⟩ := h k hk
 exact ⟨b, off, ha, hb, hc⟩
theorem V2.cell {S : Nat → Prop} {w : World} {a : Option Addr} {n c k : Nat} {l : List (List Int)} (h : V2 S w (.slice a n c) l) (hk : k < l.length) : ∃ b off a' c', a = some ⟨b, off, none⟩ ∧ S b ∧ w.cell? ⟨b, off + k, none⟩ = some (.slice a' (getl l k).length c') ∧ V1 S w (.slice a' (getl l k).length c') (getl l k) := by
 obtain ⟨a', c', e, hl, hm, h⟩ := h
 simp only [Value.slice.injEq] at e
 obtain ⟨rfl, rfl, rfl⟩ := e
 obtain ⟨b, off, ev, ha, hb, hc, hr⟩ := h k hk
 have hr' := hr
 obtain ⟨a2, c2, rfl, _⟩ := hr
 exact ⟨b, off, a2, c2, ha, hb, hc, hr'⟩
theorem V2.cap {S : Nat → Prop} {w : World} {a : Option Addr} {n c : Nat} {l : List (List Int)} (h : V2 S w (.slice a n c) l) : l.length ≤ c := by
 obtain ⟨a', c', e, hl, hm, h⟩ := h
 injection e with _ _ e3; omega
theorem V1.cap {S : Nat → Prop} {w : World} {a : Option Addr} {n c : Nat} {l : List Int} (h : V1 S w (.slice a n c) l) : l.length ≤ c := by
 obtain ⟨a', c', e, hl, hm, h⟩ := h
 injection e with _ _ e3; omega
theorem V1.len {S : Nat → Prop} {w : World} {v : Value} {l : List Int} (h : V1 S w v l) : l.length ≤ maxLen := by
 obtain ⟨a, c, rfl, h1, h2, _⟩ := h; omega
theorem V2.len {S : Nat → Prop} {w : World} {v : Value} {l : List (List Int)} (h : V2 S w v l) : l.length ≤ maxLen := by
 obtain ⟨a, c, rfl, h1, h2, _⟩ := h; omega
theorem V1.form {S : Nat → Prop} {w : World} {v : Value} {l : List Int} (h : V1 S w v l) : ∃ a c, v = .slice a l.length c ∧ l.length ≤ 9223372036854775807 := by
 have := h.len
 obtain ⟨a, c, rfl, _⟩ := h
 exact ⟨a, c, rfl, by unfold maxLen at this; omega⟩
theorem V2.form {S : Nat → Prop} {w : World} {v : Value} {l : List (List Int)} (h : V2 S w v l) : ∃ a c, v = .slice a l.length c ∧ l.length ≤ 9223372036854775807 := by
 have := h.len
 obtain ⟨a, c, rfl, _⟩ := h
 exact ⟨a, c, rfl, by unfold maxLen at this; omega⟩
theorem ret_bool {a b : Bool} (h : a = b) : Ending.returned (.bool a) = .returned (.bool b) := by rw [h]
/-- Steps: two cells each. -/
def gets (l : List (Int × Int)) (k : Nat) : Int × Int := l.getD k (0, 0)
theorem gets_eq {l : List (Int × Int)} {k : Nat} (h : k < l.length) : gets l k = l[k] := by simp [gets, h]
theorem take_gets {l : List (Int × Int)} {k : Nat} (h : k < l.length) : l.take (k + 1) = l.take k ++ [gets l k] := by
 rw [List.take_succ_eq_append_getElem h, gets_eq h]
def VS (S : Nat → Prop) (w : World) (v : Value) (l : List (Int × Int)) : Prop :=
 ∃ a c, v = .slice a l.length c ∧ l.length ≤ c ∧ c ≤ maxLen ∧ ∀ k, k < l.length → ∃ b off, a = some ⟨b, off, none⟩ ∧ S b ∧ w.cell? ⟨b, off + k * 2, none⟩ = some (.int .i64 (gets l k).1) ∧ w.cell? ⟨b, off + k * 2 + 1, none⟩ = some (.int .i64 (gets l k).2)
theorem VS.mono {S S' : Nat → Prop} {w w' : World} {v : Value} {l : List (Int × Int)} (h : VS S w v l) (hS : ∀ b, S b → b < w.heap.size → S' b) (hk : Keep S w w') : VS S' w' v l := by
 obtain ⟨a, c, rfl, hl, hm, h⟩ := h
 refine ⟨a, c, rfl, hl, hm, fun k hlt => ?_⟩
 obtain ⟨b, off, ha, hb, hc, hd⟩ := h k hlt
 exact ⟨b, off, ha, hS b hb (lt_of_cell hc), cell_keep hc (hk b hb (lt_of_cell hc)), cell_keep hd (hk b hb (lt_of_cell hc))⟩
theorem VS.below {S : Nat → Prop} {w w' : World} {v : Value} {l : List (Int × Int)} (h : VS S w v l) (hb : Below w.heap.size w w') : VS S w' v l :=
 h.mono (fun _ h _ => h) (Below.keep hb fun _ _ h => h)
theorem VS.form {S : Nat → Prop} {w : World} {v : Value} {l : List (Int × Int)} (h : VS S w v l) : ∃ a c, v = .slice a l.length c ∧ l.length ≤ 9223372036854775807 := by
 obtain ⟨a, c, rfl, h1, h2, _⟩ := h
 exact ⟨a, c, rfl, by unfold maxLen at h2; omega⟩
theorem VS.cell {S : Nat → Prop} {w : World} {a : Option Addr} {n c k : Nat} {l : List (Int × Int)} (h : VS S w (.slice a n c) l) (hk : k < l.length) : ∃ b off, a = some ⟨b, off, none⟩ ∧ S b ∧
  w.cell? ⟨b, off + k * 2, none⟩ = some (.int .i64 (gets l k).1) ∧ w.cell? ⟨b, off + k * 2 + 1, none⟩ = some (.int .i64 (gets l k).2) := by
 obtain ⟨a', c', e, hl, hm, h⟩ := h
 simp only [Value.slice.injEq] at e
 obtain ⟨rfl, rfl, rfl⟩ := e
 exact h k hk
theorem bcell {W w1 : World} (hb : Below W.heap.size W w1) : (∀ b o, b < W.heap.size → w1.cell? ⟨b, o, none⟩ = W.cell? ⟨b, o, none⟩) ∧ (∀ b o, b < W.heap.size → w1.frozen? ⟨b, o, none⟩ = W.frozen? ⟨b, o, none⟩) :=
 ⟨fun b o h => hb.cell (p := ⟨b, o, none⟩) h, fun b o h => hb.frozen (p := ⟨b, o, none⟩) h⟩
theorem heap_alloc_self (w : World) (o : Obj) : (w.alloc o).heap[w.heap.size]? = some o := by
 show (w.heap.push o)[w.heap.size]? = _
 simp
/-- A cell of a block that is known whole. -/
theorem cell_of_block {w : World} {b : Nat} {cs : Array Value} {T : TypeId} {fz : Nat × Nat} (h : w.heap[b]? = some (.cells cs T fz)) (off : Nat) : w.cell? ⟨b, off, none⟩ = cs[off]? := by
 simp [World.cell?, h]
theorem heap_below {B b : Nat} {w w' : World} {o : Obj} (h : w.heap[b]? = some o) (hb : Below B w w') (hB : b < B) : w'.heap[b]? = some o := by
 rw [hb.block b hB, h]
end Go.Proofs.YtmjplkbmhdkggaaDoor
namespace Go.Proofs.YtmjplkbmhdkggaaDoor
open Go.ChangeShapes Go.WideShapes Go.ChangeAt Go.RowKit Go.Deep
set_option linter.unusedVariables false
set_option linter.unusedSimpArgs false
section
variable {H : Type} {enc : TypeId × Value → H} {P : Program} {w : World} {held : Bool}
theorem _root_.Go.DataW.Trod.stay_below {P : Program} {enc : TypeId × Value → H} {t : TypeId} (hl : laidOutB P = true) (hr : P.readableRec t = true) (hrow : t < P.types.size) {W W' : World} {v : Value} {d : DataW H} {ps : List MemPlace}
  (h : DataW.Trod enc P W 0 (fun _ => true) true t v d ps) (hb : Below W.heap.size W W') (hlt : ∀ x ∈ ps, x.block < W.heap.size) : DataW.Trod enc P W' 0 (fun b => decide (b < W.heap.size)) true t v d ps :=
 Below.trod hl hr hrow h hb hlt
theorem trodAll_stays {P : Program} {enc : TypeId × Value → H} (hl : laidOutB P = true) {W W' : World} (hB : Below W.heap.size W W') : ∀ {ts : List TypeId} {vs : List Value} {ds : List (DataW H)} {ps : List MemPlace},
  (∀ t ∈ ts, P.readableRec t = true ∧ t < P.types.size) → DataW.TrodAll enc P W 0 (fun _ => true) true ts vs ds ps → (∀ x ∈ ps, x.block < W.heap.size) → DataW.TrodAll enc P W' 0 (fun b => decide (b < W.heap.size)) true ts vs ds ps := by
 intro ts
 induction ts with
 | nil => intro vs ds ps _ h _; obtain ⟨rfl, rfl, rfl⟩ := trodAll_nil h; exact trodAll_mk0
 | cons t ts ih =>
   intro vs ds ps hr h hlt
   obtain ⟨v, vs', d, ds', p, q, rfl, rfl, rfl, h0, h1⟩ := trodAll_cons h
   refine trodAll_cons_mk ?_ (ih (fun u hu => hr u (List.mem_cons_of_mem _ hu)) h1 (fun x hx => hlt x (List.mem_append_right _ hx)))
   exact h0.stay_below hl (hr t (List.mem_cons_self ..)).1 (hr t (List.mem_cons_self ..)).2 hB (fun x hx => hlt x (List.mem_append_left _ hx))
/-- What a law's row asks behind the call, where the call has left alone all that was there. -/
theorem law_post {P : Program} {enc : TypeId × Value → H} {f : Func} {s : ChangeSpec} {W W' : World} {args : Array Value} {ds gs : List (DataW H)} {before : List MemPlace} {tb : TypeId}
  (hW : DataW.Whole enc P f.params.toList s.vars false W args.toList ds gs before) (hv : s.vars = []) (hrt : f.resultTypes = #[tb]) (hb : P.underlying tb = some .bool)
  (hs : s.fn H (ds ++ gs) = { results := [.lit (.bool true)], args := ds }) (hB : Below W.heap.size W W') (hl : laidOutB P = true) (hr0 : (f.params.toList.all fun t => P.readableRec t && decide (t < P.types.size)) = true) :
  s.post enc P f false true false false W args (.bool true) W' := by
 have hr : ∀ t ∈ f.params.toList, P.readableRec t = true ∧ t < P.types.size := fun t ht => by
  have := List.all_eq_true.1 hr0 t ht
  simpa using this
 have hlt := hW.lt
 have hW' := hW
 obtain ⟨p, q, hA, hV, rfl, _, _⟩ := hW
 rw [hv] at hV
 obtain ⟨rfl, rfl⟩ := trodVars_none hV
 refine ⟨ds, [], p ++ [], [], p, [], hW', ?_, ?_, ?_, hB.frame _, fun h => by cases h⟩
 ·rw [hs, hrt]; exact trodAll_mk1 (shut_bool hb true)
 ·rw [hs]; exact trodAll_stays hl hB hr hA (fun x hx => hlt x (List.mem_append_left _ hx))
 ·rw [hs, hv]; rfl
end
end Go.Proofs.YtmjplkbmhdkggaaDoor
namespace Go.Proofs.YtmjplkbmhdkggaaDoor
open Go.RowKit
set_option linter.unusedVariables false
set_option linter.unusedSimpArgs false
def inB (n lo hi : Int) : Bool := decide (lo ≤ n) && decide (n ≤ hi)
theorem inB_iff {n lo hi : Int} : inB n lo hi = true ↔ lo ≤ n ∧ n ≤ hi := by simp [inB]
/-- A valid maker. -/
def isMk (c d s e l : Int) : Bool := inB c 2 6 && inB d 2 8 && inB s 1 (d - 1) && inB e 1 c && inB l 1 (min c d)
end Go.Proofs.YtmjplkbmhdkggaaDoor
namespace Go.Proofs.YtmjplkbmhdkggaaDoor
set_option linter.unusedVariables false
set_option linter.unusedSimpArgs false
structure Mk where
 c : Int
 d : Int
 s : Int
 e : Int
 l : Int
def Mk.ok (m : Mk) : Bool := isMk m.c m.d m.s m.e m.l
def absI (x : Int) : Int := max x (-x)
/-- The run of equal cuts that ends at index k. -/
def runAt (l : List Int) : Nat → Nat
 | 0 => 1
 | k + 1 => if geti l (k + 1) = geti l k then runAt l k + 1 else 1
/-- Is the cut at index i within the step and the run? -/
def fitAt (m : Mk) (l : List Int) (i : Nat) : Bool := decide ((runAt l i : Int) ≤ m.e) && (i == 0 || decide (absI (geti l i - geti l (i - 1)) ≤ m.s))
def begins (m : Mk) (l : List Int) : Bool := (List.range l.length).all (fitAt m l)
end Go.Proofs.YtmjplkbmhdkggaaDoor
namespace Go.Proofs.YtmjplkbmhdkggaaDoor
open Go.RowKit
set_option linter.unusedVariables false
set_option linter.unusedSimpArgs false
theorem heap_setCell_self {w : World} {b off : Nat} {cs : Array Value} {T : TypeId} {fz : Nat × Nat} (h : w.heap[b]? = some (.cells cs T fz)) (u : Value) :
  (w.setCell ⟨b, off, none⟩ u).heap[b]? = some (.cells (cs.setIfInBounds off u) T fz) := by
 simp only [World.setCell, Array.getElem?_modify, if_true, h]
 rfl
theorem heap_setCell_other {w : World} {b off k : Nat} (u : Value) (h : k ≠ b) : (w.setCell ⟨b, off, none⟩ u).heap[k]? = w.heap[k]? := Below.heap_setCell _ _ _ _ h
theorem frozen_of_block {w : World} {b : Nat} {cs : Array Value} {T : TypeId} (h : w.heap[b]? = some (.cells cs T (0, 0))) (off : Nat) : w.frozen? ⟨b, off, none⟩ = false := by
 simp [World.frozen?, h]
theorem lt_of_heap {w : World} {b : Nat} {o : Obj} (h : w.heap[b]? = some o) : b < w.heap.size := (Array.getElem?_eq_some_iff.1 h).1
/-- v holds l, in block b alone, which may be written. -/
def X1 (w : World) (v : Value) (l : List Int) (b : Nat) : Prop :=
 ∃ a c, v = .slice a l.length c ∧ l.length ≤ c ∧ c ≤ maxLen ∧
   (l ≠ [] → ∃ off cs e, a = some ⟨b, off, none⟩ ∧ w.heap[b]? = some (.cells cs e (0, 0)) ∧ ∀ k, k < l.length → cs[off + k]? = some (.int .i64 (geti l k)))
theorem X1.keep {w w' : World} {v : Value} {l : List Int} {b : Nat} (h : X1 w v l b) (hk : l ≠ [] → w'.heap[b]? = w.heap[b]?) : X1 w' v l b := by
 obtain ⟨a, c, rfl, h1, h2, h⟩ := h
 refine ⟨a, c, rfl, h1, h2, fun hn => ?_⟩
 obtain ⟨off, cs, e, ha, hh, hc⟩ := h hn
 exact ⟨off, cs, e, ha, by rw [hk hn, hh], hc⟩
theorem X1.lt {w : World} {v : Value} {l : List Int} {b : Nat} (h : X1 w v l b) (hn : l ≠ []) : b < w.heap.size := by
 obtain ⟨a, c, rfl, h1, h2, h⟩ := h
 obtain ⟨off, cs, e, ha, hh, hc⟩ := h hn
 exact lt_of_heap hh
theorem X1.v1 {w : World} {v : Value} {l : List Int} {b : Nat} {S : Nat → Prop} (h : X1 w v l b) (hS : l ≠ [] → S b) : V1 S w v l := by
 obtain ⟨a, c, rfl, h1, h2, h⟩ := h
 refine ⟨a, c, rfl, h1, h2, fun k hk => ?_⟩
 have hn : l ≠ [] := by intro e; subst e; simp at hk
 obtain ⟨off, cs, e, ha, hh, hc⟩ := h hn
 exact ⟨b, off, _, ha, hS hn, by rw [cell_of_block hh]; exact hc k hk, rfl⟩
/-- v holds ls: the rows in blocks of their own (bk k), the slice of the rows in block ob. -/
def X2 (w : World) (v : Value) (ls : List (List Int)) (ob : Nat) (bk : Nat → Nat) : Prop :=
 ∃ a c, v = .slice a ls.length c ∧ ls.length ≤ c ∧ c ≤ maxLen ∧
   (ls ≠ [] → ∃ off cs e, a = some ⟨ob, off, none⟩ ∧ w.heap[ob]? = some (.cells cs e (0, 0)) ∧ ∀ k, k < ls.length → ∃ rv, cs[off + k]? = some rv ∧ X1 w rv (getl ls k) (bk k)) ∧
   (∀ k, k < ls.length → getl ls k ≠ [] → bk k ≠ ob ∧ ∀ j, j < ls.length → j ≠ k → getl ls j ≠ [] → bk j ≠ bk k)
theorem X2.keep {w w' : World} {v : Value} {ls : List (List Int)} {ob : Nat} {bk : Nat → Nat} (h : X2 w v ls ob bk) (ho : ls ≠ [] → w'.heap[ob]? = w.heap[ob]?) (hk : ∀ k, k < ls.length → getl ls k ≠ [] → w'.heap[bk k]? = w.heap[bk k]?) : X2 w' v ls ob bk := by
 obtain ⟨a, c, rfl, h1, h2, h, hd⟩ := h
 refine ⟨a, c, rfl, h1, h2, fun hn => ?_, hd⟩
 obtain ⟨off, cs, e, ha, hh, hc⟩ := h hn
 refine ⟨off, cs, e, ha, by rw [ho hn, hh], fun k hlt => ?_⟩
 obtain ⟨rv, h3, h4⟩ := hc k hlt
 exact ⟨rv, h3, h4.keep (hk k hlt)⟩
theorem X2.v2 {w : World} {v : Value} {ls : List (List Int)} {ob : Nat} {bk : Nat → Nat} {S : Nat → Prop} (h : X2 w v ls ob bk) (ho : ls ≠ [] → S ob) (hS : ∀ k, k < ls.length → getl ls k ≠ [] → S (bk k)) : V2 S w v ls := by
 obtain ⟨a, c, rfl, h1, h2, h, hd⟩ := h
 refine ⟨a, c, rfl, h1, h2, fun k hk => ?_⟩
 have hn : ls ≠ [] := by intro e; subst e; simp at hk
 obtain ⟨off, cs, e, ha, hh, hc⟩ := h hn
 obtain ⟨rv, h3, h4⟩ := hc k hk
 exact ⟨ob, off, rv, ha, ho hn, by rw [cell_of_block hh]; exact h3, h4.v1 (hS k hk)⟩
theorem X2.lt {w : World} {v : Value} {ls : List (List Int)} {ob : Nat} {bk : Nat → Nat} (h : X2 w v ls ob bk) (hn : ls ≠ []) : ob < w.heap.size ∧ ∀ k, k < ls.length → getl ls k ≠ [] → bk k < w.heap.size := by
 obtain ⟨a, c, rfl, h1, h2, h, hd⟩ := h
 obtain ⟨off, cs, e, ha, hh, hc⟩ := h hn
 refine ⟨lt_of_heap hh, fun k hk hne => ?_⟩
 obtain ⟨rv, h3, h4⟩ := hc k hk
 exact h4.lt hne
/-- Fresh from block B on. -/
def F1 (B : Nat) (w : World) (v : Value) (l : List Int) : Prop := ∃ b, X1 w v l b ∧ (l ≠ [] → B ≤ b)
def F2 (B : Nat) (w : World) (v : Value) (ls : List (List Int)) : Prop := ∃ ob bk, X2 w v ls ob bk ∧ (ls ≠ [] → B ≤ ob) ∧ ∀ k, k < ls.length → getl ls k ≠ [] → B ≤ bk k
theorem F1.v1 {B : Nat} {w : World} {v : Value} {l : List Int} (h : F1 B w v l) : V1 (fun b => B ≤ b) w v l := by
 obtain ⟨b, h1, h2⟩ := h
 exact h1.v1 h2
theorem F2.v2 {B : Nat} {w : World} {v : Value} {ls : List (List Int)} (h : F2 B w v ls) : V2 (fun b => B ≤ b) w v ls := by
 obtain ⟨ob, bk, h1, h2, h3⟩ := h
 exact h1.v2 h2 h3
theorem F1.mono {B B' : Nat} {w : World} {v : Value} {l : List Int} (h : F1 B w v l) (hb : B' ≤ B) : F1 B' w v l := by
 obtain ⟨c, h1, h2⟩ := h
 exact ⟨c, h1, fun hn => by have := h2 hn; omega⟩
theorem F2.mono {B B' : Nat} {w : World} {v : Value} {ls : List (List Int)} (h : F2 B w v ls) (hb : B' ≤ B) : F2 B' w v ls := by
 obtain ⟨ob, bk, h1, h2, h3⟩ := h
 exact ⟨ob, bk, h1, fun hn => by have := h2 hn; omega, fun k hk hne => by have := h3 k hk hne; omega⟩
theorem F1.below {B : Nat} {w w' : World} {v : Value} {l : List Int} (h : F1 B w v l) (hb : Below w.heap.size w w') : F1 B w' v l := by
 obtain ⟨b, h1, h2⟩ := h
 exact ⟨b, h1.keep fun hn => hb.block b (h1.lt hn), h2⟩
theorem F2.below {B : Nat} {w w' : World} {v : Value} {ls : List (List Int)} (h : F2 B w v ls) (hb : Below w.heap.size w w') : F2 B w' v ls := by
 obtain ⟨ob, bk, h1, h2, h3⟩ := h
 refine ⟨ob, bk, h1.keep (fun hn => hb.block ob (h1.lt hn).1) (fun k hk hne => hb.block _ ((h1.lt ?_).2 k hk hne)), h2, h3⟩
 intro e; subst e; simp at hk
/-- An append onto a slice that the call owns, of m elements: where the result lies. -/
theorem run_append_blk {P : Program} (w : World) (base : Nat) (t ty e : TypeId) (z : Value) (size bytes : Nat) (ht : P.underlying t = some (.slice e)) (h2 : (P.info? e).map (fun i => (i.zero, i.size, i.bytes)) = some (some z, size, bytes))
  (hzs : z.cells.size = size) (hsz : 0 < size) (v : Value) (n : Nat) (xs : List Value) (hown : w.ownsRow base e size v n xs)
  (a : Addr) (m c : Nat) (news : List Value) (hl : news.length = m * size) (hnews : ∀ j u, news[j]? = some u → w.cell? (a.add j) = some u) (h1 : ∀ u ∈ news, u.oneCell' = true)
  (h63 : n + m ≤ maxLen) (hbytes : (n + m) * bytes ≤ 140737488355328) (hbase : base ≤ w.heap.size) :
  ∃ v' w', (Builtin.append_ #[t, t] ty #[v, .slice (some a) m c]).run P w = .ok v' w' ∧ w'.ownsRow base e size v' (n + m) (xs ++ news) ∧ w.grownBy w' v.ownBlock ∧ (v'.ownBlock = v.ownBlock ∨ v'.ownBlock = some w.heap.size) := by
 obtain ⟨i, hi, hz, hs, hb⟩ := info_parts h2
 obtain ⟨v', w', hr, ho, hg, hn⟩ := run_append_own (P := P) w base t ty e i z size bytes ht hi hz hs hb hzs hsz v n xs hown a m c news hl hnews h1 h63 hbytes hbase
 refine ⟨v', w', hr, ho, hg, ?_⟩
 have h63' : n + m ≤ 9223372036854775807 := by simp only [maxLen] at h63; omega
 subst hs
 subst hb
 rcases hown.2 with ⟨hv, hn0⟩ | ⟨g, cap, cur, hv, hbg, hgg, hnc, hcm, hcs, htake⟩
 ·subst hv
  subst hn0
  by_cases hm : m = 0
  ·rw [hn.2 ⟨rfl, hm⟩]; exact .inl rfl
  ·have hr2 := run_append_nil (P := P) w t ty e i z ht hi hz a m c news hl hnews (by omega) (by omega) (by have hb := hbytes; simp only [Nat.zero_add] at hb; omega)
   rw [hr2] at hr
   injection hr with e1 e2
   rw [← e1]; exact .inr rfl
 ·subst hv
  by_cases hroom : n + m ≤ cap
  ·obtain ⟨w2, hr2, _, _⟩ := run_append_fits (P := P) w base t ty e i i.size ht hi rfl g n cap xs hown a m c news hl hnews h1 hroom
   rw [hr2] at hr
   injection hr with e1 e2
   rw [← e1]; exact .inl rfl
  ·have holds : ∀ j u, xs[j]? = some u → w.cell? ((⟨g, 0, none⟩ : Addr).add j) = some u := hown.cells (g := g) rfl
   have hr2 := run_append_grow (P := P) w t ty e i z ht hi hz ⟨g, 0, none⟩ n cap xs hown.1 holds a m c news hl hnews (by omega) (by omega) (growslice_fits (by omega) hbytes)
   rw [hr2] at hr
   injection hr with e1 e2
   rw [← e1]; exact .inr rfl
theorem wp_app {P : Program} {w : World} {ops : Array Oper} {rest : List Oper} {o : Oper} {a : Act} {Q : Exit → Act → World → Prop} (hgd : o.guard = none) (s x : Operand) (t : TypeId)
  (ho : o.op = .call { callee := .builtin .append, args := #[s, x], argTypes := #[t, t] })
  (base : Nat) (e : TypeId) (z : Value) (size bytes : Nat) (ht : P.underlying t = some (.slice e)) (h2 : (P.info? e).map (fun i => (i.zero, i.size, i.bytes)) = some (some z, size, bytes)) (hzs : z.cells.size = size) (hsz : 0 < size)
  (v : Value) (n : Nat) (xs : List Value) (hs : a.eval s = v) (hown : w.ownsRow base e size v n xs)
  (ad : Addr) (m c : Nat) (news : List Value) (hx : a.eval x = .slice (some ad) m c) (hl : news.length = m * size) (hnews : ∀ j u, news[j]? = some u → w.cell? (ad.add j) = some u) (h1 : ∀ u ∈ news, u.oneCell' = true)
  (h63 : n + m ≤ maxLen) (hbytes : (n + m) * bytes ≤ 140737488355328) (hbase : base ≤ w.heap.size)
  (h : ∀ v' w', w'.ownsRow base e size v' (n + m) (xs ++ news) → w.grownBy w' v.ownBlock → (v'.ownBlock = v.ownBlock ∨ v'.ownBlock = some w.heap.size) → wpList P ops Q rest (a.put o.dst v') w') : wpList P ops Q (o :: rest) a w :=
 wpList_plain hgd fun _ hK => by
  obtain ⟨v', w', hr, h2', h3, h4⟩ := run_append_blk (P := P) w base t o.type e z size bytes ht h2 hzs hsz v n xs hown ad m c news hl hnews h1 h63 hbytes hbase
  unfold Oper.wp execOp
  simp only [ho, resolve, invoke, builtin, Sem.run_bind, Sem.run_pure, Result.andThen_ok, List.map_toArray, List.map_cons, List.map_nil, hs, hx, hr]
  exact hK _ _ (h v' w' h2' h3 h4)
/-- 'append(out, x)', x in one cell, just laid in a block of its own. -/
theorem wp_app1 {P : Program} (w0 : World) {ops : Array Oper} {rest : List Oper} {o : Oper} {a : Act} {Q : Exit → Act → World → Prop} (hgd : o.guard = none) (s x : Operand) (t : TypeId)
  (ho : o.op = .call { callee := .builtin .append, args := #[s, x], argTypes := #[t, t] })
  (base : Nat) (e : TypeId) (z : Value) (bytes : Nat) (ht : P.underlying t = some (.slice e)) (h2 : (P.info? e).map (fun i => (i.zero, i.size, i.bytes)) = some (some z, 1, bytes)) (hzs : z.cells.size = 1)
  (v : Value) (n : Nat) (xs : List Value) (hs : a.eval s = v) (hown : w0.ownsRow base e 1 v n xs) (nv : Value) (e2 : TypeId) (hx : a.eval x = .slice (some ⟨w0.heap.size, 0, none⟩) 1 1) (hone : nv.oneCell' = true)
  (hn : n + 1 ≤ 1000000000) (hby : bytes ≤ 1000) (hbase : base ≤ w0.heap.size)
  (h : ∀ v' w', w'.ownsRow base e 1 v' (n + 1) (xs ++ [nv]) → w0.grownBy w' v.ownBlock → (v'.ownBlock = v.ownBlock ∨ ∃ g, v'.ownBlock = some g ∧ w0.heap.size ≤ g) → Below base w0 w' → wpList P ops Q rest (a.put o.dst v') w') :
  wpList P ops Q (o :: rest) a (w0.alloc (.cells #[nv] e2)) := by
 have hown' := hown.alloc (.cells #[nv] e2)
 have hlt := hown.lt
 refine wp_app hgd s x t ho base e z 1 bytes ht h2 hzs (by omega) v n xs hs hown' ⟨w0.heap.size, 0, none⟩ 1 1 [nv] hx rfl ?_ (by simpa using hone) (by unfold maxLen; omega) ?_ (by simp; omega) ?_
 ·intro j u hj
  cases j with
  | zero =>
    simp at hj
    subst hj
    rw [Addr.add_zero', cell_of_block (heap_alloc_self _ _)]; rfl
  | succ j => simp at hj
 ·have : (n + 1) * bytes ≤ 1000000000 * 1000 := Nat.mul_le_mul hn hby
  omega
 ·intro v' w' ho' hg hblk
  have hg0 : w0.grownBy w' v.ownBlock := ⟨hg.os, hg.tape, hg.output, by have := hg.size; simp at this; omega, fun k hk hne => by
   rw [hg.block k (by simp; omega) hne]; exact Below.heap_alloc _ _ _ hk⟩
  refine h v' w' ho' hg0 ?_ ((Below.refl _ _).grown hg0 hbase (fun k hk => (hlt k hk).1))
  rcases hblk with hb | hb
  ·exact .inl hb
  ·exact .inr ⟨_, hb, by simp⟩
theorem own_lit0 (w : World) (base : Nat) (e : TypeId) (size : Nat) (hb : base ≤ w.heap.size) : (w.alloc (.cells #[] e)).ownsRow base e size (.slice (some ⟨w.heap.size, 0, none⟩) 0 0) 0 [] :=
 World.ownsRow_lit w #[] 0 hb (Nat.zero_le _) (by simp)
theorem box_facts (W : World) (cs : Array Value) (T : TypeId) : ∃ W1, W1 = W.alloc (.cells cs T) ∧ Below W.heap.size W W1 ∧ W.heap.size < W1.heap.size ∧ Hid (W1.heap.size = W.heap.size + 1) ∧ (∀ o, W1.cell? ⟨W.heap.size, o, none⟩ = cs[o]?) ∧ W1.heap[W.heap.size]? = some (.cells cs T (0, 0)) :=
 ⟨_, rfl, (Below.refl _ _).alloc (Nat.le_refl _) _, by simp, Lib.hid (by simp), fun o => cell_of_block (heap_alloc_self _ _) o, heap_alloc_self _ _⟩
theorem inf_int : (Tryd.prog.info? 2).map (fun i => (i.zero, i.size, i.bytes)) = some (some (.int .i64 0), 1, 8) := by kernel_rfl
/-- How far a copy of rows has come. -/
structure CopyRel (B : Nat) (w : World) (cs : Array Value) (ls : List (List Int)) (k : Nat) (bk : Nat → Nat) : Prop where
 heap : w.heap[B]? = some (.cells cs 50 (0, 0))
 size : cs.size = ls.length
 rows : ∀ j, j < k → ∃ rv, cs[j]? = some rv ∧ X1 w rv (getl ls j) (bk j)
 at_ : ∀ j, j < k → B < bk j ∧ bk j < w.heap.size
 inc : ∀ i j, i < j → j < k → bk i < bk j
theorem CopyRel.step {B : Nat} {w w1 w2 : World} {cs : Array Value} {ls : List (List Int)} {k : Nat} {bk : Nat → Nat} {rv : Value} (h : CopyRel B w cs ls k bk) (hk : k < ls.length) (hB : B < w.heap.size)
  (hb : Below w.heap.size w w1) (hx : X1 w1 rv (getl ls k) w.heap.size) (hsz : w.heap.size < w1.heap.size) (hw2 : w2 = w1.setCell ⟨B, k, none⟩ rv) :
  CopyRel B w2 (cs.setIfInBounds k rv) ls (k + 1) (fun j => if j < k then bk j else w.heap.size) := by
 subst hw2
 have h1 : w1.heap[B]? = some (.cells cs 50 (0, 0)) := heap_below h.heap hb hB
 have hs2 : (w1.setCell ⟨B, k, none⟩ rv).heap.size = w1.heap.size := by simp [World.setCell]
 refine ⟨heap_setCell_self h1 rv, by simp [h.size], fun j hj => ?_, fun j hj => ?_, fun i j hij hj => ?_⟩
 ·rw [Array.getElem?_setIfInBounds]
  by_cases e : k = j
  ·subst e
   refine ⟨rv, by simp [h.size, hk], ?_⟩
   rw [if_neg (by omega)]
   exact hx.keep fun _ => heap_setCell_other _ (by omega)
  ·rw [if_neg e, if_pos (by omega : j < k)]
   obtain ⟨u, hu, hxu⟩ := h.rows j (by omega)
   have ha := h.at_ j (by omega)
   exact ⟨u, hu, (hxu.keep fun _ => hb.block _ ha.2).keep fun _ => heap_setCell_other _ (by omega)⟩
 ·rw [hs2]
  split
  ·have ha := h.at_ j (by omega); omega
  ·omega
 ·have hjk : j ≤ k := by omega
  simp only [show i < k from by omega, if_true]
  split
  ·exact h.inc i j hij (by omega)
  ·exact (h.at_ i (by omega)).2
theorem within_any (n lo hi : Int) (w : World) :
  Calls Tryd.prog 18 #[.int .i64 n, .int .i64 lo, .int .i64 hi] w fun e w' => e = .returned (.bool (inB n lo hi)) ∧ w = w' := by
 go_enter Tryd.func18, Tryd.ntmps18
 go_wp2
 all_goals go_ret
 all_goals refine ⟨?_, rfl⟩
 all_goals simp [inB]
 all_goals omega
theorem l01In_any (n lo hi : Int) (w : World) :
  Calls Tryd.prog 27 #[.int .i64 n, .int .i64 lo, .int .i64 hi] w fun e w' => e = .returned (.bool (inB n lo hi)) ∧ w = w' := by
 go_enter Tryd.func27, Tryd.ntmps27
 go_wp2
 all_goals go_ret
 all_goals refine ⟨?_, rfl⟩
 all_goals simp [inB]
 all_goals omega
theorem within_b (n lo hi : Int) (w : World) (r : Bool) (hr : inB n lo hi = r) :
  Calls Tryd.prog 18 #[.int .i64 n, .int .i64 lo, .int .i64 hi] w fun e w' => e = .returned (.bool r) ∧ w = w' := by subst hr; exact within_any _ _ _ _
theorem l01In_b (n lo hi : Int) (w : World) (r : Bool) (hr : inB n lo hi = r) :
  Calls Tryd.prog 27 #[.int .i64 n, .int .i64 lo, .int .i64 hi] w fun e w' => e = .returned (.bool r) ∧ w = w' := by subst hr; exact l01In_any _ _ _ _
/-- From w to w' only blocks of F may turn, and new blocks may come. -/
structure Chg (F : Nat → Prop) (w w' : World) : Prop where
 os : w'.os = w.os
 tape : w'.tape = w.tape
 output : w'.output = w.output
 size : w.heap.size ≤ w'.heap.size
 block : ∀ k, k < w.heap.size → ¬ F k → w'.heap[k]? = w.heap[k]?
theorem Chg.refl (F : Nat → Prop) (w : World) : Chg F w w := ⟨rfl, rfl, rfl, Nat.le_refl _, fun _ _ _ => rfl⟩
theorem Chg.trans {F G : Nat → Prop} {a b c : World} (h : Chg F a b) (k : Chg G b c) (hs : ∀ i, G i → F i ∨ a.heap.size ≤ i) : Chg F a c :=
 ⟨k.os.trans h.os, k.tape.trans h.tape, k.output.trans h.output, Nat.le_trans h.size k.size, fun i hi hf => by
  rw [k.block i (Nat.lt_of_lt_of_le hi h.size) (fun hg => by rcases hs i hg with h1 | h1; exact hf h1; omega), h.block i hi hf]⟩
theorem Chg.of_below {F : Nat → Prop} {a b : World} (h : Below a.heap.size a b) : Chg F a b := ⟨h.os, h.tape, h.output, h.size, fun k hk _ => h.block k hk⟩
theorem Chg.then_below {F : Nat → Prop} {a b c : World} (h : Chg F a b) (k : Below b.heap.size b c) : Chg F a c := h.trans (Chg.of_below (F := fun _ => False) k) (fun _ h => h.elim)
theorem Chg.to_below {F : Nat → Prop} {B : Nat} {a b : World} (h : Chg F a b) (hF : ∀ i, F i → B ≤ i) (hB : B ≤ a.heap.size) : Below B a b :=
 ⟨h.os, h.tape, h.output, h.size, fun k hk => h.block k (by omega) (fun hf => by have := hF k hf; omega)⟩
theorem Chg.mono {F G : Nat → Prop} {a b : World} (h : Chg F a b) (hs : ∀ i, F i → G i) : Chg G a b := ⟨h.os, h.tape, h.output, h.size, fun k hk hf => h.block k hk (fun x => hf (hs k x))⟩
theorem Chg.alloc {F : Nat → Prop} {a w : World} (h : Chg F a w) (o : Obj) : Chg F a (w.alloc o) :=
 h.then_below ((Below.refl _ _).alloc (Nat.le_refl _) _)
theorem Chg.drew {F : Nat → Prop} {a w : World} (h : Chg F a w) : Chg F a w.drew := ⟨h.os, h.tape, h.output, h.size, h.block⟩
theorem Chg.setCell {F : Nat → Prop} {a w : World} (h : Chg F a w) {p : Addr} (hp : F p.block ∨ a.heap.size ≤ p.block) (u : Value) : Chg F a (w.setCell p u) :=
 h.trans (G := fun i => i = p.block) ⟨rfl, rfl, rfl, by simp [World.setCell], fun k hk hf => Below.heap_setCell _ _ _ _ hf⟩ (fun i hi => by rw [hi]; exact hp)
theorem Chg.grown {F : Nat → Prop} {a w w' : World} {row : Option Nat} (h : Chg F a w) (hg : w.grownBy w' row) (hr : ∀ k, row = some k → F k ∨ a.heap.size ≤ k) : Chg F a w' :=
 h.trans (G := fun i => row = some i) ⟨hg.os, hg.tape, hg.output, hg.size, fun k hk hf => hg.block k hk (fun e => hf e.symm)⟩ hr
theorem Chg.keep {F S : Nat → Prop} {a w : World} (h : Chg F a w) (hs : ∀ b, S b → ¬ F b) : Keep S a w := fun b hb hlt => h.block b hlt (hs b hb)
theorem Chg.cell {F : Nat → Prop} {a w : World} (h : Chg F a w) {b : Nat} (hb : b < a.heap.size) (hf : ¬ F b) (o : Nat) : w.cell? ⟨b, o, none⟩ = a.cell? ⟨b, o, none⟩ :=
 World.cell?_of_block (w := a) (a := ⟨b, o, none⟩) (h.block b hb hf)
theorem Chg.frozen {F : Nat → Prop} {a w : World} (h : Chg F a w) {b : Nat} (hb : b < a.heap.size) (hf : ¬ F b) (o : Nat) : w.frozen? ⟨b, o, none⟩ = a.frozen? ⟨b, o, none⟩ :=
 World.frozen?_of_block (w := a) (a := ⟨b, o, none⟩) (h.block b hb hf)
theorem Chg.heap {F : Nat → Prop} {a w : World} {b : Nat} {o : Obj} (h : Chg F a w) (ha : a.heap[b]? = some o) (hf : ¬ F b) : w.heap[b]? = some o := by
 rw [h.block b (lt_of_heap ha) hf, ha]
/-- What is owned stays owned while other blocks turn. -/
theorem own_chg {F : Nat → Prop} {w w' : World} {base : Nat} {e : TypeId} {v : Value} {n : Nat} {xs : List Value} (h : w.ownsRow base e 1 v n xs) (hc : Chg F w w') (hf : ∀ g, v.ownBlock = some g → ¬ F g) : w'.ownsRow base e 1 v n xs := by
 refine ⟨h.1, ?_⟩
 rcases h.2 with h0 | ⟨g, cap, cur, rfl, h1, h2, h3⟩
 ·exact .inl h0
 ·exact .inr ⟨g, cap, cur, rfl, h1, hc.heap h2 (hf g rfl), h3⟩
theorem own_form {w : World} {B : Nat} {e : TypeId} {v : Value} {n : Nat} {xs : List Value} (h : w.ownsRow B e 1 v n xs) : ∃ a c, v = .slice a n c ∧ n ≤ c ∧ c ≤ maxLen := by
 rcases h.2 with ⟨rfl, h0⟩ | ⟨g, cap, cur, rfl, h1, h2, h3, h4, _⟩
 ·subst h0; exact ⟨_, _, rfl, Nat.le_refl _, Nat.zero_le _⟩
 ·exact ⟨_, _, rfl, h3, h4⟩
def marks (n : Nat) (k : Int) : List Int := (List.range n).map fun i => k + (i : Nat)
theorem rows_ne {ls : List (List Int)} {k : Nat} (h : k < ls.length) : ls ≠ [] := by intro e; subst e; simp at h
/-- Values of rows ls. -/
def RowVs (S : Nat → Prop) (w : World) (vs : List Value) (ls : List (List Int)) : Prop :=
 vs.length = ls.length ∧ ∀ k, k < ls.length → ∃ ev, vs[k]? = some ev ∧ V1 S w ev (getl ls k)
theorem RowVs.nil {S : Nat → Prop} {w : World} : RowVs S w [] [] := ⟨rfl, fun k hk => by simp at hk⟩
theorem RowVs.below {S : Nat → Prop} {w w' : World} {vs : List Value} {ls : List (List Int)} (h : RowVs S w vs ls) (hb : Below w.heap.size w w') : RowVs S w' vs ls :=
 ⟨h.1, fun k hk => by obtain ⟨ev, h1, h2⟩ := h.2 k hk; exact ⟨ev, h1, h2.below hb⟩⟩
theorem RowVs.keep {S : Nat → Prop} {w w' : World} {vs : List Value} {ls : List (List Int)} (h : RowVs S w vs ls) (hb : Keep S w w') : RowVs S w' vs ls :=
 ⟨h.1, fun k hk => by obtain ⟨ev, h1, h2⟩ := h.2 k hk; exact ⟨ev, h1, h2.mono (fun _ h _ => h) hb⟩⟩
theorem V1.old {S : Nat → Prop} {w : World} {v : Value} {l : List Int} (h : V1 S w v l) : V1 (fun b => b < w.heap.size) w v l := h.mono (fun _ _ h => h) (fun _ _ _ => rfl)
theorem V2.old {S : Nat → Prop} {w : World} {v : Value} {ls : List (List Int)} (h : V2 S w v ls) : V2 (fun b => b < w.heap.size) w v ls := h.mono (fun _ _ h => h) (fun _ _ _ => rfl)
theorem V1.any {S : Nat → Prop} {w : World} {v : Value} {l : List Int} (h : V1 S w v l) : V1 (fun _ => True) w v l := h.mono (fun _ _ _ => trivial) (fun _ _ _ => rfl)
theorem V2.any {S : Nat → Prop} {w : World} {v : Value} {ls : List (List Int)} (h : V2 S w v ls) : V2 (fun _ => True) w v ls := h.mono (fun _ _ _ => trivial) (fun _ _ _ => rfl)
def Rg (lo hi : Nat) : Nat → Prop := fun b => lo ≤ b ∧ b < hi
def XR1 (lo hi : Nat) (w : World) (v : Value) (l : List Int) : Prop := ∃ b, X1 w v l b ∧ (l ≠ [] → lo ≤ b ∧ b < hi)
def XR2 (lo hi : Nat) (w : World) (v : Value) (ls : List (List Int)) : Prop :=
 ∃ ob bk, X2 w v ls ob bk ∧ (ls ≠ [] → lo ≤ ob ∧ ob < hi) ∧ ∀ k, k < ls.length → getl ls k ≠ [] → lo ≤ bk k ∧ bk k < hi
section
variable {lo hi lo' hi' s B : Nat} {w w' : World} {v : Value} {l : List Int} {ls : List (List Int)}
theorem XR1.below (h : XR1 lo hi w v l) (hb : Below w.heap.size w w') : XR1 lo hi w' v l := by
 obtain ⟨b, h1, h2⟩ := h
 exact ⟨b, h1.keep (fun hn => hb.block _ (h1.lt hn)), h2⟩
theorem XR2.below (h : XR2 lo hi w v ls) (hb : Below w.heap.size w w') : XR2 lo hi w' v ls := by
 obtain ⟨ob, bk, h1, h2, h3⟩ := h
 exact ⟨ob, bk, h1.keep (fun hn => hb.block _ (h1.lt hn).1) (fun k hk hn => hb.block _ ((h1.lt (rows_ne hk)).2 k hk hn)), h2, h3⟩
theorem V1.chgR (h : V1 (fun b => b < s) w v l) (hc : Chg (Rg lo hi) w w') (hs : s ≤ lo) : V1 (fun b => b < s) w' v l :=
 h.mono (fun _ h _ => h) (hc.keep fun b hb hf => by have h1 : b < s := hb; obtain ⟨g1, g2⟩ := hf; omega)
theorem V2.chgR (h : V2 (fun b => b < s) w v ls) (hc : Chg (Rg lo hi) w w') (hs : s ≤ lo) : V2 (fun b => b < s) w' v ls :=
 h.mono (fun _ h _ => h) (hc.keep fun b hb hf => by have h1 : b < s := hb; obtain ⟨g1, g2⟩ := hf; omega)
theorem Chg.belowR (h : Chg (Rg lo hi) w w') {w0 : World} (hb : Below B w0 w) (hB : B ≤ lo) (hs : B ≤ w0.heap.size) : Below B w0 w' :=
 hb.trans (h.to_below (fun i hi => by obtain ⟨g1, g2⟩ := hi; omega) (by have := hb.size; omega))
theorem XR1.v1 (h : XR1 lo hi w v l) : V1 (fun _ => True) w v l := by
 obtain ⟨b, h1, _⟩ := h; exact h1.v1 (fun _ => trivial)
theorem XR2.v2 (h : XR2 lo hi w v ls) : V2 (fun _ => True) w v ls := by
 obtain ⟨ob, bk, h1, _⟩ := h; exact h1.v2 (fun _ => trivial) (fun _ _ _ => trivial)
theorem XR1.form (h : XR1 lo hi w v l) : ∃ a c, v = .slice a l.length c := by
 obtain ⟨b, ⟨a, c, rfl, _⟩, _⟩ := h; exact ⟨a, c, rfl⟩
theorem XR2.form (h : XR2 lo hi w v ls) : ∃ a c, v = .slice a ls.length c := by
 obtain ⟨ob, bk, ⟨a, c, rfl, _⟩, _⟩ := h; exact ⟨a, c, rfl⟩
theorem F1.any (h : F1 B w v l) : V1 (fun _ => True) w v l := h.v1.any
theorem F2.any (h : F2 B w v ls) : V2 (fun _ => True) w v ls := h.v2.any
end
def openS (x : Int × Int) : Bool := x.1 == -1 && x.2 == 0
def eqS (x y : Int × Int) : Bool := x.1 == y.1 && x.2 == y.2
theorem eqS_iff {x y : Int × Int} : eqS x y = true ↔ x = y := by
 obtain ⟨a, b⟩ := x; obtain ⟨c, d⟩ := y; simp [eqS]
theorem isOpenStep_any (x : Int × Int) (W : World) :
  Calls Tryd.prog 17 #[.agg #[.int .i64 x.1, .int .i64 x.2]] W fun e' w' => e' = .returned (.bool (openS x)) ∧ Below W.heap.size W w' := by
 obtain ⟨k, d⟩ := x
 go_enter Tryd.func17, Tryd.ntmps17
 go_wp2
 all_goals go_ret
 all_goals exact ⟨by simp_all [openS], by (repeat (first | (with_reducible refine Below.setCell ?_ ?_ _) | (with_reducible refine Below.alloc ?_ ?_ _) | (with_reducible refine Below.drew ?_) | (with_reducible refine below_drewN ?_ _) | (with_reducible exact Below.refl _ _) | (with_reducible assumption) | (with_reducible refine Below.trans ?_ (Below.mono (by with_reducible assumption) ?_)) | go_size))⟩
theorem l19Open_any (x : Int × Int) (W : World) :
  Calls Tryd.prog 26 #[.agg #[.int .i64 x.1, .int .i64 x.2]] W fun e' w' => e' = .returned (.bool (openS x)) ∧ Below W.heap.size W w' := by
 obtain ⟨k, d⟩ := x
 go_enter Tryd.func26, Tryd.ntmps26
 go_wp2
 all_goals go_ret
 all_goals exact ⟨by simp_all [openS], by (repeat (first | (with_reducible refine Below.setCell ?_ ?_ _) | (with_reducible refine Below.alloc ?_ ?_ _) | (with_reducible refine Below.drew ?_) | (with_reducible refine below_drewN ?_ _) | (with_reducible exact Below.refl _ _) | (with_reducible assumption) | (with_reducible refine Below.trans ?_ (Below.mono (by with_reducible assumption) ?_)) | go_size))⟩
theorem eqStep_any (x y : Int × Int) (W : World) :
  Calls Tryd.prog 21 #[.agg #[.int .i64 x.1, .int .i64 x.2], .agg #[.int .i64 y.1, .int .i64 y.2]] W fun e' w' => e' = .returned (.bool (eqS x y)) ∧ Below W.heap.size W w' := by
 obtain ⟨k, d⟩ := x
 obtain ⟨k', d'⟩ := y
 go_enter Tryd.func21, Tryd.ntmps21
 go_wp2
 all_goals go_ret
 all_goals exact ⟨by simp_all [eqS], by (repeat (first | (with_reducible refine Below.setCell ?_ ?_ _) | (with_reducible refine Below.alloc ?_ ?_ _) | (with_reducible refine Below.drew ?_) | (with_reducible refine below_drewN ?_ _) | (with_reducible exact Below.refl _ _) | (with_reducible assumption) | (with_reducible refine Below.trans ?_ (Below.mono (by with_reducible assumption) ?_)) | go_size))⟩
theorem isOpenStep_b (x : Int × Int) (W : World) (r : Bool) (hr : openS x = r) :
  Calls Tryd.prog 17 #[.agg #[.int .i64 x.1, .int .i64 x.2]] W fun e' w' => e' = .returned (.bool r) ∧ Below W.heap.size W w' := by subst hr; exact isOpenStep_any _ _
theorem l19Open_b (x : Int × Int) (W : World) (r : Bool) (hr : openS x = r) :
  Calls Tryd.prog 26 #[.agg #[.int .i64 x.1, .int .i64 x.2]] W fun e' w' => e' = .returned (.bool r) ∧ Below W.heap.size W w' := by subst hr; exact l19Open_any _ _
theorem inf_step : (Tryd.prog.info? 37).map (fun i => (i.zero, i.size, i.bytes)) = some (some (.agg #[.int .i64 0, .int .i64 0]), 2, 16) := by kernel_rfl
/-- v holds steps, in block b alone. -/
def XS (w : World) (v : Value) (l : List (Int × Int)) (b : Nat) : Prop :=
 ∃ a c, v = .slice a l.length c ∧ l.length ≤ c ∧ c ≤ maxLen ∧
   (l ≠ [] → ∃ off cs e, a = some ⟨b, off, none⟩ ∧ w.heap[b]? = some (.cells cs e (0, 0)) ∧ ∀ k, k < l.length → cs[off + k * 2]? = some (.int .i64 (gets l k).1) ∧ cs[off + k * 2 + 1]? = some (.int .i64 (gets l k).2))
theorem XS.keep {w w' : World} {v : Value} {l : List (Int × Int)} {b : Nat} (h : XS w v l b) (hk : l ≠ [] → w'.heap[b]? = w.heap[b]?) : XS w' v l b := by
 obtain ⟨a, c, rfl, h1, h2, h⟩ := h
 refine ⟨a, c, rfl, h1, h2, fun hn => ?_⟩
 obtain ⟨off, cs, e, ha, hh, hc⟩ := h hn
 exact ⟨off, cs, e, ha, by rw [hk hn, hh], hc⟩
theorem XS.lt {w : World} {v : Value} {l : List (Int × Int)} {b : Nat} (h : XS w v l b) (hn : l ≠ []) : b < w.heap.size := by
 obtain ⟨a, c, rfl, h1, h2, h⟩ := h
 obtain ⟨off, cs, e, ha, hh, hc⟩ := h hn
 exact lt_of_heap hh
theorem XS.vs {w : World} {v : Value} {l : List (Int × Int)} {b : Nat} {S : Nat → Prop} (h : XS w v l b) (hS : l ≠ [] → S b) : VS S w v l := by
 obtain ⟨a, c, rfl, h1, h2, h⟩ := h
 refine ⟨a, c, rfl, h1, h2, fun k hk => ?_⟩
 have hn : l ≠ [] := by intro e; subst e; simp at hk
 obtain ⟨off, cs, e, ha, hh, hc⟩ := h hn
 exact ⟨b, off, ha, hS hn, by rw [cell_of_block hh]; exact (hc k hk).1, by rw [cell_of_block hh]; exact (hc k hk).2⟩
theorem eqStep_b (x y : Int × Int) (W : World) (r : Bool) (hr : eqS x y = r) :
  Calls Tryd.prog 21 #[.agg #[.int .i64 x.1, .int .i64 x.2], .agg #[.int .i64 y.1, .int .i64 y.2]] W fun e' w' => e' = .returned (.bool r) ∧ Below W.heap.size W w' := by subst hr; exact eqStep_any _ _ _
set_option maxRecDepth 100000 in
theorem eqStepS_any {S S' : Nat → Prop} (va vb : Value) (a b : List (Int × Int)) (W : World) (ha : VS S W va a) (hb : VS S' W vb b) :
  Calls Tryd.prog 9 #[va, vb] W fun e' w' => e' = .returned (.bool (decide (a = b))) ∧ Below W.heap.size W w' := by
 have hA := ha
 have hB := hb
 obtain ⟨pa, ca, rfl, hma⟩ := ha.form
 obtain ⟨pb, cb, rfl, hmb⟩ := hb.form
 by_cases hl : a.length = b.length
 ·have hle : ((a.length : Int) == (b.length : Int)) = true := by simp; omega
  have hle2 : ((a.length : Int) != (b.length : Int)) = false := by simp; omega
  have Hl := Lib.hid hl; clear hl
  go_enter Tryd.func9, Tryd.ntmps9
  go_wp2_with fail
  go_loopw [5] (fun i wr => ∃ k : Nat, k ≤ a.length ∧ i = .int .i64 k ∧ a.take k = b.take k ∧ Below W.heap.size W wr) (fun i _ => a.length - (intOf i).toNat)
  case atStart => exact ⟨0, Nat.zero_le _, rfl, rfl, Below.refl _ _⟩
  case round =>
   obtain ⟨k, hk, rfl, hpre, hBw⟩ := hrel
   have Hpre := Lib.hid hpre; clear hpre
   have hzW := hBw.size
   by_cases hkk : k < a.length
   ·have hkb : k < b.length := by rw [← Hl.out]; exact hkk
    obtain ⟨b1, off1, rfl, _, hc1, hc1'⟩ := (hA.below hBw).cell hkk
    obtain ⟨b2, off2, rfl, _, hc2, hc2'⟩ := (hB.below hBw).cell hkb
    cases he : eqS (gets a k) (gets b k)
    ·have hne : decide (a = b) = false := decide_eq_false (fun e => by
      have : eqS (gets a k) (gets b k) = true := eqS_iff.2 (by rw [e])
      rw [he] at this; cases this)
     have Hne := Lib.hid hne; clear hne
     have He := Lib.hid he; clear he
     go_wp2_with fail
     go_still_tail 8, (by kernel_rfl)
     change wpList _ _ _ _ _ wr.drew
     go_wp2_with (go_at_call 21; refine (eqStep_b _ _ _ _ He.out).mono ?_; rintro e' w' ⟨rfl, hb⟩; have hzB := hb.size; (try simp only [World.size_alloc, World.size_setCell, World.size_drew] at hzB))
     go_ret
     exact ⟨ret_bool Hne.out.symm, by (repeat (first | (with_reducible refine Below.setCell ?_ ?_ _) | (with_reducible refine Below.alloc ?_ ?_ _) | (with_reducible refine Below.drew ?_) | (with_reducible refine below_drewN ?_ _) | (with_reducible exact Below.refl _ _) | (with_reducible assumption) | (with_reducible refine Below.trans ?_ (Below.mono (by with_reducible assumption) ?_)) | go_size))⟩
    ·have heq := eqS_iff.1 he
     have Heq := Lib.hid heq; clear heq
     have He := Lib.hid he; clear he
     go_wp2_with fail
     go_still_tail 8, (by kernel_rfl)
     change wpList _ _ _ _ _ wr.drew
     go_wp2_with (go_at_call 21; refine (eqStep_b _ _ _ _ He.out).mono ?_; rintro e' w' ⟨rfl, hb⟩; have hzB := hb.size; (try simp only [World.size_alloc, World.size_setCell, World.size_drew] at hzB))
     go_roundw
     case rel => exact ⟨k + 1, by omega, by go_num, by rw [take_gets hkk, take_gets hkb, Hpre.out, Heq.out], by (repeat (first | (with_reducible refine Below.setCell ?_ ?_ _) | (with_reducible refine Below.alloc ?_ ?_ _) | (with_reducible refine Below.drew ?_) | (with_reducible refine below_drewN ?_ _) | (with_reducible exact Below.refl _ _) | (with_reducible assumption) | (with_reducible refine Below.trans ?_ (Below.mono (by with_reducible assumption) ?_)) | go_size))⟩
     case measure => simp [intOf]; omega
   ·have hab : a = b := by
     have := Hpre.out
     rw [List.take_of_length_le (by omega), List.take_of_length_le (by rw [← Hl.out]; omega)] at this
     exact this
    have heq : decide (a = b) = true := decide_eq_true hab
    have Heq := Lib.hid heq; clear heq hab
    go_wp2_with fail
    go_ret
    exact ⟨ret_bool Heq.out.symm, hBw⟩
 ·have hne : decide (a = b) = false := decide_eq_false (fun e => hl (by rw [e]))
  rw [hne]
  have hne2 : ((a.length : Int) == (b.length : Int)) = false := by simp; omega
  have hne3 : ((a.length : Int) != (b.length : Int)) = true := by simp; omega
  clear hne
  go_enter Tryd.func9, Tryd.ntmps9
  go_wp2_with fail
  go_ret
  exact ⟨rfl, Below.refl _ _⟩
theorem eqStepS_b {S S' : Nat → Prop} (va vb : Value) (a b : List (Int × Int)) (W : World) (r : Bool) (hr : decide (a = b) = r) (ha : VS S W va a) (hb : VS S' W vb b) :
  Calls Tryd.prog 9 #[va, vb] W fun e' w' => e' = .returned (.bool r) ∧ Below W.heap.size W w' := by subst hr; exact eqStepS_any va vb a b W ha hb
def XRS (lo hi : Nat) (w : World) (v : Value) (l : List (Int × Int)) : Prop := ∃ b, XS w v l b ∧ (l ≠ [] → lo ≤ b ∧ b < hi)
/-- Fresh steps. -/
def FS (B : Nat) (w : World) (v : Value) (l : List (Int × Int)) : Prop := ∃ b, XS w v l b ∧ (l ≠ [] → B ≤ b)
section
variable {lo hi lo' hi' s B : Nat} {w w' : World} {v : Value} {l : List (Int × Int)}
theorem XRS.of_FS (h : FS B w v l) : XRS B w.heap.size w v l := by
 obtain ⟨b, h1, h2⟩ := h
 exact ⟨b, h1, fun hn => ⟨h2 hn, h1.lt hn⟩⟩
theorem XRS.below (h : XRS lo hi w v l) (hb : Below w.heap.size w w') : XRS lo hi w' v l := by
 obtain ⟨b, h1, h2⟩ := h
 exact ⟨b, h1.keep (fun hn => hb.block _ (h1.lt hn)), h2⟩
theorem XRS.vs (h : XRS lo hi w v l) : VS (fun _ => True) w v l := by
 obtain ⟨b, h1, _⟩ := h; exact h1.vs (fun _ => trivial)
theorem XRS.form (h : XRS lo hi w v l) : ∃ a c, v = .slice a l.length c := by
 obtain ⟨b, ⟨a, c, rfl, _⟩, _⟩ := h; exact ⟨a, c, rfl⟩
theorem VS.chgR (h : VS (fun b => b < s) w v l) (hc : Chg (Rg lo hi) w w') (hs : s ≤ lo) : VS (fun b => b < s) w' v l :=
 h.mono (fun _ h _ => h) (hc.keep fun b hb hf => by have h1 : b < s := hb; obtain ⟨g1, g2⟩ := hf; omega)
theorem VS.old {S : Nat → Prop} (h : VS S w v l) : VS (fun b => b < w.heap.size) w v l := h.mono (fun _ _ h => h) (fun _ _ _ => rfl)
theorem FS.mono {B' : Nat} (h : FS B w v l) (hb : B' ≤ B) : FS B' w v l := by
 obtain ⟨b, h1, h2⟩ := h
 exact ⟨b, h1, fun hn => Nat.le_trans hb (h2 hn)⟩
theorem FS.vs (h : FS B w v l) : VS (fun _ => True) w v l := by
 obtain ⟨b, h1, _⟩ := h; exact h1.vs (fun _ => trivial)
theorem FS.nil : FS B w (.slice none 0 0) [] := ⟨0, ⟨none, 0, rfl, Nat.le_refl _, Nat.zero_le _, fun hn => absurd rfl hn⟩, fun hn => absurd rfl hn⟩
theorem FS.below (h : FS B w v l) (hb : Below w.heap.size w w') : FS B w' v l := by
 obtain ⟨b, h1, h2⟩ := h
 exact ⟨b, h1.keep (fun hn => hb.block _ (h1.lt hn)), h2⟩
end
def marksS (n : Nat) (k : Int) : List (Int × Int) := (List.range n).map fun i => (k + 2 * (i : Nat), k + 2 * (i : Nat) + 1)
theorem marksS_len (n : Nat) (k : Int) : (marksS n k).length = n := by simp [marksS]
theorem marksS_get {n : Nat} {k : Int} {i : Nat} (h : i < n) : gets (marksS n k) i = (k + 2 * (i : Nat), k + 2 * (i : Nat) + 1) := by simp [gets, marksS, h]
set_option maxRecDepth 100000 in
theorem markStepS_any (F : Nat → Prop) (v : Value) (l : List (Int × Int)) (b : Nat) (k : Int) (W : World) (h : XS W v l b) (hF : l ≠ [] → F b) (hk : 0 ≤ k) (hk2 : k + 2 * l.length ≤ 1152921504606846976) :
  Calls Tryd.prog 12 #[v, .int .i64 k] W fun e' w' => e' = .returned (.int .i64 (k + 2 * l.length)) ∧ XS w' v (marksS l.length k) b ∧ Chg F W w' := by
 obtain ⟨a, c, rfl, h1, h2, hX⟩ := h
 unfold maxLen at h2
 by_cases hn : l = []
 ·subst hn
  go_enter Tryd.func12, Tryd.ntmps12
  go_wp2_with fail
  go_loopw [1, 5] (fun q i wr => i = .int .i64 0 ∧ q = .int .i64 k ∧ wr = W) (fun _ i _ => 0)
  case atStart => exact ⟨rfl, rfl, rfl⟩
  case round =>
   obtain ⟨rfl, rfl, rfl⟩ := hrel
   go_wp2_with fail
   go_ret
   exact ⟨by simp, ⟨a, c, rfl, h1, by unfold maxLen; exact h2, fun hn => absurd rfl hn⟩, Chg.refl _ _⟩
 ·obtain ⟨off, cs0, e0, rfl, hh0, hc0⟩ := hX hn
  have HFb := Lib.hid (hF hn); clear hF
  have Hhc := Lib.hid (And.intro hh0 hc0); clear hh0 hc0
  have hX0 := Lib.hid hX; clear hX
  have Hn := Lib.hid hn; clear hn
  go_enter Tryd.func12, Tryd.ntmps12
  go_wp2_with fail
  go_loopw [1, 5] (fun q i wr => ∃ (j : Nat) (cs : Array Value), j ≤ l.length ∧ i = .int .i64 j ∧ q = .int .i64 (k + 2 * j) ∧ wr.heap[b]? = some (.cells cs e0 (0, 0)) ∧ (∀ m, m < l.length → cs[off + m * 2]? = some (.int .i64 (if m < j then k + 2 * m else (gets l m).1)) ∧ cs[off + m * 2 + 1]? = some (.int .i64 (if m < j then k + 2 * m + 1 else (gets l m).2))) ∧ Chg F W wr) (fun _ i _ => l.length - (intOf i).toNat)
  case atStart => exact ⟨0, cs0, Nat.zero_le _, rfl, by simp, Hhc.out.1, fun m hm => by rw [if_neg (by omega), if_neg (by omega)]; exact Hhc.out.2 m hm, Chg.refl _ _⟩
  case round =>
   obtain ⟨j, cs, hj, rfl, rfl, hh, hcs, hB⟩ := hrel
   by_cases hjj : j < l.length
   ·have hcs0 := hcs j hjj
    rw [if_neg (by omega), if_neg (by omega)] at hcs0
    have hco : wr.cell? ⟨b, off + j * 2, none⟩ = some (.int .i64 (gets l j).1) := by rw [cell_of_block hh, hcs0.1]
    have hco1 : wr.cell? ⟨b, off + j * 2 + 1, none⟩ = some (.int .i64 (gets l j).2) := by rw [cell_of_block hh, hcs0.2]
    have hfo := frozen_of_block hh (off + j * 2)
    have hfo1 := frozen_of_block hh (off + j * 2 + 1)
    have hsz : off + j * 2 < cs.size := (Array.getElem?_eq_some_iff.1 hcs0.1).1
    have hsz1 : off + j * 2 + 1 < cs.size := (Array.getElem?_eq_some_iff.1 hcs0.2).1
    have Hsz := Lib.hid (And.intro hsz hsz1); clear hsz hsz1 hcs0
    have Hh := Lib.hid hh; clear hh
    have Hcs := Lib.hid hcs; clear hcs
    have hw : wrap64 (k + 2 * j + 1) = k + 2 * j + 1 := IntWalk.wrap64_in _ (by omega)
    have hw2 : wrap64 (k + 2 * j + 1 + 1) = k + 2 * j + 1 + 1 := IntWalk.wrap64_in _ (by omega)
    go_wp2_with fail
    go_roundw
    case rel =>
     refine ⟨j + 1, _, by omega, by go_num, by congr 1; omega, heap_setCell_self (heap_setCell_self Hh.out _) _, fun m hm => ?_, (hB.setCell (.inl HFb.out) _).setCell (.inl HFb.out) _⟩
     have h3 := Hcs.out m hm
     have h4 := Hsz.out
     by_cases e : m = j
     ·subst e
      rw [if_pos (by omega), if_pos (by omega)]
      exact ⟨by rw [Array.getElem?_setIfInBounds, if_neg (by omega), Array.getElem?_setIfInBounds, if_pos rfl, if_pos (by omega)], by rw [Array.getElem?_setIfInBounds, if_pos rfl, if_pos (by simp; omega)]⟩
     ·have hif : ∀ (x y : Int), (if m < j + 1 then x else y) = if m < j then x else y := fun x y => by
       by_cases hmj : m < j
       ·rw [if_pos hmj, if_pos (by omega)]
       ·rw [if_neg hmj, if_neg (by omega)]
      rw [hif, hif]
      exact ⟨by rw [Array.getElem?_setIfInBounds, if_neg (by omega), Array.getElem?_setIfInBounds, if_neg (by omega)]; exact h3.1, by rw [Array.getElem?_setIfInBounds, if_neg (by omega), Array.getElem?_setIfInBounds, if_neg (by omega)]; exact h3.2⟩
    case measure => simp [intOf]; omega
   ·obtain rfl : j = l.length := by omega
    have Hh := Lib.hid hh; clear hh
    have Hcs := Lib.hid hcs; clear hcs
    go_wp2_with fail
    go_ret
    refine ⟨rfl, ⟨some ⟨b, off, none⟩, c, by rw [marksS_len], by rw [marksS_len]; exact h1, by unfold maxLen; exact h2, fun _ => ⟨off, cs, e0, rfl, Hh.out, fun m hm => ?_⟩⟩, hB⟩
    rw [marksS_len] at hm
    have h3 := Hcs.out m hm
    rw [if_pos hm, if_pos hm] at h3
    rw [marksS_get hm]
    exact h3
theorem heldStepS_any {S : Nat → Prop} (v : Value) (n : Nat) (k : Int) (W : World) (h : VS S W v (marksS n k)) (hk : 0 ≤ k) (hk2 : k + 2 * n ≤ 1152921504606846976) :
  Calls Tryd.prog 13 #[v, .int .i64 k] W fun e' w' => e' = .returned (.int .i64 (k + 2 * n)) ∧ W = w' := by
 have hV := h
 obtain ⟨a, c, rfl, hm⟩ := h.form
 have hl := marksS_len n k
 rw [hl] at hm ⊢
 go_enter Tryd.func13, Tryd.ntmps13
 go_wp2_with fail
 go_loop [1, 5] (fun q i => ∃ j : Nat, j ≤ n ∧ i = .int .i64 j ∧ q = .int .i64 (k + 2 * j)) (fun _ i => n - (intOf i).toNat)
 case atStart => exact ⟨0, Nat.zero_le _, rfl, by simp⟩
 case round =>
  obtain ⟨j, hj, rfl, rfl⟩ := hrel
  by_cases hjj : j < n
  ·obtain ⟨b1, off1, rfl, _, hc1, hc2⟩ := hV.cell (show j < (marksS n k).length by omega)
   rw [marksS_get hjj] at hc1 hc2
   have hw : wrap64 (k + 2 * j + 1) = k + 2 * j + 1 := IntWalk.wrap64_in _ (by omega)
   have hw2 : wrap64 (k + 2 * j + 1 + 1) = k + 2 * j + 1 + 1 := IntWalk.wrap64_in _ (by omega)
   have e1 : (k + 2 * (j : Int) != k + 2 * (j : Int)) = false := by simp
   have e2 : (k + 2 * (j : Int) + 1 != k + 2 * (j : Int) + 1) = false := by simp
   go_wp2_with fail
   go_round
   case rel => exact ⟨j + 1, by omega, by go_num, by congr 1; omega⟩
   case measure => simp [intOf]; omega
  ·obtain rfl : j = n := by omega
   go_wp2_with fail
   go_ret
   exact ⟨rfl, rfl⟩
theorem markStepS_r (lo hi : Nat) (v : Value) (l : List (Int × Int)) (k : Int) (W : World) (h : XRS lo hi W v l) (hk : 0 ≤ k) (hk2 : k + 2 * l.length ≤ 1152921504606846976) :
  Calls Tryd.prog 12 #[v, .int .i64 k] W fun e' w' => e' = .returned (.int .i64 (k + 2 * l.length)) ∧ XRS lo hi w' v (marksS l.length k) ∧ Chg (Rg lo hi) W w' := by
 obtain ⟨b, h1, h2⟩ := h
 refine (markStepS_any (Rg lo hi) v l b k W h1 h2 hk hk2).mono ?_
 rintro e' w' ⟨rfl, h3, h4⟩
 exact ⟨rfl, ⟨b, h3, fun hn => h2 (by intro e; subst e; exact hn rfl)⟩, h4⟩
/-- The string of a list of bytes. -/
def bs (l : List UInt8) : ByteArray := ⟨l.toArray⟩
theorem bs_app (a b : List UInt8) : bs a ++ bs b = bs (a ++ b) := by
 apply ByteArray.ext
 simp [bs]
theorem bs_data (l : List UInt8) : (bs l).data.toList = l := rfl
theorem bs_size (l : List UInt8) : (bs l).size = l.length := by simp [bs, ByteArray.size]
def decW (n : Int) : List UInt8 := Lib.decDigits n.toNat
def wordS (x : Int × Int) : List UInt8 := if openS x = true then [43] else decW x.1 ++ [47] ++ decW x.2
def fitS (x : Int × Int) : Bool := openS x || (inB x.1 0 9 && inB x.2 0 11)
def fitTo (l : List (Int × Int)) : Nat → Bool
 | 0 => true
 | k + 1 => fitTo l k && fitS (gets l k)
def wordsTo (l : List (Int × Int)) : Nat → List (List UInt8)
 | 0 => []
 | k + 1 => wordsTo l k ++ [wordS (gets l k)]
def txtTo (l : List (Int × Int)) : Nat → List UInt8
 | 0 => []
 | k + 1 => txtTo l k ++ (if 0 < k then [32] else []) ++ wordS (gets l k)
def stxAns (l : List (Int × Int)) : List UInt8 × Int :=
 if fitTo l l.length = false then ([], 2) else if 1200 < l.length then ([], 3) else (txtTo l l.length, 0)
def codeS (l : List (Int × Int)) : Int := if fitTo l l.length = false then 2 else if 1200 < l.length then 3 else 0
theorem fitTo_false {l : List (Int × Int)} {k : Nat} (h : fitTo l k = false) : ∀ n, k ≤ n → fitTo l n = false := by
 intro n hn
 induction n with
 | zero => obtain rfl : k = 0 := by omega
           exact h
 | succ n ih =>
   by_cases e : k = n + 1
   ·subst e; exact h
   ·unfold fitTo; rw [ih (by omega)]; rfl
theorem fitTo_at {l : List (Int × Int)} {n k : Nat} (h : fitTo l n = true) (hk : k < n) : fitS (gets l k) = true := by
 induction n with
 | zero => omega
 | succ n ih =>
   unfold fitTo at h
   rw [Bool.and_eq_true] at h
   by_cases e : k = n
   ·subst e; exact h.2
   ·exact ih h.1 (by omega)
theorem wordsTo_len (l : List (Int × Int)) : ∀ k, (wordsTo l k).length = k
 | 0 => rfl
 | k + 1 => by simp [wordsTo, wordsTo_len l k]
theorem joinTail_snoc (sep x : List UInt8) (r : List (List UInt8)) : Lib.joinTail sep (r ++ [x]) = Lib.joinTail sep r ++ (sep ++ x) := by
 simp [Lib.joinTail]
theorem txt_join (l : List (Int × Int)) : ∀ k, txtTo l k = Lib.join (wordsTo l k) [32]
 | 0 => rfl
 | k + 1 => by
   unfold txtTo wordsTo
   rw [txt_join l k]
   have hl := wordsTo_len l k
   cases hw : wordsTo l k with
   | nil =>
     rw [hw] at hl
     obtain rfl : k = 0 := by simpa using hl.symm
     rw [List.nil_append, Lib.join_one, Lib.join_nil]
     simp
   | cons x r =>
     rw [hw] at hl
     have hk : 0 < k := by simp at hl; omega
     rw [if_pos hk, List.cons_append, Lib.join_cons, Lib.join_cons, joinTail_snoc]
     simp
theorem dec_small {n : Int} (h0 : 0 ≤ n) (h1 : n ≤ 11) : (decW n).length ≤ 2 := by
 unfold decW
 have : n = 0 ∨ n = 1 ∨ n = 2 ∨ n = 3 ∨ n = 4 ∨ n = 5 ∨ n = 6 ∨ n = 7 ∨ n = 8 ∨ n = 9 ∨ n = 10 ∨ n = 11 := by omega
 rcases this with rfl | rfl | rfl | rfl | rfl | rfl | rfl | rfl | rfl | rfl | rfl | rfl <;> (unfold Lib.decDigits; simp) <;> (unfold Lib.decDigits; simp)
theorem word_small {x : Int × Int} (h : fitS x = true) : (wordS x).length ≤ 5 := by
 unfold wordS
 by_cases ho : openS x = true
 ·rw [if_pos ho]; simp
 ·rw [if_neg ho]
  unfold fitS at h
  rw [show openS x = false by simpa using ho, Bool.false_or, Bool.and_eq_true, inB_iff, inB_iff] at h
  have h1 := dec_small h.1.1 (by omega)
  have h2 := dec_small h.2.1 h.2.2
  simp; omega
theorem txt_len {l : List (Int × Int)} {n : Nat} (h : fitTo l n = true) : ∀ k, k ≤ n → (txtTo l k).length ≤ 6 * k
 | 0, _ => Nat.le_refl _
 | k + 1, hk => by
   have h1 := txt_len h k (by omega)
   have h2 := word_small (fitTo_at h (show k < n by omega))
   unfold txtTo
   rw [List.length_append, List.length_append]
   split <;> simp <;> omega
end Go.Proofs.YtmjplkbmhdkggaaDoor
