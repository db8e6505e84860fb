/- Plain lemmas and predicates on worlds: how slices of integers, of slices and so on lie in memory. No conditions. -/
import Derived.WalkKit
import Derived.Handy
import Derived.Lib.Hide
import Derived.WalkSmall
import Derived.Deep.Draws
import Derived.ProofKit
import Derived.OpenShut
import Derived.Deep.Matrix
import Derived.Carry
import Derived.JoinedOf
import Derived.ChangeSame
import Derived.Test.YtmjplkbmhdkggaaDoorProg
import Derived.StillTailTactics
import Derived.Laws.StructEq
import Derived.Deep.QuietTactic
import Derived.BigQuiet
import Derived.Lib.Join
import Derived.Lib.ItoaNum
import Derived.Shelf.Strings.OnBuilder
import Derived.Shelf.Strconv.Itoa4
namespace Go.Proofs.YtmjplkbmhdkggaaDoor
open Go.RowKit
set_option linter.unusedVariables false
set_option linter.unusedSimpArgs false
/-- Element k of a list of integers, spelled so that simp leaves it alone. -/
def geti (l : List Int) (k : Nat) : Int := l.getD k 0
def getl (l : List (List Int)) (k : Nat) : List Int := l.getD k []
def getll (l : List (List (List Int))) (k : Nat) : List (List Int) := l.getD k []
theorem geti_take {l : List Int} {k n : Nat} (h : k < n) : geti (l.take n) k = geti l k := by
 simp [geti, List.getElem?_take, h]
theorem getl_take {l : List (List Int)} {k n : Nat} (h : k < n) : getl (l.take n) k = getl l k := by
 simp [getl, List.getElem?_take, h]
/-- v is a slice whose elements (one cell each, in blocks of S) hold what R says of xs. -/
def Vs {α : Type} (g : List α → Nat → α) (R : Value → α → Prop) (S : Nat → Prop) (w : World) (v : Value) (xs : List α) : Prop :=
 ∃ a c, v = .slice a xs.length c ∧ xs.length ≤ c ∧ (c ≤ maxLen) ∧ ∀ k, k < xs.length → ∃ b off ev, a = some ⟨b, off, none⟩ ∧ S b ∧ w.cell? ⟨b, off + k, none⟩ = some ev ∧ R ev (g xs k)
def isI (v : Value) (n : Int) : Prop := v = .int .i64 n
def V1 (S : Nat → Prop) (w : World) (v : Value) (l : List Int) : Prop := Vs geti isI S w v l
def V2 (S : Nat → Prop) (w : World) (v : Value) (l : List (List Int)) : Prop := Vs getl (V1 S w) S w v l
def V3 (S : Nat → Prop) (w : World) (v : Value) (l : List (List (List Int))) : Prop := Vs getll (V2 S w) S w v l
/-- Blocks of S have not turned. -/
def Keep (S : Nat → Prop) (w w' : World) : Prop := ∀ b, S b → b < w.heap.size → w'.heap[b]? = w.heap[b]?
theorem lt_of_cell {w : World} {a : Addr} {v : Value} (h : w.cell? a = some v) : a.block < w.heap.size := by
 unfold World.cell? at h
 split at h
 ·rename_i hh; exact (Array.getElem?_eq_some_iff.1 hh).1
 ·cases h
theorem cell_keep {w w' : World} {b off : Nat} {v : Value} (h : w.cell? ⟨b, off, none⟩ = some v) (hk : w'.heap[b]? = w.heap[b]?) : w'.cell? ⟨b, off, none⟩ = some v := by
 rw [World.cell?_of_block (w := w) (a := ⟨b, off, none⟩) hk, h]
section
variable {α : Type} {g : List α → Nat → α} {R R' : Value → α → Prop} {S S' : Nat → Prop} {w w' : World} {v : Value} {xs : List α}
theorem Vs.mono (h : Vs g R S w v xs) (hS : ∀ b, S b → b < w.heap.size → S' b) (hk : Keep S w w') (hR : ∀ ev x, R ev x → R' ev x) : Vs g R' S' w' v xs := by
 obtain ⟨a, c, rfl, hl, hm, h⟩ := h
 refine ⟨a, c, rfl, hl, hm, fun k hlt => ?_⟩
 obtain ⟨b, off, ev, ha, hb, hc, hr⟩ := h k hlt
 exact ⟨b, off, ev, ha, hS b hb (lt_of_cell hc), cell_keep hc (hk b hb (lt_of_cell hc)), hR _ _ hr⟩
end
theorem V1.mono {S S' : Nat → Prop} {w w' : World} {v : Value} {l : List Int} (h : V1 S w v l) (hS : ∀ b, S b → b < w.heap.size → S' b) (hk : Keep S w w') : V1 S' w' v l :=
 Vs.mono h hS hk fun _ _ r => r
theorem V2.mono {S S' : Nat → Prop} {w w' : World} {v : Value} {l : List (List Int)} (h : V2 S w v l) (hS : ∀ b, S b → b < w.heap.size → S' b) (hk : Keep S w w') : V2 S' w' v l :=
 Vs.mono h hS hk fun _ _ r => r.mono hS hk
theorem V3.mono {S S' : Nat → Prop} {w w' : World} {v : Value} {l : List (List (List Int))} (h : V3 S w v l) (hS : ∀ b, S b → b < w.heap.size → S' b) (hk : Keep S w w') : V3 S' w' v l :=
 Vs.mono h hS hk fun _ _ r => r.mono hS hk
theorem Below.keep {S : Nat → Prop} {B : Nat} {w w' : World} (h : Below B w w') (hB : ∀ b, S b → b < w.heap.size → b < B) : Keep S w w' := fun b hb hlt => h.block b (hB b hb hlt)
theorem V1.below {S : Nat → Prop} {w w' : World} {v : Value} {l : List Int} (h : V1 S w v l) (hb : Below w.heap.size w w') : V1 S w' v l :=
 h.mono (fun _ h _ => h) (Below.keep hb fun _ _ h => h)
theorem V2.below {S : Nat → Prop} {w w' : World} {v : Value} {l : List (List Int)} (h : V2 S w v l) (hb : Below w.heap.size w w') : V2 S w' v l :=
 h.mono (fun _ h _ => h) (Below.keep hb fun _ _ h => h)
theorem V3.below {S : Nat → Prop} {w w' : World} {v : Value} {l : List (List (List Int))} (h : V3 S w v l) (hb : Below w.heap.size w w') : V3 S w' v l :=
 h.mono (fun _ h _ => h) (Below.keep hb fun _ _ h => h)
/-- A part of a slice from its beginning. -/
theorem V2.take {S : Nat → Prop} {w : World} {a : Option Addr} {c n : Nat} {l : List (List Int)} (h : V2 S w (.slice a l.length c) l) (hn : n ≤ l.length) : V2 S w (.slice a n c) (l.take n) := by
 obtain ⟨a', c', e, hl, hm, h⟩ := h
 simp only [Value.slice.injEq] at e
 obtain ⟨rfl, _, rfl⟩ := e
 have hlen : (l.take n).length = n := by simp; omega
 refine ⟨a, c, by rw [hlen], by omega, hm, fun k hk => ?_⟩
 obtain ⟨b, off, ev, ha, hb, hc, hr⟩ := h k (by omega)
 exact ⟨b, off, ev, ha, hb, hc, by rw [getl_take (by omega)]; exact hr⟩
theorem V1.take {S : Nat → Prop} {w : World} {a : Option Addr} {c n : Nat} {l : List Int} (h : V1 S w (.slice a l.length c) l) (hn : n ≤ l.length) : V1 S w (.slice a n c) (l.take n) := by
 obtain ⟨a', c', e, hl, hm, h⟩ := h
 simp only [Value.slice.injEq] at e
 obtain ⟨rfl, _, rfl⟩ := e
 have hlen : (l.take n).length = n := by simp; omega
 refine ⟨a, c, by rw [hlen], by omega, hm, fun k hk => ?_⟩
 obtain ⟨b, off, ev, ha, hb, hc, hr⟩ := h k (by omega)
 exact ⟨b, off, ev, ha, hb, hc, by rw [geti_take (by omega)]; exact hr⟩
/-- One cell of a slice of integers. -/
theorem V1.cell {S : Nat → Prop} {w : World} {a : Option Addr} {n c k : Nat} {l : List Int} (h : V1 S w (.slice a n c) l) (hk : k < l.length) : ∃ b off, a = some ⟨b, off, none⟩ ∧ S b ∧ w.cell? ⟨b, off + k, none⟩ = some (.int .i64 (geti l k)) := by
 obtain ⟨a', c', e, hl, hm, h⟩ := h
 simp only [Value.slice.injEq] at e
 obtain ⟨rfl, rfl, rfl⟩ := e
 obtain ⟨b, off, ev, ha, hb, hc, rfl⟩ := h k hk
 exact ⟨b, off, ha, hb, hc⟩
theorem V2.cell {S : Nat → Prop} {w : World} {a : Option Addr} {n c k : Nat} {l : List (List Int)} (h : V2 S w (.slice a n c) l) (hk : k < l.length) : ∃ b off a' c', a = some ⟨b, off, none⟩ ∧ S b ∧ w.cell? ⟨b, off + k, none⟩ = some (.slice a' (getl l k).length c') ∧ V1 S w (.slice a' (getl l k).length c') (getl l k) := by
 obtain ⟨a', c', e, hl, hm, h⟩ := h
 simp only [Value.slice.injEq] at e
 obtain ⟨rfl, rfl, rfl⟩ := e
 obtain ⟨b, off, ev, ha, hb, hc, hr⟩ := h k hk
 have hr' := hr
 obtain ⟨a2, c2, rfl, _⟩ := hr
 exact ⟨b, off, a2, c2, ha, hb, hc, hr'⟩
theorem V2.cap {S : Nat → Prop} {w : World} {a : Option Addr} {n c : Nat} {l : List (List Int)} (h : V2 S w (.slice a n c) l) : l.length ≤ c := by
 obtain ⟨a', c', e, hl, hm, h⟩ := h
 injection e with _ _ e3; omega
theorem V1.cap {S : Nat → Prop} {w : World} {a : Option Addr} {n c : Nat} {l : List Int} (h : V1 S w (.slice a n c) l) : l.length ≤ c := by
 obtain ⟨a', c', e, hl, hm, h⟩ := h
 injection e with _ _ e3; omega
theorem V1.len {S : Nat → Prop} {w : World} {v : Value} {l : List Int} (h : V1 S w v l) : l.length ≤ maxLen := by
 obtain ⟨a, c, rfl, h1, h2, _⟩ := h; omega
theorem V2.len {S : Nat → Prop} {w : World} {v : Value} {l : List (List Int)} (h : V2 S w v l) : l.length ≤ maxLen := by
 obtain ⟨a, c, rfl, h1, h2, _⟩ := h; omega
theorem V1.form {S : Nat → Prop} {w : World} {v : Value} {l : List Int} (h : V1 S w v l) : ∃ a c, v = .slice a l.length c ∧ l.length ≤ 9223372036854775807 := by
 have := h.len
 obtain ⟨a, c, rfl, _⟩ := h
 exact ⟨a, c, rfl, by unfold maxLen at this; omega⟩
theorem V2.form {S : Nat → Prop} {w : World} {v : Value} {l : List (List Int)} (h : V2 S w v l) : ∃ a c, v = .slice a l.length c ∧ l.length ≤ 9223372036854775807 := by
 have := h.len
 obtain ⟨a, c, rfl, _⟩ := h
 exact ⟨a, c, rfl, by unfold maxLen at this; omega⟩
theorem ret_int {k : IntKind} {a b : Int} (h : a = b) : Ending.returned (.int k a) = .returned (.int k b) := by rw [h]
theorem ret_bool {a b : Bool} (h : a = b) : Ending.returned (.bool a) = .returned (.bool b) := by rw [h]
/-- Steps: two cells each. -/
def gets (l : List (Int × Int)) (k : Nat) : Int × Int := l.getD k (0, 0)
theorem gets_eq {l : List (Int × Int)} {k : Nat} (h : k < l.length) : gets l k = l[k] := by simp [gets, h]
theorem take_gets {l : List (Int × Int)} {k : Nat} (h : k < l.length) : l.take (k + 1) = l.take k ++ [gets l k] := by
 rw [List.take_succ_eq_append_getElem h, gets_eq h]
def VS (S : Nat → Prop) (w : World) (v : Value) (l : List (Int × Int)) : Prop :=
 ∃ a c, v = .slice a l.length c ∧ l.length ≤ c ∧ c ≤ maxLen ∧ ∀ k, k < l.length → ∃ b off, a = some ⟨b, off, none⟩ ∧ S b ∧ w.cell? ⟨b, off + k * 2, none⟩ = some (.int .i64 (gets l k).1) ∧ w.cell? ⟨b, off + k * 2 + 1, none⟩ = some (.int .i64 (gets l k).2)
theorem VS.mono {S S' : Nat → Prop} {w w' : World} {v : Value} {l : List (Int × Int)} (h : VS S w v l) (hS : ∀ b, S b → b < w.heap.size → S' b) (hk : Keep S w w') : VS S' w' v l := by
 obtain ⟨a, c, rfl, hl, hm, h⟩ := h
 refine ⟨a, c, rfl, hl, hm, fun k hlt => ?_⟩
 obtain ⟨b, off, ha, hb, hc, hd⟩ := h k hlt
 exact ⟨b, off, ha, hS b hb (lt_of_cell hc), cell_keep hc (hk b hb (lt_of_cell hc)), cell_keep hd (hk b hb (lt_of_cell hc))⟩
theorem VS.below {S : Nat → Prop} {w w' : World} {v : Value} {l : List (Int × Int)} (h : VS S w v l) (hb : Below w.heap.size w w') : VS S w' v l :=
 h.mono (fun _ h _ => h) (Below.keep hb fun _ _ h => h)
theorem VS.form {S : Nat → Prop} {w : World} {v : Value} {l : List (Int × Int)} (h : VS S w v l) : ∃ a c, v = .slice a l.length c ∧ l.length ≤ 9223372036854775807 := by
 obtain ⟨a, c, rfl, h1, h2, _⟩ := h
 exact ⟨a, c, rfl, by unfold maxLen at h2; omega⟩
theorem VS.cell {S : Nat → Prop} {w : World} {a : Option Addr} {n c k : Nat} {l : List (Int × Int)} (h : VS S w (.slice a n c) l) (hk : k < l.length) : ∃ b off, a = some ⟨b, off, none⟩ ∧ S b ∧
  w.cell? ⟨b, off + k * 2, none⟩ = some (.int .i64 (gets l k).1) ∧ w.cell? ⟨b, off + k * 2 + 1, none⟩ = some (.int .i64 (gets l k).2) := by
 obtain ⟨a', c', e, hl, hm, h⟩ := h
 simp only [Value.slice.injEq] at e
 obtain ⟨rfl, rfl, rfl⟩ := e
 exact h k hk
theorem bcell {W w1 : World} (hb : Below W.heap.size W w1) : (∀ b o, b < W.heap.size → w1.cell? ⟨b, o, none⟩ = W.cell? ⟨b, o, none⟩) ∧ (∀ b o, b < W.heap.size → w1.frozen? ⟨b, o, none⟩ = W.frozen? ⟨b, o, none⟩) :=
 ⟨fun b o h => hb.cell (p := ⟨b, o, none⟩) h, fun b o h => hb.frozen (p := ⟨b, o, none⟩) h⟩
theorem heap_alloc_self (w : World) (o : Obj) : (w.alloc o).heap[w.heap.size]? = some o := by
 show (w.heap.push o)[w.heap.size]? = _
 simp
/-- A cell of a block that is known whole. -/
theorem cell_of_block {w : World} {b : Nat} {cs : Array Value} {T : TypeId} {fz : Nat × Nat} (h : w.heap[b]? = some (.cells cs T fz)) (off : Nat) : w.cell? ⟨b, off, none⟩ = cs[off]? := by
 simp [World.cell?, h]
theorem heap_below {B b : Nat} {w w' : World} {o : Obj} (h : w.heap[b]? = some o) (hb : Below B w w') (hB : b < B) : w'.heap[b]? = some o := by
 rw [hb.block b hB, h]
end Go.Proofs.YtmjplkbmhdkggaaDoor
namespace Go.Proofs.YtmjplkbmhdkggaaDoor
open Go.ChangeShapes Go.WideShapes Go.ChangeAt Go.RowKit Go.Deep
set_option linter.unusedVariables false
set_option linter.unusedSimpArgs false
def i64ok (n : Int) : Prop := -9223372036854775808 ≤ n ∧ n ≤ 9223372036854775807
theorem i64_of_wf {n : Int} (h : (Lit.int .i64 n).wf = true) : i64ok n := by
 simpa [Lit.wf, IntKind.min, IntKind.max, IntKind.signed, IntKind.bits, i64ok] using h
section
variable {H : Type} {enc : TypeId × Value → H} {P : Program} {w : World} {held : Bool}
/-- The blocks that are there. -/
def Old (w : World) : Nat → Prop := fun b => b < w.heap.size
theorem addr_of_cell {a : Addr} {i : Nat} {v : Value} (h : w.cell? (a.add i) = some v) : i = 0 → a = ⟨a.block, a.off, none⟩ := by
 intro h0; subst h0
 obtain ⟨b, o, s⟩ := a
 simp only [World.cell?, Addr.add, if_true] at h
 split at h
 ·cases s with
  | none => rfl
  | some s => simp at h
 ·cases h
/-- A struct of two, of five integers; and one of five integers and a slice. -/
theorem open_two {t q : TypeId} {f0 f1 : Field} {fuel : Nat} {cs : List Value} {x : DataW H × List MemPlace} (hs : P.underlying t = some (.struct #[f0, f1]))
  (hf : f0.type = q ∧ f0.offset = 0 ∧ f1.type = q ∧ f1.offset = 1) (hq : P.underlying q = some (.int .i64)) (cq : P.cellsOf q = 1) (ct : P.cellsOf t = 2)
  (h : DataW.trod enc P w 0 (fun _ => true) held fuel t cs = some x) : ∃ a b : Int, cs = [.int .i64 a, .int .i64 b] ∧ i64ok a ∧ i64ok b := by
 obtain ⟨e0, o0, e1, o1⟩ := hf
 obtain ⟨xs, n, _, _, hl, hn, hg⟩ := DataW.trod_struct hs h
 match xs, hn, cs, hl.trans ct with
 | [y0, y1], _, [c0, c1], _ =>
   have g0 := hg 0 f0 rfl
   have g1 := hg 1 f1 rfl
   rw [e0, o0, cq] at g0
   rw [e1, o1, cq] at g1
   obtain ⟨a, ha, _, wa⟩ := DataW.trod_int hq g0
   obtain ⟨b, hb, _, wb⟩ := DataW.trod_int hq g1
   simp at ha hb
   exact ⟨a, b, by rw [ha, hb], i64_of_wf wa, i64_of_wf wb⟩
theorem open_VS {t e q : TypeId} {f0 f1 : Field} {fuel : Nat} {cs : List Value} {x : DataW H × List MemPlace} (ht : P.underlying t = some (.slice e)) (he : P.underlying e = some (.struct #[f0, f1]))
  (hf : f0.type = q ∧ f0.offset = 0 ∧ f1.type = q ∧ f1.offset = 1) (hq : P.underlying q = some (.int .i64)) (cq : P.cellsOf q = 1) (ce : P.cellsOf e = 2)
  (h : DataW.trod enc P w 0 (fun _ => true) held fuel t cs = some x) : ∃ v l, cs = [v] ∧ VS (Old w) w v l ∧ ∀ s ∈ l, i64ok s.1 ∧ i64ok s.2 := by
 rcases open_slice ht h with ⟨rfl, _⟩ | ⟨a, len, cap, m, n, D, Pl, rfl, _, hl, hm, hmm, _, hel⟩
 ·exact ⟨_, [], rfl, ⟨none, 0, rfl, Nat.le_refl _, Nat.zero_le _, fun k hk => absurd hk (by simp)⟩, by simp⟩
 ·simp only [if_true] at hmm
  subst hmm
  rw [ce] at hel
  have each : ∀ i, i < m → ∃ s : Int × Int, w.cell? (a.add (i * 2)) = some (.int .i64 s.1) ∧ w.cell? (a.add (i * 2 + 1)) = some (.int .i64 s.2) ∧ i64ok s.1 ∧ i64ok s.2 := by
   intro i hi
   obtain ⟨cs', hc, ht'⟩ := hel i hi
   obtain ⟨p, q', rfl, hp, hq'⟩ := open_two he hf hq cq ce ht'
   obtain ⟨_, _, hat⟩ := World.cells?_some hc
   have h0 := hat 0 (by omega)
   have h1 := hat 1 (by omega)
   rw [Addr.add_zero'] at h0
   rw [← Go.Deep.add_add]
   exact ⟨(p, q'), by simpa using h0, by simpa using h1, hp, hq'⟩
  obtain ⟨F, hF⟩ := choose_lt each
  have hlen : ((List.range len).map F).length = len := by simp
  refine ⟨_, (List.range len).map F, rfl, ⟨some a, m, by rw [hlen], by omega, hm, fun k hk => ?_⟩, ?_⟩
  ·rw [hlen] at hk
   obtain ⟨h1, h2, _, _⟩ := hF k (by omega)
   have h0 := addr_of_cell (by simpa using (hF 0 (by omega)).1) rfl
   rw [h0, Addr.add_lit] at h1
   rw [h0, Addr.add_lit] at h2
   have hg : gets ((List.range len).map F) k = F k := by simp [gets, hk]
   exact ⟨a.block, a.off, congrArg some h0, lt_of_cell (a := ⟨a.block, a.off + k * 2, none⟩) h1, by rw [hg]; exact h1, by rw [hg]; exact h2⟩
  ·intro s hs
   simp only [List.mem_map, List.mem_range] at hs
   obtain ⟨k, hk, rfl⟩ := hs
   exact (hF k (by omega)).2.2
theorem arg_VS {r : Reach} {b0 : Nat} {t e q : TypeId} {f0 f1 : Field} {v : Value} {d : DataW H} {p : List MemPlace} (ht : P.underlying t = some (.slice e)) (he : P.underlying e = some (.struct #[f0, f1]))
  (hf : f0.type = q ∧ f0.offset = 0 ∧ f1.type = q ∧ f1.offset = 1) (hq : P.underlying q = some (.int .i64)) (cq : P.cellsOf q = 1) (ce : P.cellsOf e = 2)
  (hv : Value.okWide P w r b0 t v) (h : DataW.Trod enc P w 0 (fun _ => true) held t v d p) : ∃ l, VS (Old w) w v l ∧ ∀ s ∈ l, i64ok s.1 ∧ i64ok s.2 := by
 obtain ⟨a0, len, cap, rfl⟩ := okWide_slice ht hv
 obtain ⟨n, hn⟩ := h
 obtain ⟨v', l, hc, hV, hw⟩ := open_VS ht he hf hq cq ce hn
 simp [Value.cells] at hc
 rw [← hc] at hV
 exact ⟨l, hV, hw⟩
theorem _root_.Go.DataW.Trod.stay_below {P : Program} {enc : TypeId × Value → H} {t : TypeId} (hl : laidOutB P = true) (hr : P.readableRec t = true) (hrow : t < P.types.size) {W W' : World} {v : Value} {d : DataW H} {ps : List MemPlace}
  (h : DataW.Trod enc P W 0 (fun _ => true) true t v d ps) (hb : Below W.heap.size W W') (hlt : ∀ x ∈ ps, x.block < W.heap.size) : DataW.Trod enc P W' 0 (fun b => decide (b < W.heap.size)) true t v d ps :=
 Below.trod hl hr hrow h hb hlt
theorem trodAll_stays {P : Program} {enc : TypeId × Value → H} (hl : laidOutB P = true) {W W' : World} (hB : Below W.heap.size W W') : ∀ {ts : List TypeId} {vs : List Value} {ds : List (DataW H)} {ps : List MemPlace},
  (∀ t ∈ ts, P.readableRec t = true ∧ t < P.types.size) → DataW.TrodAll enc P W 0 (fun _ => true) true ts vs ds ps → (∀ x ∈ ps, x.block < W.heap.size) → DataW.TrodAll enc P W' 0 (fun b => decide (b < W.heap.size)) true ts vs ds ps := by
 intro ts
 induction ts with
 | nil => intro vs ds ps _ h _; obtain ⟨rfl, rfl, rfl⟩ := trodAll_nil h; exact trodAll_mk0
 | cons t ts ih =>
   intro vs ds ps hr h hlt
   obtain ⟨v, vs', d, ds', p, q, rfl, rfl, rfl, h0, h1⟩ := trodAll_cons h
   refine trodAll_cons_mk ?_ (ih (fun u hu => hr u (List.mem_cons_of_mem _ hu)) h1 (fun x hx => hlt x (List.mem_append_right _ hx)))
   exact h0.stay_below hl (hr t (List.mem_cons_self ..)).1 (hr t (List.mem_cons_self ..)).2 hB (fun x hx => hlt x (List.mem_append_left _ hx))
/-- What a law's row asks behind the call, where the call has left alone all that was there. -/
theorem law_post {P : Program} {enc : TypeId × Value → H} {f : Func} {s : ChangeSpec} {W W' : World} {args : Array Value} {ds gs : List (DataW H)} {before : List MemPlace} {tb : TypeId}
  (hW : DataW.Whole enc P f.params.toList s.vars false W args.toList ds gs before) (hv : s.vars = []) (hrt : f.resultTypes = #[tb]) (hb : P.underlying tb = some .bool)
  (hs : s.fn H (ds ++ gs) = { results := [.lit (.bool true)], args := ds }) (hB : Below W.heap.size W W') (hl : laidOutB P = true) (hr0 : (f.params.toList.all fun t => P.readableRec t && decide (t < P.types.size)) = true) :
  s.post enc P f false true false false W args (.bool true) W' := by
 have hr : ∀ t ∈ f.params.toList, P.readableRec t = true ∧ t < P.types.size := fun t ht => by
  have := List.all_eq_true.1 hr0 t ht
  simpa using this
 have hlt := hW.lt
 have hW' := hW
 obtain ⟨p, q, hA, hV, rfl, _, _⟩ := hW
 rw [hv] at hV
 obtain ⟨rfl, rfl⟩ := trodVars_none hV
 refine ⟨ds, [], p ++ [], [], p, [], hW', ?_, ?_, ?_, hB.frame _, fun h => by cases h⟩
 ·rw [hs, hrt]; exact trodAll_mk1 (shut_bool hb true)
 ·rw [hs]; exact trodAll_stays hl hB hr hA (fun x hx => hlt x (List.mem_append_left _ hx))
 ·rw [hs, hv]; rfl
end
end Go.Proofs.YtmjplkbmhdkggaaDoor
namespace Go.Proofs.YtmjplkbmhdkggaaDoor
open Go.RowKit
set_option linter.unusedVariables false
set_option linter.unusedSimpArgs false
theorem heap_setCell_self {w : World} {b off : Nat} {cs : Array Value} {T : TypeId} {fz : Nat × Nat} (h : w.heap[b]? = some (.cells cs T fz)) (u : Value) :
  (w.setCell ⟨b, off, none⟩ u).heap[b]? = some (.cells (cs.setIfInBounds off u) T fz) := by
 simp only [World.setCell, Array.getElem?_modify, if_true, h]
 rfl
theorem frozen_of_block {w : World} {b : Nat} {cs : Array Value} {T : TypeId} (h : w.heap[b]? = some (.cells cs T (0, 0))) (off : Nat) : w.frozen? ⟨b, off, none⟩ = false := by
 simp [World.frozen?, h]
theorem lt_of_heap {w : World} {b : Nat} {o : Obj} (h : w.heap[b]? = some o) : b < w.heap.size := (Array.getElem?_eq_some_iff.1 h).1
/-- v holds l, in block b alone, which may be written. -/
def X1 (w : World) (v : Value) (l : List Int) (b : Nat) : Prop :=
 ∃ a c, v = .slice a l.length c ∧ l.length ≤ c ∧ c ≤ maxLen ∧
   (l ≠ [] → ∃ off cs e, a = some ⟨b, off, none⟩ ∧ w.heap[b]? = some (.cells cs e (0, 0)) ∧ ∀ k, k < l.length → cs[off + k]? = some (.int .i64 (geti l k)))
theorem X1.keep {w w' : World} {v : Value} {l : List Int} {b : Nat} (h : X1 w v l b) (hk : l ≠ [] → w'.heap[b]? = w.heap[b]?) : X1 w' v l b := by
 obtain ⟨a, c, rfl, h1, h2, h⟩ := h
 refine ⟨a, c, rfl, h1, h2, fun hn => ?_⟩
 obtain ⟨off, cs, e, ha, hh, hc⟩ := h hn
 exact ⟨off, cs, e, ha, by rw [hk hn, hh], hc⟩
theorem X1.lt {w : World} {v : Value} {l : List Int} {b : Nat} (h : X1 w v l b) (hn : l ≠ []) : b < w.heap.size := by
 obtain ⟨a, c, rfl, h1, h2, h⟩ := h
 obtain ⟨off, cs, e, ha, hh, hc⟩ := h hn
 exact lt_of_heap hh
theorem X1.v1 {w : World} {v : Value} {l : List Int} {b : Nat} {S : Nat → Prop} (h : X1 w v l b) (hS : l ≠ [] → S b) : V1 S w v l := by
 obtain ⟨a, c, rfl, h1, h2, h⟩ := h
 refine ⟨a, c, rfl, h1, h2, fun k hk => ?_⟩
 have hn : l ≠ [] := by intro e; subst e; simp at hk
 obtain ⟨off, cs, e, ha, hh, hc⟩ := h hn
 exact ⟨b, off, _, ha, hS hn, by rw [cell_of_block hh]; exact hc k hk, rfl⟩
/-- v holds ls: the rows in blocks of their own (bk k), the slice of the rows in block ob. -/
def X2 (w : World) (v : Value) (ls : List (List Int)) (ob : Nat) (bk : Nat → Nat) : Prop :=
 ∃ a c, v = .slice a ls.length c ∧ ls.length ≤ c ∧ c ≤ maxLen ∧
   (ls ≠ [] → ∃ off cs e, a = some ⟨ob, off, none⟩ ∧ w.heap[ob]? = some (.cells cs e (0, 0)) ∧ ∀ k, k < ls.length → ∃ rv, cs[off + k]? = some rv ∧ X1 w rv (getl ls k) (bk k)) ∧
   (∀ k, k < ls.length → getl ls k ≠ [] → bk k ≠ ob ∧ ∀ j, j < ls.length → j ≠ k → getl ls j ≠ [] → bk j ≠ bk k)
theorem X2.keep {w w' : World} {v : Value} {ls : List (List Int)} {ob : Nat} {bk : Nat → Nat} (h : X2 w v ls ob bk) (ho : ls ≠ [] → w'.heap[ob]? = w.heap[ob]?) (hk : ∀ k, k < ls.length → getl ls k ≠ [] → w'.heap[bk k]? = w.heap[bk k]?) : X2 w' v ls ob bk := by
 obtain ⟨a, c, rfl, h1, h2, h, hd⟩ := h
 refine ⟨a, c, rfl, h1, h2, fun hn => ?_, hd⟩
 obtain ⟨off, cs, e, ha, hh, hc⟩ := h hn
 refine ⟨off, cs, e, ha, by rw [ho hn, hh], fun k hlt => ?_⟩
 obtain ⟨rv, h3, h4⟩ := hc k hlt
 exact ⟨rv, h3, h4.keep (hk k hlt)⟩
theorem X2.v2 {w : World} {v : Value} {ls : List (List Int)} {ob : Nat} {bk : Nat → Nat} {S : Nat → Prop} (h : X2 w v ls ob bk) (ho : ls ≠ [] → S ob) (hS : ∀ k, k < ls.length → getl ls k ≠ [] → S (bk k)) : V2 S w v ls := by
 obtain ⟨a, c, rfl, h1, h2, h, hd⟩ := h
 refine ⟨a, c, rfl, h1, h2, fun k hk => ?_⟩
 have hn : ls ≠ [] := by intro e; subst e; simp at hk
 obtain ⟨off, cs, e, ha, hh, hc⟩ := h hn
 obtain ⟨rv, h3, h4⟩ := hc k hk
 exact ⟨ob, off, rv, ha, ho hn, by rw [cell_of_block hh]; exact h3, h4.v1 (hS k hk)⟩
theorem X2.lt {w : World} {v : Value} {ls : List (List Int)} {ob : Nat} {bk : Nat → Nat} (h : X2 w v ls ob bk) (hn : ls ≠ []) : ob < w.heap.size ∧ ∀ k, k < ls.length → getl ls k ≠ [] → bk k < w.heap.size := by
 obtain ⟨a, c, rfl, h1, h2, h, hd⟩ := h
 obtain ⟨off, cs, e, ha, hh, hc⟩ := h hn
 refine ⟨lt_of_heap hh, fun k hk hne => ?_⟩
 obtain ⟨rv, h3, h4⟩ := hc k hk
 exact h4.lt hne
/-- Fresh from block B on. -/
def F1 (B : Nat) (w : World) (v : Value) (l : List Int) : Prop := ∃ b, X1 w v l b ∧ (l ≠ [] → B ≤ b)
def F2 (B : Nat) (w : World) (v : Value) (ls : List (List Int)) : Prop := ∃ ob bk, X2 w v ls ob bk ∧ (ls ≠ [] → B ≤ ob) ∧ ∀ k, k < ls.length → getl ls k ≠ [] → B ≤ bk k
theorem F1.v1 {B : Nat} {w : World} {v : Value} {l : List Int} (h : F1 B w v l) : V1 (fun b => B ≤ b) w v l := by
 obtain ⟨b, h1, h2⟩ := h
 exact h1.v1 h2
theorem F2.v2 {B : Nat} {w : World} {v : Value} {ls : List (List Int)} (h : F2 B w v ls) : V2 (fun b => B ≤ b) w v ls := by
 obtain ⟨ob, bk, h1, h2, h3⟩ := h
 exact h1.v2 h2 h3
theorem F1.mono {B B' : Nat} {w : World} {v : Value} {l : List Int} (h : F1 B w v l) (hb : B' ≤ B) : F1 B' w v l := by
 obtain ⟨c, h1, h2⟩ := h
 exact ⟨c, h1, fun hn => by have := h2 hn; omega⟩
theorem F2.mono {B B' : Nat} {w : World} {v : Value} {ls : List (List Int)} (h : F2 B w v ls) (hb : B' ≤ B) : F2 B' w v ls := by
 obtain ⟨ob, bk, h1, h2, h3⟩ := h
 exact ⟨ob, bk, h1, fun hn => by have := h2 hn; omega, fun k hk hne => by have := h3 k hk hne; omega⟩
theorem F1.below {B : Nat} {w w' : World} {v : Value} {l : List Int} (h : F1 B w v l) (hb : Below w.heap.size w w') : F1 B w' v l := by
 obtain ⟨b, h1, h2⟩ := h
 exact ⟨b, h1.keep fun hn => hb.block b (h1.lt hn), h2⟩
theorem F2.below {B : Nat} {w w' : World} {v : Value} {ls : List (List Int)} (h : F2 B w v ls) (hb : Below w.heap.size w w') : F2 B w' v ls := by
 obtain ⟨ob, bk, h1, h2, h3⟩ := h
 refine ⟨ob, bk, h1.keep (fun hn => hb.block ob (h1.lt hn).1) (fun k hk hne => hb.block _ ((h1.lt ?_).2 k hk hne)), h2, h3⟩
 intro e; subst e; simp at hk
/-- make([]T, n): a new block of n elements. -/
theorem wp_mk {P : Program} (w : World) {ops : Array Oper} {rest : List Oper} {o : Oper} {a : Act} {Q : Exit → Act → World → Prop}
  (hg : o.guard = none) (l c : Operand) (t : TypeId) (hop : o.op = Op.makeSlice t l c)
  (e : TypeId) (z : Value) (size bytes : Nat) (h1 : P.underlying t = some (.slice e)) (h2 : (P.info? e).map (fun i => (i.zero, i.size, i.bytes)) = some (some z, size, bytes))
  (n : Nat) (hl : a.eval l = .int .i64 (n : Int)) (hc : a.eval c = .int .i64 (n : Int)) (b2 : bytes * n ≤ 281474976710656) (b3 : n ≤ 9223372036854775807)
  (hK : ∀ w' cs, w'.heap[w.heap.size]? = some (.cells cs e (0, 0)) → cs.size = n * size → cs.toList = (madeCells z.cells (n * size)).toList → Below w.heap.size w w' → w.heap.size < w'.heap.size → wpList P ops Q rest (a.put o.dst (.slice (some ⟨w.heap.size, 0, none⟩) n n)) w') :
  wpList P ops Q (o :: rest) a w := by
 obtain ⟨i, hi, hz0, hz1, hz2⟩ := info_parts h2
 refine wpList_make_full w hg l c t hop w.heap.size e i z size h1 hi hz0 hz1 .i64 .i64 n n n hl hc rfl rfl (by rw [hz2]; exact b2) (by unfold maxLen; omega) (Nat.le_refl _) ?_
 intro w' hown hgrow
 obtain ⟨hlen, ⟨hv, _⟩ | ⟨g, cap, cur, hv, hg1, hh, _, _, hs, htake⟩⟩ := hown
 ·cases hv
 ·simp at hv
  obtain ⟨rfl, rfl⟩ := hv
  have ht : cur.toList = (madeCells z.cells (n * size)).toList := by
   rw [← htake, List.take_of_length_le]
   simp [hs]
  exact hK w' cur hh hs ht ((Below.refl _ _).grown hgrow (Nat.le_refl _) (fun k hk => by cases hk)) (lt_of_heap hh)
/-- An append onto a slice that the call owns, of m elements: where the result lies. -/
theorem run_append_blk {P : Program} (w : World) (base : Nat) (t ty e : TypeId) (z : Value) (size bytes : Nat) (ht : P.underlying t = some (.slice e)) (h2 : (P.info? e).map (fun i => (i.zero, i.size, i.bytes)) = some (some z, size, bytes))
  (hzs : z.cells.size = size) (hsz : 0 < size) (v : Value) (n : Nat) (xs : List Value) (hown : w.ownsRow base e size v n xs)
  (a : Addr) (m c : Nat) (news : List Value) (hl : news.length = m * size) (hnews : ∀ j u, news[j]? = some u → w.cell? (a.add j) = some u) (h1 : ∀ u ∈ news, u.oneCell' = true)
  (h63 : n + m ≤ maxLen) (hbytes : (n + m) * bytes ≤ 140737488355328) (hbase : base ≤ w.heap.size) :
  ∃ v' w', (Builtin.append_ #[t, t] ty #[v, .slice (some a) m c]).run P w = .ok v' w' ∧ w'.ownsRow base e size v' (n + m) (xs ++ news) ∧ w.grownBy w' v.ownBlock ∧ (v'.ownBlock = v.ownBlock ∨ v'.ownBlock = some w.heap.size) := by
 obtain ⟨i, hi, hz, hs, hb⟩ := info_parts h2
 obtain ⟨v', w', hr, ho, hg, hn⟩ := run_append_own (P := P) w base t ty e i z size bytes ht hi hz hs hb hzs hsz v n xs hown a m c news hl hnews h1 h63 hbytes hbase
 refine ⟨v', w', hr, ho, hg, ?_⟩
 have h63' : n + m ≤ 9223372036854775807 := by simp only [maxLen] at h63; omega
 subst hs
 subst hb
 rcases hown.2 with ⟨hv, hn0⟩ | ⟨g, cap, cur, hv, hbg, hgg, hnc, hcm, hcs, htake⟩
 ·subst hv
  subst hn0
  by_cases hm : m = 0
  ·rw [hn.2 ⟨rfl, hm⟩]; exact .inl rfl
  ·have hr2 := run_append_nil (P := P) w t ty e i z ht hi hz a m c news hl hnews (by omega) (by omega) (by have hb := hbytes; simp only [Nat.zero_add] at hb; omega)
   rw [hr2] at hr
   injection hr with e1 e2
   rw [← e1]; exact .inr rfl
 ·subst hv
  by_cases hroom : n + m ≤ cap
  ·obtain ⟨w2, hr2, _, _⟩ := run_append_fits (P := P) w base t ty e i i.size ht hi rfl g n cap xs hown a m c news hl hnews h1 hroom
   rw [hr2] at hr
   injection hr with e1 e2
   rw [← e1]; exact .inl rfl
  ·have holds : ∀ j u, xs[j]? = some u → w.cell? ((⟨g, 0, none⟩ : Addr).add j) = some u := hown.cells (g := g) rfl
   have hr2 := run_append_grow (P := P) w t ty e i z ht hi hz ⟨g, 0, none⟩ n cap xs hown.1 holds a m c news hl hnews (by omega) (by omega) (growslice_fits (by omega) hbytes)
   rw [hr2] at hr
   injection hr with e1 e2
   rw [← e1]; exact .inr rfl
theorem wp_app {P : Program} {w : World} {ops : Array Oper} {rest : List Oper} {o : Oper} {a : Act} {Q : Exit → Act → World → Prop} (hgd : o.guard = none) (s x : Operand) (t : TypeId)
  (ho : o.op = .call { callee := .builtin .append, args := #[s, x], argTypes := #[t, t] })
  (base : Nat) (e : TypeId) (z : Value) (size bytes : Nat) (ht : P.underlying t = some (.slice e)) (h2 : (P.info? e).map (fun i => (i.zero, i.size, i.bytes)) = some (some z, size, bytes)) (hzs : z.cells.size = size) (hsz : 0 < size)
  (v : Value) (n : Nat) (xs : List Value) (hs : a.eval s = v) (hown : w.ownsRow base e size v n xs)
  (ad : Addr) (m c : Nat) (news : List Value) (hx : a.eval x = .slice (some ad) m c) (hl : news.length = m * size) (hnews : ∀ j u, news[j]? = some u → w.cell? (ad.add j) = some u) (h1 : ∀ u ∈ news, u.oneCell' = true)
  (h63 : n + m ≤ maxLen) (hbytes : (n + m) * bytes ≤ 140737488355328) (hbase : base ≤ w.heap.size)
  (h : ∀ v' w', w'.ownsRow base e size v' (n + m) (xs ++ news) → w.grownBy w' v.ownBlock → (v'.ownBlock = v.ownBlock ∨ v'.ownBlock = some w.heap.size) → wpList P ops Q rest (a.put o.dst v') w') : wpList P ops Q (o :: rest) a w :=
 wpList_plain hgd fun _ hK => by
  obtain ⟨v', w', hr, h2', h3, h4⟩ := run_append_blk (P := P) w base t o.type e z size bytes ht h2 hzs hsz v n xs hown ad m c news hl hnews h1 h63 hbytes hbase
  unfold Oper.wp execOp
  simp only [ho, resolve, invoke, builtin, Sem.run_bind, Sem.run_pure, Result.andThen_ok, List.map_toArray, List.map_cons, List.map_nil, hs, hx, hr]
  exact hK _ _ (h v' w' h2' h3 h4)
/-- 'append(out, x)', x in one cell, just laid in a block of its own. -/
theorem wp_app1 {P : Program} (w0 : World) {ops : Array Oper} {rest : List Oper} {o : Oper} {a : Act} {Q : Exit → Act → World → Prop} (hgd : o.guard = none) (s x : Operand) (t : TypeId)
  (ho : o.op = .call { callee := .builtin .append, args := #[s, x], argTypes := #[t, t] })
  (base : Nat) (e : TypeId) (z : Value) (bytes : Nat) (ht : P.underlying t = some (.slice e)) (h2 : (P.info? e).map (fun i => (i.zero, i.size, i.bytes)) = some (some z, 1, bytes)) (hzs : z.cells.size = 1)
  (v : Value) (n : Nat) (xs : List Value) (hs : a.eval s = v) (hown : w0.ownsRow base e 1 v n xs) (nv : Value) (e2 : TypeId) (hx : a.eval x = .slice (some ⟨w0.heap.size, 0, none⟩) 1 1) (hone : nv.oneCell' = true)
  (hn : n + 1 ≤ 1000000000) (hby : bytes ≤ 1000) (hbase : base ≤ w0.heap.size)
  (h : ∀ v' w', w'.ownsRow base e 1 v' (n + 1) (xs ++ [nv]) → w0.grownBy w' v.ownBlock → (v'.ownBlock = v.ownBlock ∨ ∃ g, v'.ownBlock = some g ∧ w0.heap.size ≤ g) → Below base w0 w' → wpList P ops Q rest (a.put o.dst v') w') :
  wpList P ops Q (o :: rest) a (w0.alloc (.cells #[nv] e2)) := by
 have hown' := hown.alloc (.cells #[nv] e2)
 have hlt := hown.lt
 refine wp_app hgd s x t ho base e z 1 bytes ht h2 hzs (by omega) v n xs hs hown' ⟨w0.heap.size, 0, none⟩ 1 1 [nv] hx rfl ?_ (by simpa using hone) (by unfold maxLen; omega) ?_ (by simp; omega) ?_
 ·intro j u hj
  cases j with
  | zero =>
    simp at hj
    subst hj
    rw [Addr.add_zero', cell_of_block (heap_alloc_self _ _)]; rfl
  | succ j => simp at hj
 ·have : (n + 1) * bytes ≤ 1000000000 * 1000 := Nat.mul_le_mul hn hby
  omega
 ·intro v' w' ho' hg hblk
  have hg0 : w0.grownBy w' v.ownBlock := ⟨hg.os, hg.tape, hg.output, by have := hg.size; simp at this; omega, fun k hk hne => by
   rw [hg.block k (by simp; omega) hne]; exact Below.heap_alloc _ _ _ hk⟩
  refine h v' w' ho' hg0 ?_ ((Below.refl _ _).grown hg0 hbase (fun k hk => (hlt k hk).1))
  rcases hblk with hb | hb
  ·exact .inl hb
  ·exact .inr ⟨_, hb, by simp⟩
theorem own_lit0 (w : World) (base : Nat) (e : TypeId) (size : Nat) (hb : base ≤ w.heap.size) : (w.alloc (.cells #[] e)).ownsRow base e size (.slice (some ⟨w.heap.size, 0, none⟩) 0 0) 0 [] :=
 World.ownsRow_lit w #[] 0 hb (Nat.zero_le _) (by simp)
theorem box_facts (W : World) (cs : Array Value) (T : TypeId) : ∃ W1, W1 = W.alloc (.cells cs T) ∧ Below W.heap.size W W1 ∧ W.heap.size < W1.heap.size ∧ Hid (W1.heap.size = W.heap.size + 1) ∧ (∀ o, W1.cell? ⟨W.heap.size, o, none⟩ = cs[o]?) ∧ W1.heap[W.heap.size]? = some (.cells cs T (0, 0)) :=
 ⟨_, rfl, (Below.refl _ _).alloc (Nat.le_refl _) _, by simp, Lib.hid (by simp), fun o => cell_of_block (heap_alloc_self _ _) o, heap_alloc_self _ _⟩
def openS (x : Int × Int) : Bool := x.1 == -1 && x.2 == 0
def eqS (x y : Int × Int) : Bool := x.1 == y.1 && x.2 == y.2
theorem eqS_iff {x y : Int × Int} : eqS x y = true ↔ x = y := by
 obtain ⟨a, b⟩ := x; obtain ⟨c, d⟩ := y; simp [eqS]
theorem isOpenStep_any (x : Int × Int) (W : World) :
  Calls Tryd.prog 17 #[.agg #[.int .i64 x.1, .int .i64 x.2]] W fun e' w' => e' = .returned (.bool (openS x)) ∧ Below W.heap.size W w' := by
 obtain ⟨k, d⟩ := x
 go_enter Tryd.func17, Tryd.ntmps17
 go_wp2
 all_goals go_ret
 all_goals exact ⟨by simp_all [openS], by (repeat (first | (with_reducible refine Below.setCell ?_ ?_ _) | (with_reducible refine Below.alloc ?_ ?_ _) | (with_reducible refine Below.drew ?_) | (with_reducible refine below_drewN ?_ _) | (with_reducible exact Below.refl _ _) | (with_reducible assumption) | (with_reducible refine Below.trans ?_ (Below.mono (by with_reducible assumption) ?_)) | go_size))⟩
theorem l19Open_any (x : Int × Int) (W : World) :
  Calls Tryd.prog 26 #[.agg #[.int .i64 x.1, .int .i64 x.2]] W fun e' w' => e' = .returned (.bool (openS x)) ∧ Below W.heap.size W w' := by
 obtain ⟨k, d⟩ := x
 go_enter Tryd.func26, Tryd.ntmps26
 go_wp2
 all_goals go_ret
 all_goals exact ⟨by simp_all [openS], by (repeat (first | (with_reducible refine Below.setCell ?_ ?_ _) | (with_reducible refine Below.alloc ?_ ?_ _) | (with_reducible refine Below.drew ?_) | (with_reducible refine below_drewN ?_ _) | (with_reducible exact Below.refl _ _) | (with_reducible assumption) | (with_reducible refine Below.trans ?_ (Below.mono (by with_reducible assumption) ?_)) | go_size))⟩
theorem toStep_any (x : Int × Int) (W : World) :
  Calls Tryd.prog 16 #[.agg #[.int .i64 x.1, .int .i64 x.2]] W fun e' w' => e' = .returned (.agg #[.int .i64 x.1, .int .i64 x.2]) ∧ Below W.heap.size W w' := by
 obtain ⟨k, d⟩ := x
 go_enter Tryd.func16, Tryd.ntmps16
 go_wp2
 exact bodyPost_ret (v := .agg #[.int .i64 k, .int .i64 d]) (by simp [results, Tryd.results16, go_sem]) rfl ⟨rfl, by (repeat (first | (with_reducible refine Below.setCell ?_ ?_ _) | (with_reducible refine Below.alloc ?_ ?_ _) | (with_reducible refine Below.drew ?_) | (with_reducible refine below_drewN ?_ _) | (with_reducible exact Below.refl _ _) | (with_reducible assumption) | (with_reducible refine Below.trans ?_ (Below.mono (by with_reducible assumption) ?_)) | go_size))⟩
theorem eqStep_any (x y : Int × Int) (W : World) :
  Calls Tryd.prog 21 #[.agg #[.int .i64 x.1, .int .i64 x.2], .agg #[.int .i64 y.1, .int .i64 y.2]] W fun e' w' => e' = .returned (.bool (eqS x y)) ∧ Below W.heap.size W w' := by
 obtain ⟨k, d⟩ := x
 obtain ⟨k', d'⟩ := y
 go_enter Tryd.func21, Tryd.ntmps21
 go_wp2
 all_goals go_ret
 all_goals exact ⟨by simp_all [eqS], by (repeat (first | (with_reducible refine Below.setCell ?_ ?_ _) | (with_reducible refine Below.alloc ?_ ?_ _) | (with_reducible refine Below.drew ?_) | (with_reducible refine below_drewN ?_ _) | (with_reducible exact Below.refl _ _) | (with_reducible assumption) | (with_reducible refine Below.trans ?_ (Below.mono (by with_reducible assumption) ?_)) | go_size))⟩
def szI' (n : Nat) (left : Int) : Int := if left < n then -1 else left - n
theorem szI'_ok {n : Nat} {left : Int} (h0 : 0 ≤ left) : (szI' n left = -1 ∧ left < n) ∨ (szI' n left = left - n ∧ (n : Int) ≤ left) := by
 unfold szI'; split
 ·exact .inl ⟨rfl, by assumption⟩
 ·exact .inr ⟨rfl, by omega⟩
theorem szStepS_any {S : Nat → Prop} (v : Value) (l : List (Int × Int)) (left : Int) (W : World) (h : VS S W v l) (hl : 0 ≤ left ∧ left ≤ 1048576) :
  Calls Tryd.prog 5 #[v, .int .i64 left] W fun e' w' => e' = .returned (.int .i64 (szI' l.length left)) ∧ W = w' := by
 obtain ⟨a, c, rfl, hm⟩ := h.form
 go_enter Tryd.func5, Tryd.ntmps5
 go_wp2
 all_goals go_ret
 ·exact ⟨ret_int (by rw [szI', if_pos (by omega)]), rfl⟩
 ·exact ⟨ret_int (by rw [szI', if_neg (by omega)]), rfl⟩
theorem isOpenStep_b (x : Int × Int) (W : World) (r : Bool) (hr : openS x = r) :
  Calls Tryd.prog 17 #[.agg #[.int .i64 x.1, .int .i64 x.2]] W fun e' w' => e' = .returned (.bool r) ∧ Below W.heap.size W w' := by subst hr; exact isOpenStep_any _ _
theorem l19Open_b (x : Int × Int) (W : World) (r : Bool) (hr : openS x = r) :
  Calls Tryd.prog 26 #[.agg #[.int .i64 x.1, .int .i64 x.2]] W fun e' w' => e' = .returned (.bool r) ∧ Below W.heap.size W w' := by subst hr; exact l19Open_any _ _
theorem inf_step : (Tryd.prog.info? 37).map (fun i => (i.zero, i.size, i.bytes)) = some (some (.agg #[.int .i64 0, .int .i64 0]), 2, 16) := by kernel_rfl
/-- v holds steps, in block b alone. -/
def XS (w : World) (v : Value) (l : List (Int × Int)) (b : Nat) : Prop :=
 ∃ a c, v = .slice a l.length c ∧ l.length ≤ c ∧ c ≤ maxLen ∧
   (l ≠ [] → ∃ off cs e, a = some ⟨b, off, none⟩ ∧ w.heap[b]? = some (.cells cs e (0, 0)) ∧ ∀ k, k < l.length → cs[off + k * 2]? = some (.int .i64 (gets l k).1) ∧ cs[off + k * 2 + 1]? = some (.int .i64 (gets l k).2))
theorem XS.keep {w w' : World} {v : Value} {l : List (Int × Int)} {b : Nat} (h : XS w v l b) (hk : l ≠ [] → w'.heap[b]? = w.heap[b]?) : XS w' v l b := by
 obtain ⟨a, c, rfl, h1, h2, h⟩ := h
 refine ⟨a, c, rfl, h1, h2, fun hn => ?_⟩
 obtain ⟨off, cs, e, ha, hh, hc⟩ := h hn
 exact ⟨off, cs, e, ha, by rw [hk hn, hh], hc⟩
theorem XS.lt {w : World} {v : Value} {l : List (Int × Int)} {b : Nat} (h : XS w v l b) (hn : l ≠ []) : b < w.heap.size := by
 obtain ⟨a, c, rfl, h1, h2, h⟩ := h
 obtain ⟨off, cs, e, ha, hh, hc⟩ := h hn
 exact lt_of_heap hh
theorem XS.vs {w : World} {v : Value} {l : List (Int × Int)} {b : Nat} {S : Nat → Prop} (h : XS w v l b) (hS : l ≠ [] → S b) : VS S w v l := by
 obtain ⟨a, c, rfl, h1, h2, h⟩ := h
 refine ⟨a, c, rfl, h1, h2, fun k hk => ?_⟩
 have hn : l ≠ [] := by intro e; subst e; simp at hk
 obtain ⟨off, cs, e, ha, hh, hc⟩ := h hn
 exact ⟨b, off, ha, hS hn, by rw [cell_of_block hh]; exact (hc k hk).1, by rw [cell_of_block hh]; exact (hc k hk).2⟩
set_option maxRecDepth 100000 in
theorem toStepS_any {S : Nat → Prop} (v : Value) (l : List (Int × Int)) (W : World) (h : VS S W v l) (hlen : l.length ≤ 1048576) :
  Calls Tryd.prog 7 #[v] W fun e' w' => ∃ v', e' = .returned v' ∧ XS w' v' l W.heap.size ∧ W.heap.size < w'.heap.size ∧ Below W.heap.size W w' := by
 have hV := h
 obtain ⟨a, c, rfl, hm⟩ := h.form
 go_enter Tryd.func7, Tryd.ntmps7
 go_wp2_with (at_make; refine wp_mk _ rfl _ _ 26 rfl 37 (.agg #[.int .i64 0, .int .i64 0]) 2 16 Tryd.underlying26 inf_step l.length rfl rfl (by omega) (by omega) ?_; intro w1 cs0 hh0 hs0 _ hB0 hsz0)
 go_loopw [4] (fun i wr => ∃ (k : Nat) (cs : Array Value), k ≤ l.length ∧ i = .int .i64 k ∧ wr.heap[W.heap.size]? = some (.cells cs 37 (0, 0)) ∧ cs.size = l.length * 2 ∧ (∀ j, j < k → cs[j * 2]? = some (.int .i64 (gets l j).1) ∧ cs[j * 2 + 1]? = some (.int .i64 (gets l j).2)) ∧ Below W.heap.size W wr ∧ W.heap.size < wr.heap.size) (fun i _ => l.length - (intOf i).toNat)
 case atStart => exact ⟨0, cs0, Nat.zero_le _, rfl, hh0, by omega, fun j hj => by omega, hB0, hsz0⟩
 case round =>
  obtain ⟨k, cs, hk, rfl, hh, hs, hcs, hB, hsz⟩ := hrel
  by_cases hkk : k < l.length
  ·obtain ⟨b1, off1, rfl, _, hc1, hc2⟩ := (hV.below hB).cell hkk
   have Hh := Lib.hid hh; clear hh
   have Hcs := Lib.hid hcs; clear hcs
   have Hs := Lib.hid hs; clear hs
   go_wp2_with fail
   refine (toStep_any _ _).mono ?_
   rintro e' w2 ⟨rfl, hb2⟩
   have hzB := hb2.size
   have hh2 := heap_below Hh.out hb2 hsz
   obtain ⟨u0, hco⟩ : ∃ u0, w2.cell? ⟨W.heap.size, k * 2, none⟩ = some u0 := ⟨cs[k * 2]'(by have := Hs.out; omega), by rw [cell_of_block hh2]; exact Array.getElem?_eq_getElem (by have := Hs.out; omega)⟩
   obtain ⟨u1, hco1⟩ : ∃ u1, w2.cell? ⟨W.heap.size, k * 2 + 1, none⟩ = some u1 := ⟨cs[k * 2 + 1]'(by have := Hs.out; omega), by rw [cell_of_block hh2]; exact Array.getElem?_eq_getElem (by have := Hs.out; omega)⟩
   have hfo := frozen_of_block hh2 (k * 2)
   have hfo1 := frozen_of_block hh2 (k * 2 + 1)
   have Hh2 := Lib.hid hh2; clear hh2
   go_wp2_with fail
   go_roundw
   case rel =>
    refine ⟨k + 1, _, by omega, by go_num, heap_setCell_self (heap_setCell_self Hh2.out _) _, by simp [Hs.out], fun j hj => ?_, by (repeat (first | (with_reducible refine Below.setCell ?_ ?_ _) | (with_reducible refine Below.alloc ?_ ?_ _) | (with_reducible refine Below.drew ?_) | (with_reducible refine below_drewN ?_ _) | (with_reducible exact Below.refl _ _) | (with_reducible assumption) | (with_reducible refine Below.trans ?_ (Below.mono (by with_reducible assumption) ?_)) | go_size)), by simp; omega⟩
    have hs0 := Hs.out
    by_cases e : j = k
    ·subst e
     exact ⟨by rw [Array.getElem?_setIfInBounds, if_neg (by omega), Array.getElem?_setIfInBounds, if_pos rfl, if_pos (by omega)], by rw [Array.getElem?_setIfInBounds, if_pos rfl, if_pos (by simp; omega)]⟩
    ·have := Hcs.out j (by omega)
     exact ⟨by rw [Array.getElem?_setIfInBounds, if_neg (by omega), Array.getElem?_setIfInBounds, if_neg (by omega)]; exact this.1, by rw [Array.getElem?_setIfInBounds, if_neg (by omega), Array.getElem?_setIfInBounds, if_neg (by omega)]; exact this.2⟩
   case measure => simp [intOf]; omega
  ·have Hh := Lib.hid hh; clear hh
   have Hcs := Lib.hid hcs; clear hcs
   have Hs := Lib.hid hs; clear hs
   go_wp2_with fail
   go_ret
   exact ⟨_, rfl, ⟨_, _, rfl, Nat.le_refl _, by unfold maxLen; omega, fun hn => ⟨0, cs, _, rfl, Hh.out, fun j hj => by rw [Nat.zero_add]; exact Hcs.out j (by omega)⟩⟩, hsz, hB⟩
theorem eqStep_b (x y : Int × Int) (W : World) (r : Bool) (hr : eqS x y = r) :
  Calls Tryd.prog 21 #[.agg #[.int .i64 x.1, .int .i64 x.2], .agg #[.int .i64 y.1, .int .i64 y.2]] W fun e' w' => e' = .returned (.bool r) ∧ Below W.heap.size W w' := by subst hr; exact eqStep_any _ _ _
set_option maxRecDepth 100000 in
theorem eqStepS_any {S S' : Nat → Prop} (va vb : Value) (a b : List (Int × Int)) (W : World) (ha : VS S W va a) (hb : VS S' W vb b) :
  Calls Tryd.prog 9 #[va, vb] W fun e' w' => e' = .returned (.bool (decide (a = b))) ∧ Below W.heap.size W w' := by
 have hA := ha
 have hB := hb
 obtain ⟨pa, ca, rfl, hma⟩ := ha.form
 obtain ⟨pb, cb, rfl, hmb⟩ := hb.form
 by_cases hl : a.length = b.length
 ·have hle : ((a.length : Int) == (b.length : Int)) = true := by simp; omega
  have hle2 : ((a.length : Int) != (b.length : Int)) = false := by simp; omega
  have Hl := Lib.hid hl; clear hl
  go_enter Tryd.func9, Tryd.ntmps9
  go_wp2_with fail
  go_loopw [5] (fun i wr => ∃ k : Nat, k ≤ a.length ∧ i = .int .i64 k ∧ a.take k = b.take k ∧ Below W.heap.size W wr) (fun i _ => a.length - (intOf i).toNat)
  case atStart => exact ⟨0, Nat.zero_le _, rfl, rfl, Below.refl _ _⟩
  case round =>
   obtain ⟨k, hk, rfl, hpre, hBw⟩ := hrel
   have Hpre := Lib.hid hpre; clear hpre
   have hzW := hBw.size
   by_cases hkk : k < a.length
   ·have hkb : k < b.length := by rw [← Hl.out]; exact hkk
    obtain ⟨b1, off1, rfl, _, hc1, hc1'⟩ := (hA.below hBw).cell hkk
    obtain ⟨b2, off2, rfl, _, hc2, hc2'⟩ := (hB.below hBw).cell hkb
    cases he : eqS (gets a k) (gets b k)
    ·have hne : decide (a = b) = false := decide_eq_false (fun e => by
      have : eqS (gets a k) (gets b k) = true := eqS_iff.2 (by rw [e])
      rw [he] at this; cases this)
     have Hne := Lib.hid hne; clear hne
     have He := Lib.hid he; clear he
     go_wp2_with fail
     go_still_tail 8, (by kernel_rfl)
     change wpList _ _ _ _ _ wr.drew
     go_wp2_with (go_at_call 21; refine (eqStep_b _ _ _ _ He.out).mono ?_; rintro e' w' ⟨rfl, hb⟩; have hzB := hb.size; (try simp only [World.size_alloc, World.size_setCell, World.size_drew] at hzB))
     go_ret
     exact ⟨ret_bool Hne.out.symm, by (repeat (first | (with_reducible refine Below.setCell ?_ ?_ _) | (with_reducible refine Below.alloc ?_ ?_ _) | (with_reducible refine Below.drew ?_) | (with_reducible refine below_drewN ?_ _) | (with_reducible exact Below.refl _ _) | (with_reducible assumption) | (with_reducible refine Below.trans ?_ (Below.mono (by with_reducible assumption) ?_)) | go_size))⟩
    ·have heq := eqS_iff.1 he
     have Heq := Lib.hid heq; clear heq
     have He := Lib.hid he; clear he
     go_wp2_with fail
     go_still_tail 8, (by kernel_rfl)
     change wpList _ _ _ _ _ wr.drew
     go_wp2_with (go_at_call 21; refine (eqStep_b _ _ _ _ He.out).mono ?_; rintro e' w' ⟨rfl, hb⟩; have hzB := hb.size; (try simp only [World.size_alloc, World.size_setCell, World.size_drew] at hzB))
     go_roundw
     case rel => exact ⟨k + 1, by omega, by go_num, by rw [take_gets hkk, take_gets hkb, Hpre.out, Heq.out], by (repeat (first | (with_reducible refine Below.setCell ?_ ?_ _) | (with_reducible refine Below.alloc ?_ ?_ _) | (with_reducible refine Below.drew ?_) | (with_reducible refine below_drewN ?_ _) | (with_reducible exact Below.refl _ _) | (with_reducible assumption) | (with_reducible refine Below.trans ?_ (Below.mono (by with_reducible assumption) ?_)) | go_size))⟩
     case measure => simp [intOf]; omega
   ·have hab : a = b := by
     have := Hpre.out
     rw [List.take_of_length_le (by omega), List.take_of_length_le (by rw [← Hl.out]; omega)] at this
     exact this
    have heq : decide (a = b) = true := decide_eq_true hab
    have Heq := Lib.hid heq; clear heq hab
    go_wp2_with fail
    go_ret
    exact ⟨ret_bool Heq.out.symm, hBw⟩
 ·have hne : decide (a = b) = false := decide_eq_false (fun e => hl (by rw [e]))
  rw [hne]
  have hne2 : ((a.length : Int) == (b.length : Int)) = false := by simp; omega
  have hne3 : ((a.length : Int) != (b.length : Int)) = true := by simp; omega
  clear hne
  go_enter Tryd.func9, Tryd.ntmps9
  go_wp2_with fail
  go_ret
  exact ⟨rfl, Below.refl _ _⟩
theorem eqStepS_b {S S' : Nat → Prop} (va vb : Value) (a b : List (Int × Int)) (W : World) (r : Bool) (hr : decide (a = b) = r) (ha : VS S W va a) (hb : VS S' W vb b) :
  Calls Tryd.prog 9 #[va, vb] W fun e' w' => e' = .returned (.bool r) ∧ Below W.heap.size W w' := by subst hr; exact eqStepS_any va vb a b W ha hb
def inB (n lo hi : Int) : Bool := decide (lo ≤ n) && decide (n ≤ hi)
theorem inB_iff {n lo hi : Int} : inB n lo hi = true ↔ lo ≤ n ∧ n ≤ hi := by simp [inB]
/-- The string of a list of bytes. -/
def bs (l : List UInt8) : ByteArray := ⟨l.toArray⟩
theorem bs_app (a b : List UInt8) : bs a ++ bs b = bs (a ++ b) := by
 apply ByteArray.ext
 simp [bs]
theorem bs_size (l : List UInt8) : (bs l).size = l.length := by simp [bs, ByteArray.size]
def decW (n : Int) : List UInt8 := Lib.decDigits n.toNat
def wordS (x : Int × Int) : List UInt8 := if openS x = true then [43] else decW x.1 ++ [47] ++ decW x.2
def fitS (x : Int × Int) : Bool := openS x || (inB x.1 0 9 && inB x.2 0 11)
def fitTo (l : List (Int × Int)) : Nat → Bool
 | 0 => true
 | k + 1 => fitTo l k && fitS (gets l k)
def wordsTo (l : List (Int × Int)) : Nat → List (List UInt8)
 | 0 => []
 | k + 1 => wordsTo l k ++ [wordS (gets l k)]
def txtTo (l : List (Int × Int)) : Nat → List UInt8
 | 0 => []
 | k + 1 => txtTo l k ++ (if 0 < k then [32] else []) ++ wordS (gets l k)
def stxAns (l : List (Int × Int)) : List UInt8 × Int :=
 if fitTo l l.length = false then ([], 2) else if 1200 < l.length then ([], 3) else (txtTo l l.length, 0)
theorem fitTo_false {l : List (Int × Int)} {k : Nat} (h : fitTo l k = false) : ∀ n, k ≤ n → fitTo l n = false := by
 intro n hn
 induction n with
 | zero => obtain rfl : k = 0 := by omega
           exact h
 | succ n ih =>
   by_cases e : k = n + 1
   ·subst e; exact h
   ·unfold fitTo; rw [ih (by omega)]; rfl
theorem fitTo_at {l : List (Int × Int)} {n k : Nat} (h : fitTo l n = true) (hk : k < n) : fitS (gets l k) = true := by
 induction n with
 | zero => omega
 | succ n ih =>
   unfold fitTo at h
   rw [Bool.and_eq_true] at h
   by_cases e : k = n
   ·subst e; exact h.2
   ·exact ih h.1 (by omega)
theorem wordsTo_len (l : List (Int × Int)) : ∀ k, (wordsTo l k).length = k
 | 0 => rfl
 | k + 1 => by simp [wordsTo, wordsTo_len l k]
theorem joinTail_snoc (sep x : List UInt8) (r : List (List UInt8)) : Lib.joinTail sep (r ++ [x]) = Lib.joinTail sep r ++ (sep ++ x) := by
 simp [Lib.joinTail]
theorem txt_join (l : List (Int × Int)) : ∀ k, txtTo l k = Lib.join (wordsTo l k) [32]
 | 0 => rfl
 | k + 1 => by
   unfold txtTo wordsTo
   rw [txt_join l k]
   have hl := wordsTo_len l k
   cases hw : wordsTo l k with
   | nil =>
     rw [hw] at hl
     obtain rfl : k = 0 := by simpa using hl.symm
     rw [List.nil_append, Lib.join_one, Lib.join_nil]
     simp
   | cons x r =>
     rw [hw] at hl
     have hk : 0 < k := by simp at hl; omega
     rw [if_pos hk, List.cons_append, Lib.join_cons, Lib.join_cons, joinTail_snoc]
     simp
theorem dec_small {n : Int} (h0 : 0 ≤ n) (h1 : n ≤ 11) : (decW n).length ≤ 2 := by
 unfold decW
 have : n = 0 ∨ n = 1 ∨ n = 2 ∨ n = 3 ∨ n = 4 ∨ n = 5 ∨ n = 6 ∨ n = 7 ∨ n = 8 ∨ n = 9 ∨ n = 10 ∨ n = 11 := by omega
 rcases this with rfl | rfl | rfl | rfl | rfl | rfl | rfl | rfl | rfl | rfl | rfl | rfl <;> (unfold Lib.decDigits; simp) <;> (unfold Lib.decDigits; simp)
theorem word_small {x : Int × Int} (h : fitS x = true) : (wordS x).length ≤ 5 := by
 unfold wordS
 by_cases ho : openS x = true
 ·rw [if_pos ho]; simp
 ·rw [if_neg ho]
  unfold fitS at h
  rw [show openS x = false by simpa using ho, Bool.false_or, Bool.and_eq_true, inB_iff, inB_iff] at h
  have h1 := dec_small h.1.1 (by omega)
  have h2 := dec_small h.2.1 h.2.2
  simp; omega
theorem txt_len {l : List (Int × Int)} {n : Nat} (h : fitTo l n = true) : ∀ k, k ≤ n → (txtTo l k).length ≤ 6 * k
 | 0, _ => Nat.le_refl _
 | k + 1, hk => by
   have h1 := txt_len h k (by omega)
   have h2 := word_small (fitTo_at h (show k < n by omega))
   unfold txtTo
   rw [List.length_append, List.length_append]
   split <;> simp <;> omega
end Go.Proofs.YtmjplkbmhdkggaaDoor
namespace Go.Proofs
open Go.Shelf
def Tryd.lays156_ren : Go.Shelf.Ren := ⟨fun | 156 => 20 | 165 => 30 | 166 => 31 | 169 => 32 | 240 => 36 | 241 => 37 | 276 => 46 | 277 => 47 | n => n, fun | 31 => 40 | 9 => 9 | 3 => 3 | 4 => 4 | 0 => 0 | 20 => 20 | 72 => 57 | 76 => 61 | 70 => 54 | 37 => 55 | 75 => 60 | 127 => 65 | 164 => 77 | 5 => 5 | 80 => 63 | n => n, fun | n => n⟩
theorem Tryd.lays156 : Go.Proofs.Lays.n156 Tryd.prog Tryd.lays156_ren := {
 mixed := by kernel_rfl
 f156 := Tryd.func20.trans (congrArg some (by kernel_rfl))
 f165 := Tryd.func30.trans (congrArg some (by kernel_rfl))
 f166 := Tryd.func31.trans (congrArg some (by kernel_rfl))
 f169 := Tryd.func32.trans (congrArg some (by kernel_rfl))
 f240 := Tryd.func36.trans (congrArg some (by kernel_rfl))
 f241 := Tryd.func37.trans (congrArg some (by kernel_rfl))
 f276 := Tryd.func46.trans (congrArg some (by kernel_rfl))
 f277 := Tryd.func47.trans (congrArg some (by kernel_rfl))
 t0 := Tryd.underlying0
 a0 := Tryd.isAgg0
 z0 := Tryd.sizeOf0
 v0 := Tryd.zeroValue0
 t3 := Tryd.underlying3
 a3 := Tryd.isAgg3
 z3 := Tryd.sizeOf3
 v3 := Tryd.zeroValue3
 t4 := Tryd.underlying4
 a4 := Tryd.isAgg4
 z4 := Tryd.sizeOf4
 v4 := Tryd.zeroValue4
 t9 := Tryd.underlying9
 a9 := Tryd.isAgg9
 z9 := Tryd.sizeOf9
 v9 := Tryd.zeroValue9
 t20 := Tryd.underlying20
 a20 := Tryd.isAgg20
 z20 := Tryd.sizeOf20
 v20 := Tryd.zeroValue20
 t31 := Tryd.underlying40
 a31 := Tryd.isAgg40
 z31 := Tryd.sizeOf40
 v31 := Tryd.zeroValue40
 t37 := Tryd.underlying55
 a37 := Tryd.isAgg55
 z37 := Tryd.sizeOf55
 v37 := Tryd.zeroValue55
 t70 := Tryd.underlying54
 a70 := Tryd.isAgg54
 z70 := Tryd.sizeOf54
 v70 := Tryd.zeroValue54
 t72 := Tryd.underlying57
 a72 := Tryd.isAgg57
 z72 := Tryd.sizeOf57
 v72 := Tryd.zeroValue57
 t75 := Tryd.underlying60
 a75 := Tryd.isAgg60
 z75 := Tryd.sizeOf60
 v75 := Tryd.zeroValue60
 t76 := Tryd.underlying61
 a76 := Tryd.isAgg61
 z76 := Tryd.sizeOf61
 v76 := Tryd.zeroValue61
 t127 := Tryd.underlying65
 a127 := Tryd.isAgg65
 z127 := Tryd.sizeOf65
 v127 := Tryd.zeroValue65
 t164 := Tryd.underlying77
 a164 := Tryd.isAgg77
 z164 := Tryd.sizeOf77
 v164 := Tryd.zeroValue77 }
theorem Tryd.Builder_Extra_156 : Builder.Extra Tryd.prog Tryd.lays156_ren := {
 sizeBuilder := by kernel_rfl
 liesBuilder := by kernel_rfl
 t5 := Tryd.underlying5
 a5 := Tryd.isAgg5
 z5 := Tryd.sizeOf5
 v5 := Tryd.zeroValue5
 infoByte := by kernel_rfl
 cellsByte := by kernel_rfl
 sizeByte := by kernel_rfl
 neB5 := by decide }
open Go.RowKit in
/-- No element: the empty string; the world is as it was. (Whatever the slice's address and capacity: a nil slice too.) (LAID: no walk: one application.) -/
theorem Tryd.strings_Join_none (a : Option Addr) (c : Nat) (sep : ByteArray) (w : World) :
  Calls Tryd.prog 20 #[.slice a 0 c, .string sep] w fun e w' => e = .returned (.string ⟨#[]⟩) ∧ w' = w := Any.strings_Join_none Tryd.lays156 Tryd.Builder_Extra_156 a c sep w
open Go.RowKit in
/-- strings.Join: "Join concatenates the elements of its first argument to create a single string. The separator string sep is placed between elements in the resulting string.": HOWEVER MANY ELEMENTS. Below the heap's end the world is as it was. (LAID: no walk: one application.) -/
theorem Tryd.strings_Join (bk o c : Nat) (xs : List ByteArray) (sep : ByteArray) (w : World) (hcells : ∀ (j : Nat) x, xs[j]? = some x → w.cell? ⟨bk, o + j, none⟩ = some (.string x)) (hbk : bk < w.heap.size) (hN : xs.length ≤ 140737488355328) (hcap : xs.length ≤ c) (hlen : (Lib.join (xs.map (·.data.toList)) sep.data.toList).length ≤ 140737488355328) :
  Calls Tryd.prog 20 #[.slice (some ⟨bk, o, none⟩) xs.length c, .string sep] w fun e w' => e = .returned (.string ⟨(Lib.join (xs.map (·.data.toList)) sep.data.toList).toArray⟩) ∧ Below w.heap.size w w' := Any.strings_Join Tryd.lays156 Tryd.Builder_Extra_156 bk o c xs sep w hcells hbk hN hcap hlen
def Tryd.lays173_ren : Go.Shelf.Ren := ⟨fun | 173 => 29 | 246 => 35 | 283 => 42 | 284 => 43 | 285 => 44 | 286 => 45 | 129 => 55 | 317 => 54 | 318 => 56 | 319 => 57 | 320 => 58 | 337 => 69 | 338 => 70 | n => n, fun | 2 => 2 | 3 => 3 | 9 => 9 | 4 => 4 | 171 => 71 | 0 => 0 | 53 => 72 | 37 => 55 | 5 => 5 | 173 => 75 | 212 => 87 | 51 => 88 | 20 => 20 | 213 => 89 | 46 => 91 | 232 => 111 | 233 => 112 | n => n, fun | 17 => 0 | 18 => 6 | 19 => 7 | n => n⟩
theorem Tryd.lays173 : Go.Proofs.Lays.n173 Tryd.prog Tryd.lays173_ren := {
 mixed := by kernel_rfl
 f129 := Tryd.func55.trans (congrArg some (by kernel_rfl))
 f173 := Tryd.func29.trans (congrArg some (by kernel_rfl))
 f246 := Tryd.func35.trans (congrArg some (by kernel_rfl))
 f283 := Tryd.func42.trans (congrArg some (by kernel_rfl))
 f284 := Tryd.func43.trans (congrArg some (by kernel_rfl))
 f285 := Tryd.func44.trans (congrArg some (by kernel_rfl))
 f286 := Tryd.func45.trans (congrArg some (by kernel_rfl))
 f317 := Tryd.func54.trans (congrArg some (by kernel_rfl))
 f318 := Tryd.func56.trans (congrArg some (by kernel_rfl))
 f319 := Tryd.func57.trans (congrArg some (by kernel_rfl))
 f320 := Tryd.func58.trans (congrArg some (by kernel_rfl))
 f337 := Tryd.func69.trans (congrArg some (by kernel_rfl))
 f338 := Tryd.func70.trans (congrArg some (by kernel_rfl))
 t0 := Tryd.underlying0
 a0 := Tryd.isAgg0
 z0 := Tryd.sizeOf0
 v0 := Tryd.zeroValue0
 t2 := Tryd.underlying2
 a2 := Tryd.isAgg2
 z2 := Tryd.sizeOf2
 v2 := Tryd.zeroValue2
 t3 := Tryd.underlying3
 a3 := Tryd.isAgg3
 z3 := Tryd.sizeOf3
 v3 := Tryd.zeroValue3
 t4 := Tryd.underlying4
 a4 := Tryd.isAgg4
 z4 := Tryd.sizeOf4
 v4 := Tryd.zeroValue4
 t5 := Tryd.underlying5
 a5 := Tryd.isAgg5
 z5 := Tryd.sizeOf5
 v5 := Tryd.zeroValue5
 t9 := Tryd.underlying9
 a9 := Tryd.isAgg9
 z9 := Tryd.sizeOf9
 v9 := Tryd.zeroValue9
 t20 := Tryd.underlying20
 a20 := Tryd.isAgg20
 z20 := Tryd.sizeOf20
 v20 := Tryd.zeroValue20
 t37 := Tryd.underlying55
 a37 := Tryd.isAgg55
 z37 := Tryd.sizeOf55
 v37 := Tryd.zeroValue55
 t46 := Tryd.underlying91
 a46 := Tryd.isAgg91
 z46 := Tryd.sizeOf91
 v46 := Tryd.zeroValue91
 t51 := Tryd.underlying88
 a51 := Tryd.isAgg88
 z51 := Tryd.sizeOf88
 v51 := Tryd.zeroValue88
 t53 := Tryd.underlying72
 a53 := Tryd.isAgg72
 z53 := Tryd.sizeOf72
 v53 := Tryd.zeroValue72
 t171 := Tryd.underlying71
 a171 := Tryd.isAgg71
 z171 := Tryd.sizeOf71
 v171 := Tryd.zeroValue71
 t173 := Tryd.underlying75
 a173 := Tryd.isAgg75
 z173 := Tryd.sizeOf75
 v173 := Tryd.zeroValue75
 t212 := Tryd.underlying87
 a212 := Tryd.isAgg87
 z212 := Tryd.sizeOf87
 v212 := Tryd.zeroValue87
 t213 := Tryd.underlying89
 a213 := Tryd.isAgg89
 z213 := Tryd.sizeOf89
 t232 := Tryd.underlying111
 a232 := Tryd.isAgg111
 z232 := Tryd.sizeOf111
 v232 := Tryd.zeroValue111
 t233 := Tryd.underlying112
 a233 := Tryd.isAgg112
 z233 := Tryd.sizeOf112
 v233 := Tryd.zeroValue112
 g17 := by kernel_rfl
 g18 := by kernel_rfl
 g19 := by kernel_rfl }
open Go.RowKit Go.Sort Go.Lib in
/-- THE ROAD WITHOUT THE TABLE: 0 <= i < 100. (LAID: no walk: one application.) -/
theorem Tryd.strconv_FormatInt_10_small (i : Nat) (hi : i < 100) (w : World) :
  Calls Tryd.prog 29 #[.int .i64 i, .int .i64 10] w fun e w' => e = .returned (.string ⟨(Lib.decDigits i).toArray⟩) ∧ w' = w := Any.strconv_FormatInt_10_small Tryd.lays173 i hi w
end Go.Proofs
namespace Go.Proofs.YtmjplkbmhdkggaaDoor
open Go.RowKit
set_option linter.unusedVariables false
set_option linter.unusedSimpArgs false
/-- From w to w' only blocks of F may turn, and new blocks may come. -/
structure Chg (F : Nat → Prop) (w w' : World) : Prop where
 os : w'.os = w.os
 tape : w'.tape = w.tape
 output : w'.output = w.output
 size : w.heap.size ≤ w'.heap.size
 block : ∀ k, k < w.heap.size → ¬ F k → w'.heap[k]? = w.heap[k]?
theorem Chg.refl (F : Nat → Prop) (w : World) : Chg F w w := ⟨rfl, rfl, rfl, Nat.le_refl _, fun _ _ _ => rfl⟩
theorem Chg.trans {F G : Nat → Prop} {a b c : World} (h : Chg F a b) (k : Chg G b c) (hs : ∀ i, G i → F i ∨ a.heap.size ≤ i) : Chg F a c :=
 ⟨k.os.trans h.os, k.tape.trans h.tape, k.output.trans h.output, Nat.le_trans h.size k.size, fun i hi hf => by
  rw [k.block i (Nat.lt_of_lt_of_le hi h.size) (fun hg => by rcases hs i hg with h1 | h1; exact hf h1; omega), h.block i hi hf]⟩
theorem Chg.of_below {F : Nat → Prop} {a b : World} (h : Below a.heap.size a b) : Chg F a b := ⟨h.os, h.tape, h.output, h.size, fun k hk _ => h.block k hk⟩
theorem Chg.then_below {F : Nat → Prop} {a b c : World} (h : Chg F a b) (k : Below b.heap.size b c) : Chg F a c := h.trans (Chg.of_below (F := fun _ => False) k) (fun _ h => h.elim)
theorem Chg.mono {F G : Nat → Prop} {a b : World} (h : Chg F a b) (hs : ∀ i, F i → G i) : Chg G a b := ⟨h.os, h.tape, h.output, h.size, fun k hk hf => h.block k hk (fun x => hf (hs k x))⟩
theorem Chg.alloc {F : Nat → Prop} {a w : World} (h : Chg F a w) (o : Obj) : Chg F a (w.alloc o) :=
 h.then_below ((Below.refl _ _).alloc (Nat.le_refl _) _)
theorem Chg.drew {F : Nat → Prop} {a w : World} (h : Chg F a w) : Chg F a w.drew := ⟨h.os, h.tape, h.output, h.size, h.block⟩
theorem Chg.setCell {F : Nat → Prop} {a w : World} (h : Chg F a w) {p : Addr} (hp : F p.block ∨ a.heap.size ≤ p.block) (u : Value) : Chg F a (w.setCell p u) :=
 h.trans (G := fun i => i = p.block) ⟨rfl, rfl, rfl, by simp [World.setCell], fun k hk hf => Below.heap_setCell _ _ _ _ hf⟩ (fun i hi => by rw [hi]; exact hp)
theorem Chg.grown {F : Nat → Prop} {a w w' : World} {row : Option Nat} (h : Chg F a w) (hg : w.grownBy w' row) (hr : ∀ k, row = some k → F k ∨ a.heap.size ≤ k) : Chg F a w' :=
 h.trans (G := fun i => row = some i) ⟨hg.os, hg.tape, hg.output, hg.size, fun k hk hf => hg.block k hk (fun e => hf e.symm)⟩ hr
theorem Chg.keep {F S : Nat → Prop} {a w : World} (h : Chg F a w) (hs : ∀ b, S b → ¬ F b) : Keep S a w := fun b hb hlt => h.block b hlt (hs b hb)
theorem Chg.cell {F : Nat → Prop} {a w : World} (h : Chg F a w) {b : Nat} (hb : b < a.heap.size) (hf : ¬ F b) (o : Nat) : w.cell? ⟨b, o, none⟩ = a.cell? ⟨b, o, none⟩ :=
 World.cell?_of_block (w := a) (a := ⟨b, o, none⟩) (h.block b hb hf)
theorem Chg.frozen {F : Nat → Prop} {a w : World} (h : Chg F a w) {b : Nat} (hb : b < a.heap.size) (hf : ¬ F b) (o : Nat) : w.frozen? ⟨b, o, none⟩ = a.frozen? ⟨b, o, none⟩ :=
 World.frozen?_of_block (w := a) (a := ⟨b, o, none⟩) (h.block b hb hf)
theorem Chg.heap {F : Nat → Prop} {a w : World} {b : Nat} {o : Obj} (h : Chg F a w) (ha : a.heap[b]? = some o) (hf : ¬ F b) : w.heap[b]? = some o := by
 rw [h.block b (lt_of_heap ha) hf, ha]
/-- What is owned stays owned while other blocks turn. -/
theorem own_chg {F : Nat → Prop} {w w' : World} {base : Nat} {e : TypeId} {v : Value} {n : Nat} {xs : List Value} (h : w.ownsRow base e 1 v n xs) (hc : Chg F w w') (hf : ∀ g, v.ownBlock = some g → ¬ F g) : w'.ownsRow base e 1 v n xs := by
 refine ⟨h.1, ?_⟩
 rcases h.2 with h0 | ⟨g, cap, cur, rfl, h1, h2, h3⟩
 ·exact .inl h0
 ·exact .inr ⟨g, cap, cur, rfl, h1, hc.heap h2 (hf g rfl), h3⟩
theorem own_form {w : World} {B : Nat} {e : TypeId} {v : Value} {n : Nat} {xs : List Value} (h : w.ownsRow B e 1 v n xs) : ∃ a c, v = .slice a n c ∧ n ≤ c ∧ c ≤ maxLen := by
 rcases h.2 with ⟨rfl, h0⟩ | ⟨g, cap, cur, rfl, h1, h2, h3, h4, _⟩
 ·subst h0; exact ⟨_, _, rfl, Nat.le_refl _, Nat.zero_le _⟩
 ·exact ⟨_, _, rfl, h3, h4⟩
end Go.Proofs.YtmjplkbmhdkggaaDoor
