/- What the program's visit of all keys keeps, and how. No conditions. -/
import Derived.Test.YtlfnadmbelngeaaFault3
import Derived.Deep.RegionHeld3
import Derived.StillTailTactics
namespace Go.Proofs.Ytlfnadmbelngeaa
open Go.RowKit
set_option linter.unusedVariables false
set_option linter.unusedSimpArgs false

/-- What a visit does to a state, and to the memory that bears it: F are the blocks that it may write. -/
structure VisOk {σ : Type} (C : Nat) (w0 : World) (F0 : Nat → Prop) (f : FuncId) (caps : Array Value) (step : σ → List Int → σ × Bool) (s0 : σ) (L : List (List Int)) (Inv : σ → (Nat → Prop) → World → Prop) : Prop where
  enters : Enters f
  keep : ∀ s F w w', Inv s F w → w.heap.size ≤ w'.heap.size → (∀ b, F b → w'.heap[b]? = w.heap[b]?) → Inv s F w'
  lt : ∀ s F w, Inv s F w → ∀ b, F b → b < w.heap.size
  call : ∀ (s : σ) (F S : Nat → Prop) (w : World) (v : Value) (key : List Int) (done rest : List (List Int)), L = done ++ key :: rest → runL step s0 done = (s, true) → Inv s F w → Chg F0 w0 w → (∀ b, F b → F0 b ∨ w0.heap.size ≤ b) →
    V1 S w v key → (∀ b, S b → ¬ F b) → key.length = C →
    Calls Try.prog f (#[v] ++ caps) w fun e w' => ∃ F', e = .returned (.bool (step s key).2) ∧ Inv (step s key).1 F' w' ∧ Chg F w w' ∧ ∀ b, F' b → F b ∨ w.heap.size ≤ b

/-- The blocks that the visit of all keys makes for itself. -/
structure EK where
  k : Nat
  m : Nat
  v : Nat
  f : Nat
  a : Nat
  c : Nat
def EK.has (o : EK) (b : Nat) : Prop := b = o.k ∨ b = o.m ∨ b = o.v ∨ b = o.f ∨ b = o.a ∨ b = o.c
def cutV (o : EK) : Value := .func (.func 85) #[] #[.pointer (some ⟨o.k, 0, none⟩), .pointer (some ⟨o.m, 0, none⟩), .pointer (some ⟨o.v, 0, none⟩), .pointer (some ⟨o.f, 0, none⟩), .pointer (some ⟨o.a, 0, none⟩), .pointer (some ⟨o.c, 0, none⟩)]

/-- The state of the visit: the key so far lies in block o.k, all else is as it was made. -/
structure ES {σ : Type} (m : Mk) (w0 : World) (F0 : Nat → Prop) (Inv : σ → (Nat → Prop) → World → Prop) (o : EK) (fv av vv : Value) (s : σ) (F : Nat → Prop) (w : World) (pre : List Int) (kv : Value) : Prop where
  chg : Chg F0 w0 w
  sub : ∀ b, F b → F0 b ∨ w0.heap.size ≤ b
  inv : Inv s F w
  lt : ∀ b, F b → b < w.heap.size
  new : ∀ b, o.has b → w0.heap.size ≤ b ∧ b < w.heap.size ∧ ¬ F b
  ne : o.k ≠ o.m ∧ o.k ≠ o.v ∧ o.k ≠ o.f ∧ o.k ≠ o.a ∧ o.k ≠ o.c
  hm : ∃ T, w.heap[o.m]? = some (.cells #[.int .i64 m.c, .int .i64 m.d, .int .i64 m.s, .int .i64 m.e, .int .i64 m.l] T (0, 0))
  hv : ∃ T, w.heap[o.v]? = some (.cells #[vv] T (0, 0))
  hf : ∃ T, w.heap[o.f]? = some (.cells #[fv] T (0, 0))
  ha : ∃ T, w.heap[o.a]? = some (.cells #[av] T (0, 0))
  hc : ∃ T, w.heap[o.c]? = some (.cells #[cutV o] T (0, 0))
  hk : ∃ T, w.heap[o.k]? = some (.cells #[kv] T (0, 0))
  own : w.ownsRow w0.heap.size 2 1 kv pre.length (pre.map (Value.int .i64))
  far : ∀ g, kv.ownBlock = some g → ¬ F g ∧ ¬ o.has g

section
variable {σ : Type} {m : Mk} {w0 : World} {F0 : Nat → Prop} {Inv : σ → (Nat → Prop) → World → Prop} {o : EK} {fv av vv kv : Value} {s s' : σ} {F F' : Nat → Prop} {w w' : World} {pre : List Int}

theorem has_k (o : EK) : o.has o.k := .inl rfl
theorem has_m (o : EK) : o.has o.m := .inr (.inl rfl)
theorem has_v (o : EK) : o.has o.v := .inr (.inr (.inl rfl))
theorem has_f (o : EK) : o.has o.f := .inr (.inr (.inr (.inl rfl)))
theorem has_a (o : EK) : o.has o.a := .inr (.inr (.inr (.inr (.inl rfl))))
theorem has_c (o : EK) : o.has o.c := .inr (.inr (.inr (.inr (.inr rfl))))

/-- After a visit. -/
theorem ES.visit (h : ES m w0 F0 Inv o fv av vv s F w pre kv) (hi : Inv s' F' w') (hl : ∀ b, F' b → b < w'.heap.size) (hc : Chg F w w') (hs : ∀ b, F' b → F b ∨ w.heap.size ≤ b) : ES m w0 F0 Inv o fv av vv s' F' w' pre kv := by
  have hnew : ∀ b, b < w.heap.size → ¬ F b → ¬ F' b := fun b h1 h2 h3 => by rcases hs b h3 with h4 | h4; exact h2 h4; omega
  have hget : ∀ b, o.has b → ∀ {x : Obj}, w.heap[b]? = some x → w'.heap[b]? = some x := fun b hb x hx => hc.heap hx (h.new b hb).2.2
  refine ⟨h.chg.trans hc h.sub, fun b hb => ?_, hi, hl, fun b hb => ⟨(h.new b hb).1, Nat.lt_of_lt_of_le (h.new b hb).2.1 hc.size, hnew b (h.new b hb).2.1 (h.new b hb).2.2⟩, h.ne, ?_, ?_, ?_, ?_, ?_, ?_, own_chg h.own hc (fun g hg => (h.far g hg).1), fun g hg => ⟨hnew g (h.own.lt g hg).2 (h.far g hg).1, (h.far g hg).2⟩⟩
  · rcases hs b hb with h1 | h1
    · exact h.sub b h1
    · exact .inr (Nat.le_trans h.chg.size h1)
  · obtain ⟨T, hT⟩ := h.hm; exact ⟨T, hget _ (has_m o) hT⟩
  · obtain ⟨T, hT⟩ := h.hv; exact ⟨T, hget _ (has_v o) hT⟩
  · obtain ⟨T, hT⟩ := h.hf; exact ⟨T, hget _ (has_f o) hT⟩
  · obtain ⟨T, hT⟩ := h.ha; exact ⟨T, hget _ (has_a o) hT⟩
  · obtain ⟨T, hT⟩ := h.hc; exact ⟨T, hget _ (has_c o) hT⟩
  · obtain ⟨T, hT⟩ := h.hk; exact ⟨T, hget _ (has_k o) hT⟩
/-- After draws. -/
theorem ES.draw (V : ∀ s F w w', Inv s F w → w.heap.size ≤ w'.heap.size → (∀ b, F b → w'.heap[b]? = w.heap[b]?) → Inv s F w') (h : ES m w0 F0 Inv o fv av vv s F w pre kv) (n : Nat) : ES m w0 F0 Inv o fv av vv s F (w.drewN n) pre kv :=
  h.visit (V _ _ _ _ h.inv (Nat.le_refl _) (fun _ _ => rfl)) h.lt ⟨rfl, rfl, rfl, Nat.le_refl _, fun _ _ _ => rfl⟩ (fun b hb => .inl hb)

/-- The key's slice is written anew, in a world in which only its own blocks have turned. -/
theorem ES.store (V : ∀ s F w w', Inv s F w → w.heap.size ≤ w'.heap.size → (∀ b, F b → w'.heap[b]? = w.heap[b]?) → Inv s F w') {G : Nat → Prop} {w1 : World} {kv' : Value} {pre' : List Int}
    (h : ES m w0 F0 Inv o fv av vv s F w pre kv) (hg : Chg G w w1) (hG : ∀ b, G b → kv.ownBlock = some b) (hown : w1.ownsRow w0.heap.size 2 1 kv' pre'.length (pre'.map (Value.int .i64))) (hb : kv'.ownBlock = kv.ownBlock ∨ ∃ g, kv'.ownBlock = some g ∧ w.heap.size ≤ g) :
    ES m w0 F0 Inv o fv av vv s F (w1.setCell ⟨o.k, 0, none⟩ kv') pre' kv' := by
  have hfar : ∀ g, kv'.ownBlock = some g → ¬ F g ∧ ¬ o.has g := fun g hg => by
    rcases hb with e | ⟨g', e, hge⟩
    · exact h.far g (e.symm.trans hg)
    · rw [hg] at e; cases e
      exact ⟨fun hF => by have := h.lt g hF; omega, fun hh => by have := (h.new g hh).2.1; omega⟩
  have hGF : ∀ b, F b → ¬ G b := fun b hF hGb => (h.far b (hG b hGb)).1 hF
  have hGh : ∀ b, o.has b → ¬ G b := fun b hh hGb => (h.far b (hG b hGb)).2 hh
  have hsz : (w1.setCell ⟨o.k, 0, none⟩ kv').heap.size = w1.heap.size := by simp [World.setCell]
  have hget : ∀ b, o.has b → b ≠ o.k → ∀ {x : Obj}, w.heap[b]? = some x → (w1.setCell ⟨o.k, 0, none⟩ kv').heap[b]? = some x := fun b hb hne x hx => by
    rw [heap_setCell_other _ hne]; exact hg.heap hx (hGh b hb)
  have hk0 := h.ne
  refine ⟨?_, h.sub, ?_, fun b hb => by rw [hsz]; exact Nat.lt_of_lt_of_le (h.lt b hb) hg.size, fun b hb => ⟨(h.new b hb).1, by rw [hsz]; exact Nat.lt_of_lt_of_le (h.new b hb).2.1 hg.size, (h.new b hb).2.2⟩, h.ne, ?_, ?_, ?_, ?_, ?_, ?_, ?_, hfar⟩
  · exact (h.chg.trans hg (fun i hi => .inr (h.own.lt i (hG i hi)).1)).setCell (.inr (h.new _ (has_k o)).1) _
  · refine V _ _ _ _ h.inv (by rw [hsz]; exact hg.size) (fun b hb => ?_)
    rw [heap_setCell_other _ (fun e => (h.new _ (has_k o)).2.2 (by rw [← e]; exact hb))]
    exact hg.block b (h.lt b hb) (hGF b hb)
  · obtain ⟨T, hT⟩ := h.hm; exact ⟨T, hget _ (has_m o) hk0.1.symm hT⟩
  · obtain ⟨T, hT⟩ := h.hv; exact ⟨T, hget _ (has_v o) hk0.2.1.symm hT⟩
  · obtain ⟨T, hT⟩ := h.hf; exact ⟨T, hget _ (has_f o) hk0.2.2.1.symm hT⟩
  · obtain ⟨T, hT⟩ := h.ha; exact ⟨T, hget _ (has_a o) hk0.2.2.2.1.symm hT⟩
  · obtain ⟨T, hT⟩ := h.hc; exact ⟨T, hget _ (has_c o) hk0.2.2.2.2.symm hT⟩
  · obtain ⟨T, hT⟩ := h.hk; exact ⟨T, by rw [heap_setCell_self (hg.heap hT (hGh _ (has_k o)))]; rfl⟩
  · have hc1 : Chg (fun b => b = o.k) w1 (w1.setCell ⟨o.k, 0, none⟩ kv') := Chg.setCell (F := fun b => b = o.k) (Chg.refl _ _) (.inl rfl) _
    exact own_chg hown hc1 (fun g hgg e => (hfar g hgg).2 (by rw [e]; exact has_k o))
/-- One cut more. -/
theorem ES.push (V : ∀ s F w w', Inv s F w → w.heap.size ≤ w'.heap.size → (∀ b, F b → w'.heap[b]? = w.heap[b]?) → Inv s F w') {w1 : World} {v1 : Value} {x : Int}
    (h : ES m w0 F0 Inv o fv av vv s F w pre kv) (hown : w1.ownsRow w0.heap.size 2 1 v1 (pre.length + 1) (pre.map (Value.int .i64) ++ [.int .i64 x])) (hg : w.grownBy w1 kv.ownBlock) (hb : v1.ownBlock = kv.ownBlock ∨ ∃ g, v1.ownBlock = some g ∧ w.heap.size ≤ g) :
    ES m w0 F0 Inv o fv av vv s F (w1.setCell ⟨o.k, 0, none⟩ v1) (pre ++ [x]) v1 :=
  h.store V (G := fun b => kv.ownBlock = some b) ((Chg.refl _ _).grown hg (fun k hk => .inl hk)) (fun b hb => hb) (by simpa using hown) hb
/-- The last cut is taken off again. -/
theorem ES.pop (V : ∀ s F w w', Inv s F w → w.heap.size ≤ w'.heap.size → (∀ b, F b → w'.heap[b]? = w.heap[b]?) → Inv s F w') {a : Option Addr} {n c k : Nat} {x : Int}
    (h : ES m w0 F0 Inv o fv av vv s F w (pre ++ [x]) (.slice a n c)) (hn : n = pre.length + 1) (hk : k = pre.length) :
    ES m w0 F0 Inv o fv av vv s F (w.setCell ⟨o.k, 0, none⟩ (.slice a k c)) pre (.slice a k c) := by
  subst hn; subst hk
  refine h.store V (G := fun _ => False) (Chg.refl _ _) (fun b hb => hb.elim) ?_ (.inl (by cases a <;> rfl))
  have := h.own
  simp only [List.length_append, List.length_cons, List.length_nil, List.map_append, List.map_cons, List.map_nil] at this
  have h2 := own_take this (k := pre.length) (by omega)
  simpa using h2
theorem ES.drew (V : ∀ s F w w', Inv s F w → w.heap.size ≤ w'.heap.size → (∀ b, F b → w'.heap[b]? = w.heap[b]?) → Inv s F w') (h : ES m w0 F0 Inv o fv av vv s F w pre kv) : ES m w0 F0 Inv o fv av vv s F w.drew pre kv :=
  h.visit (V _ _ _ _ h.inv (Nat.le_refl _) (fun _ _ => rfl)) h.lt ⟨rfl, rfl, rfl, Nat.le_refl _, fun _ _ _ => rfl⟩ (fun b hb => .inl hb)
theorem ES.cm (h : ES m w0 F0 Inv o fv av vv s F w pre kv) : w.cell? ⟨o.m, 0, none⟩ = some (.int .i64 m.c) ∧ w.cell? ⟨o.m, 1, none⟩ = some (.int .i64 m.d) ∧ w.cell? ⟨o.m, 2, none⟩ = some (.int .i64 m.s) ∧ w.cell? ⟨o.m, 3, none⟩ = some (.int .i64 m.e) ∧ w.cell? ⟨o.m, 4, none⟩ = some (.int .i64 m.l) := by
  obtain ⟨T, hT⟩ := h.hm
  exact ⟨cell_of_block hT 0, cell_of_block hT 1, cell_of_block hT 2, cell_of_block hT 3, cell_of_block hT 4⟩
theorem ES.ck (h : ES m w0 F0 Inv o fv av vv s F w pre kv) : w.cell? ⟨o.k, 0, none⟩ = some kv ∧ w.frozen? ⟨o.k, 0, none⟩ = false := by
  obtain ⟨T, hT⟩ := h.hk; exact ⟨cell_of_block hT 0, frozen_of_block hT 0⟩
theorem ES.cv (h : ES m w0 F0 Inv o fv av vv s F w pre kv) : w.cell? ⟨o.v, 0, none⟩ = some vv := by obtain ⟨T, hT⟩ := h.hv; exact cell_of_block hT 0
theorem ES.cf (h : ES m w0 F0 Inv o fv av vv s F w pre kv) : w.cell? ⟨o.f, 0, none⟩ = some fv := by obtain ⟨T, hT⟩ := h.hf; exact cell_of_block hT 0
theorem ES.ca (h : ES m w0 F0 Inv o fv av vv s F w pre kv) : w.cell? ⟨o.a, 0, none⟩ = some av := by obtain ⟨T, hT⟩ := h.ha; exact cell_of_block hT 0
theorem ES.cc (h : ES m w0 F0 Inv o fv av vv s F w pre kv) : w.cell? ⟨o.c, 0, none⟩ = some (cutV o) := by obtain ⟨T, hT⟩ := h.hc; exact cell_of_block hT 0
end
end Go.Proofs.Ytlfnadmbelngeaa
