/- Whether open partial cuts stay open with one more key: a plain law. No program here. No conditions. -/
import Derived.Deep.RegionHeld3
import Derived.OwnWalk
import Derived.Test.YtmfgdoflddhngaaGreatMLocksR
import Derived.Test.YtmfgdoflddhngaaGreatMDraw3
import Derived.Test.YtmfgdoflddhngaaGreatMDraw23
import Derived.Test.YtmfgdoflddhngaaGreatMEach5
import Derived.Test.YtmfgdoflddhngaaGreatMHullR
import Derived.Test.YtmfgdoflddhngaaGreatMRowv
import Derived.Test.YtmfgdoflddhngaaGreatMDraw14
import Derived.Test.YtmfgdoflddhngaaGreatDraw25
import Derived.Test.YtmfgdoflddhngaaGreatMReadO
import Derived.Test.YtmfgdoflddhngaaGreatMCount
namespace Go.Proofs.YtmfgdoflddhngaaGreat
open Go.RowKit
set_option linter.unusedVariables false
set_option linter.unusedSimpArgs false

end Go.Proofs.YtmfgdoflddhngaaGreat

namespace Go.Proofs.YtmfgdoflddhngaaGreat
open Go.RowKit
set_option linter.unusedVariables false
set_option linter.unusedSimpArgs false

/-- The tries, whether the limit was met, and what is kept of the designs. -/
abbrev GSt (τ : Type) := Nat × Bool × τ
section
variable {τ : Type}
end
end Go.Proofs.YtmfgdoflddhngaaGreat

namespace Go.Proofs.YtmfgdoflddhngaaGreat
open Go.RowKit
set_option linter.unusedVariables false
set_option linter.unusedSimpArgs false

end Go.Proofs.YtmfgdoflddhngaaGreat

namespace Go.Proofs.YtmfgdoflddhngaaGreat
open Go.RowKit
set_option linter.unusedVariables false
set_option linter.unusedSimpArgs false

abbrev DSt := GSt (List (List (List Int)))
/-- A design of the search: cuts for all rows. -/
structure DesOk (m : Mk) (t ds : List (List Int)) : Prop where
  part : PartOk m t ds
  full : ds.length ≤ t.length
theorem DesOk.few {m : Mk} {t ds : List (List Int)} (h : DesOk m t ds) : ds.length ≤ 10 ∧ ∀ k, k < ds.length → (getl ds k).length ≤ 6 ∧ getl ds k ≠ [] := by
  have hf := h.part.fits
  have hr := hf.rows
  have hm := Mk.ok_iff.1 hf.ok
  refine ⟨by have := h.full; omega, fun k hk => ?_⟩
  have := hf.lens k hk
  exact ⟨by omega, fun e => by rw [e] at this; simp at this; omega⟩
end Go.Proofs.YtmfgdoflddhngaaGreat

namespace Go.Proofs.YtmfgdoflddhngaaGreat
open Go.RowKit
set_option linter.unusedVariables false
set_option linter.unusedSimpArgs false

end Go.Proofs.YtmfgdoflddhngaaGreat

namespace Go.Proofs.YtmfgdoflddhngaaGreat
open Go.RowKit
set_option linter.unusedVariables false
set_option linter.unusedSimpArgs false

/-- What the function that staysOpen returns stands on. -/
def StayAt (S : Nat → Prop) (m : Mk) (t cuts : List (List Int)) (locks : List (List (List Int))) (LB RB CB SB : Nat) (w : World) : Prop :=
  ∃ lv rv cv tv, w.cell? ⟨LB, 0, none⟩ = some lv ∧ w.cell? ⟨RB, 0, none⟩ = some rv ∧ w.cell? ⟨CB, 0, none⟩ = some cv ∧ (∀ o, w.cell? ⟨SB, o, none⟩ = (#[.int .i64 m.c, .int .i64 m.d, .int .i64 m.s, .int .i64 m.e, .int .i64 m.l, tv] : Array Value)[o]?) ∧ SB < w.heap.size ∧
    S LB ∧ S RB ∧ S CB ∧ S SB ∧ V3 S w lv locks ∧ V1 S w rv (getl t cuts.length) ∧ V2 S w cv cuts ∧ V2 S w tv t
theorem StayAt.keep {S : Nat → Prop} {m : Mk} {t cuts : List (List Int)} {locks : List (List (List Int))} {LB RB CB SB : Nat} {w w' : World} (h : StayAt S m t cuts locks LB RB CB SB w) (hz : w.heap.size ≤ w'.heap.size) (hk : Keep S w w') : StayAt S m t cuts locks LB RB CB SB w' := by
  obtain ⟨lv, rv, cv, tv, h1, h2, h3, h4, h5, s1, s2, s3, s4, h6, h7, h8, h9⟩ := h
  refine ⟨lv, rv, cv, tv, cell_keep h1 (hk _ s1 (lt_of_cell h1)), cell_keep h2 (hk _ s2 (lt_of_cell h2)), cell_keep h3 (hk _ s3 (lt_of_cell h3)), fun o => ?_, by omega, s1, s2, s3, s4, h6.mono (fun _ h _ => h) hk, h7.mono (fun _ h _ => h) hk, h8.mono (fun _ h _ => h) hk, h9.mono (fun _ h _ => h) hk⟩
  rw [← h4]
  exact World.cell?_of_block (w := w) (a := ⟨SB, o, none⟩) (hk _ s4 h5)
end Go.Proofs.YtmfgdoflddhngaaGreat

namespace Go.Proofs.YtmfgdoflddhngaaGreat
open Go.RowKit
set_option linter.unusedVariables false
set_option linter.unusedSimpArgs false

end Go.Proofs.YtmfgdoflddhngaaGreat

namespace Go.Proofs.YtmfgdoflddhngaaGreat
open Go.RowKit
set_option linter.unusedVariables false
set_option linter.unusedSimpArgs false

def goCells (m : Mk) (tv : Value) (limit tries : Nat) (br : Bool) (fv : Value) : Array Value := #[.int .i64 m.c, .int .i64 m.d, .int .i64 m.s, .int .i64 m.e, .int .i64 m.l, tv, .int .i64 (limit : Int), .int .i64 (tries : Int), .bool br, fv]
/-- What is done with each design. -/
structure VisG {τ : Type} (act : τ → Prop) (P : List (List Int) → Prop) (f : FuncId) (caps : Array Value) (vis : τ → List (List Int) → τ × Bool) (VI : τ → (Nat → Prop) → World → Prop) : Prop where
  enters : Enters f
  keep : ∀ s F w w', VI s F w → w.heap.size ≤ w'.heap.size → (∀ b, F b → w'.heap[b]? = w.heap[b]?) → VI s F w'
  lt : ∀ s F w, VI s F w → ∀ b, F b → b < w.heap.size
  still : ∀ s design, act s → (vis s design).2 = true → act (vis s design).1
  call : ∀ (s : τ) (F S : Nat → Prop) (w : World) (v : Value) (design : List (List Int)), VI s F w → V2 S w v design → (∀ b, S b → ¬ F b) → P design → act s →
    Calls Tryz.prog f (#[v] ++ caps) w fun e w' => ∃ F', e = .returned (.bool (vis s design).2) ∧ VI (vis s design).1 F' w' ∧ Chg F w w' ∧ ∀ b, F' b → F b ∨ w.heap.size ≤ b
def GF (XB : Nat) (F : Nat → Prop) (b : Nat) : Prop := b = XB ∨ F b
structure Gs {τ : Type} (m : Mk) (tv : Value) (limit : Nat) (fv : Value) (XB : Nat) (VI : τ → (Nat → Prop) → World → Prop) (s : GSt τ) (F : Nat → Prop) (w : World) : Prop where
  hh : w.heap[XB]? = some (.cells (goCells m tv limit s.1 s.2.1 fv) 161 (0, 0))
  vi : VI s.2.2 F w
  ne : ¬ F XB
  lt : ∀ b, F b → b < w.heap.size
  le : s.1 ≤ limit ∧ limit ≤ 4000
section
variable {τ : Type} {act : τ → Prop} {m : Mk} {tv fv : Value} {limit XB : Nat} {VI : τ → (Nat → Prop) → World → Prop} {s : GSt τ} {F : Nat → Prop} {w w' : World} {P : List (List Int) → Prop} {f : FuncId} {caps : Array Value} {vis : τ → List (List Int) → τ × Bool}
theorem Gs.keep (V : VisG act P f caps vis VI) (h : Gs m tv limit fv XB VI s F w) (hz : w.heap.size ≤ w'.heap.size) (hk : ∀ b, GF XB F b → w'.heap[b]? = w.heap[b]?) : Gs m tv limit fv XB VI s F w' :=
  ⟨by rw [hk XB (.inl rfl)]; exact h.hh, V.keep _ _ _ _ h.vi hz (fun b hb => hk b (.inr hb)), h.ne, fun b hb => Nat.lt_of_lt_of_le (h.lt b hb) hz, h.le⟩
theorem Gs.glt (h : Gs m tv limit fv XB VI s F w) {b : Nat} (hb : GF XB F b) : b < w.heap.size := by
  rcases hb with rfl | hb
  · exact lt_of_heap h.hh
  · exact h.lt b hb
theorem Gs.below (V : VisG act P f caps vis VI) (h : Gs m tv limit fv XB VI s F w) (hb : Below w.heap.size w w') : Gs m tv limit fv XB VI s F w' := h.keep V hb.size fun b hf => hb.block b (h.glt hf)
theorem Gs.cell (h : Gs m tv limit fv XB VI s F w) (o : Nat) : w.cell? ⟨XB, o, none⟩ = (goCells m tv limit s.1 s.2.1 fv)[o]? := by rw [cell_of_block h.hh]
end
end Go.Proofs.YtmfgdoflddhngaaGreat

namespace Go.Proofs.YtmfgdoflddhngaaGreat
open Go.RowKit
set_option linter.unusedVariables false
set_option linter.unusedSimpArgs false

end Go.Proofs.YtmfgdoflddhngaaGreat

namespace Go.Proofs.YtmfgdoflddhngaaGreat
open Go.RowKit
set_option linter.unusedVariables false
set_option linter.unusedSimpArgs false

end Go.Proofs.YtmfgdoflddhngaaGreat

namespace Go.Proofs.YtmfgdoflddhngaaGreat
open Go.RowKit
set_option linter.unusedVariables false
set_option linter.unusedSimpArgs false

/-- Design ls lies in blocks from lo on and below hi. -/
def In2 (lo hi : Nat) (w : World) (v : Value) (ls : List (List Int)) : Prop :=
  ∃ ob bk, X2 w v ls ob bk ∧ (ls ≠ [] → lo ≤ ob ∧ ob < hi) ∧ ∀ k, k < ls.length → getl ls k ≠ [] → lo ≤ bk k ∧ bk k < hi
theorem In2.of_F2 {lo : Nat} {w : World} {v : Value} {ls : List (List Int)} (h : F2 lo w v ls) : In2 lo w.heap.size w v ls := by
  obtain ⟨ob, bk, h1, h2, h3⟩ := h
  refine ⟨ob, bk, h1, fun hn => ⟨h2 hn, (h1.lt hn).1⟩, fun k hk hn => ⟨h3 k hk hn, (h1.lt ?_).2 k hk hn⟩⟩
  intro e; subst e; simp at hk
theorem In2.keep {lo hi : Nat} {w w' : World} {v : Value} {ls : List (List Int)} (h : In2 lo hi w v ls) (hk : ∀ b, lo ≤ b → b < hi → w'.heap[b]? = w.heap[b]?) : In2 lo hi w' v ls := by
  obtain ⟨ob, bk, h1, h2, h3⟩ := h
  exact ⟨ob, bk, h1.keep (fun hn => hk _ (h2 hn).1 (h2 hn).2) (fun k hlt hn => hk _ (h3 k hlt hn).1 (h3 k hlt hn).2), h2, h3⟩
theorem In2.f2 {lo hi : Nat} {w : World} {v : Value} {ls : List (List Int)} (h : In2 lo hi w v ls) : F2 lo w v ls := by
  obtain ⟨ob, bk, h1, h2, h3⟩ := h
  exact ⟨ob, bk, h1, fun hn => (h2 hn).1, fun k hk hn => (h3 k hk hn).1⟩
/-- v is a slice of the call's own (from block B on); design k lies in the blocks from L k on and below U k. -/
structure Out3 (B : Nat) (L U : Nat → Nat) (w : World) (v : Value) (vs : List Value) (ds : List (List (List Int))) : Prop where
  own : w.ownsRow B 26 1 v ds.length vs
  each : ∀ k, k < ds.length → ∃ rv, vs[k]? = some rv ∧ In2 (L k) (U k) w rv (getll ds k)
  apart : ∀ k, k < ds.length → B ≤ L k ∧ L k ≤ U k ∧ U k ≤ w.heap.size ∧ (∀ g, v.ownBlock = some g → g < L k ∨ U k ≤ g) ∧ ∀ j, j < k → U j ≤ L k
/-- The blocks in which the designs lie. -/
def T3 (L U : Nat → Nat) (v : Value) (n b : Nat) : Prop := v.ownBlock = some b ∨ ∃ k, k < n ∧ L k ≤ b ∧ b < U k
theorem Out3.keep {B : Nat} {L U : Nat → Nat} {w w' : World} {v : Value} {vs : List Value} {ds : List (List (List Int))} (h : Out3 B L U w v vs ds) (hz : w.heap.size ≤ w'.heap.size) (hk : ∀ b, T3 L U v ds.length b → w'.heap[b]? = w.heap[b]?) : Out3 B L U w' v vs ds := by
  refine ⟨⟨h.own.1, ?_⟩, fun k hlt => ?_, fun k hlt => ?_⟩
  · rcases h.own.2 with h0 | ⟨g, cap, cur, rfl, h1, h2, h3⟩
    · exact .inl h0
    · exact .inr ⟨g, cap, cur, rfl, h1, by rw [hk g (.inl rfl)]; exact h2, h3⟩
  · obtain ⟨rv, h1, h2⟩ := h.each k hlt
    exact ⟨rv, h1, h2.keep fun b hl hu => hk b (.inr ⟨k, hlt, hl, hu⟩)⟩
  · obtain ⟨h1, h2, h3, h4⟩ := h.apart k hlt
    exact ⟨h1, h2, Nat.le_trans h3 hz, h4⟩
theorem Out3.lt {B : Nat} {L U : Nat → Nat} {w : World} {v : Value} {vs : List Value} {ds : List (List (List Int))} (h : Out3 B L U w v vs ds) {b : Nat} (hb : T3 L U v ds.length b) : B ≤ b ∧ b < w.heap.size := by
  rcases hb with hb | ⟨k, hk, hl, hu⟩
  · exact h.own.lt b hb
  · obtain ⟨h1, h2, h3, _⟩ := h.apart k hk
    exact ⟨by omega, by omega⟩
theorem Out3.form {B : Nat} {L U : Nat → Nat} {w : World} {v : Value} {vs : List Value} {ds : List (List (List Int))} (h : Out3 B L U w v vs ds) : ∃ a c, v = .slice a ds.length c ∧ ds.length ≤ c ∧ c ≤ maxLen := own_form h.own
theorem Out3.start (w : World) (B : Nat) (hb : B ≤ w.heap.size) : Out3 B (fun _ => 0) (fun _ => 0) (w.alloc (.cells #[] 26)) (.slice (some ⟨w.heap.size, 0, none⟩) 0 0) [] [] :=
  ⟨own_lit0 w B _ 1 hb, fun k hk => by simp at hk, fun k hk => by simp at hk⟩
theorem getll_app1 {ds : List (List (List Int))} {l : List (List Int)} {k : Nat} (h : k < ds.length) : getll (ds ++ [l]) k = getll ds k := by
  simp [getll, List.getElem?_append_left h]
theorem getll_app2 {ds : List (List (List Int))} {l : List (List Int)} : getll (ds ++ [l]) ds.length = l := by
  unfold getll; simp
/-- One design more. w: before its copy is made; w2: the copy is made; w1: it is appended. -/
theorem Out3.push {B : Nat} {L U : Nat → Nat} {w w2 w1 : World} {v v1 rv : Value} {vs : List Value} {ds : List (List (List Int))} {l : List (List Int)}
    (h : Out3 B L U w v vs ds) (hB : B ≤ w.heap.size) (hb : Below w.heap.size w w2) (hx : F2 w.heap.size w2 rv l)
    (hown : w1.ownsRow B 26 1 v1 (ds.length + 1) (vs ++ [rv])) (hg : w2.grownBy w1 v.ownBlock) (hblk : v1.ownBlock = v.ownBlock ∨ ∃ g, v1.ownBlock = some g ∧ w2.heap.size ≤ g) :
    Out3 B (fun k => if k < ds.length then L k else w.heap.size) (fun k => if k < ds.length then U k else w2.heap.size) w1 v1 (vs ++ [rv]) (ds ++ [l]) ∧
    (∀ b, T3 (fun k => if k < ds.length then L k else w.heap.size) (fun k => if k < ds.length then U k else w2.heap.size) v1 (ds ++ [l]).length b → T3 L U v ds.length b ∨ w.heap.size ≤ b) := by
  have hvl1 := h.own.1
  have hz := hb.size
  have hz1 := hg.size
  refine ⟨⟨by simpa using hown, fun k hk => ?_, fun k hk => ?_⟩, fun b hb' => ?_⟩
  · by_cases hkl : k < ds.length
    · obtain ⟨rv', h4, h5⟩ := h.each k hkl
      obtain ⟨a1, a2, a3, a4, a5⟩ := h.apart k hkl
      refine ⟨rv', by rw [List.getElem?_append_left (by omega)]; exact h4, ?_⟩
      rw [getll_app1 hkl]
      simp only [hkl, if_true]
      refine h5.keep fun b hl hu => ?_
      rw [hg.block b (by omega) (fun e => by have := a4 b e.symm; omega), hb.block b (by omega)]
    · have e : k = ds.length := by simp at hk; omega
      subst e
      refine ⟨rv, by rw [List.getElem?_append_right (by omega)]; simp [show ds.length - vs.length = 0 by omega], ?_⟩
      rw [getll_app2]
      simp only [Nat.lt_irrefl, if_false]
      exact (In2.of_F2 hx).keep fun b hl hu => hg.block b hu (fun e => by have := (h.own.lt b e.symm).2; omega)
  · by_cases hkl : k < ds.length
    · simp only [hkl, if_true]
      obtain ⟨a1, a2, a3, a4, a5⟩ := h.apart k hkl
      refine ⟨a1, a2, by omega, fun g hgg => ?_, fun j hj => ?_⟩
      · rcases hblk with e | ⟨g', e, hge⟩
        · exact a4 g (e ▸ hgg)
        · rw [hgg] at e; cases e; omega
      · simp only [show j < ds.length by omega, if_true]; exact a5 j hj
    · have e : k = ds.length := by simp at hk; omega
      subst e
      simp only [Nat.lt_irrefl, if_false]
      refine ⟨hB, hz, hz1, fun g hgg => ?_, fun j hj => ?_⟩
      · rcases hblk with e | ⟨g', e, hge⟩
        · have := (h.own.lt g (e ▸ hgg)).2; omega
        · rw [hgg] at e; cases e; omega
      · simp only [hj, if_true]; exact (h.apart j hj).2.2.1
  · rcases hb' with hb' | ⟨k, hk, hl, hu⟩
    · rcases hblk with e | ⟨g', e, hge⟩
      · exact .inl (.inl (e ▸ hb'))
      · rw [hb'] at e; cases e; right; omega
    · by_cases hkl : k < ds.length
      · simp only [hkl, if_true] at hl hu
        exact .inl (.inr ⟨k, hkl, hl, hu⟩)
      · simp only [hkl, if_false] at hl
        exact .inr hl
end Go.Proofs.YtmfgdoflddhngaaGreat

namespace Go.Proofs.YtmfgdoflddhngaaGreat
open Go.RowKit
set_option linter.unusedVariables false
set_option linter.unusedSimpArgs false

end Go.Proofs.YtmfgdoflddhngaaGreat

namespace Go.Proofs.YtmfgdoflddhngaaGreat
open Go.RowKit
set_option linter.unusedVariables false
set_option linter.unusedSimpArgs false

def RG (RB : Nat) (fv : Value) (b : Nat) : Prop := b = RB ∨ fv.ownBlock = some b
def sgCells (m : Mk) (tv fv : Value) (limit : Nat) (most : Int) (s : DSt) : Array Value := #[.int .i64 m.c, .int .i64 m.d, .int .i64 m.s, .int .i64 m.e, .int .i64 m.l, tv, .int .i64 (limit : Int), .int .i64 most, .int .i64 (s.1 : Int), .bool s.2.1, fv]
structure Sg (m : Mk) (tv : Value) (limit : Nat) (most : Int) (RB B : Nat) (s : DSt) (fv : Value) (w : World) : Prop where
  hh : w.heap[RB]? = some (.cells (sgCells m tv fv limit most s) 165 (0, 0))
  own : ∃ vs, w.ownsRow B 26 1 fv s.2.2.length vs ∧ ∀ k, k < s.2.2.length → ∃ rv, vs[k]? = some rv ∧ V2 (fun b => ¬ RG RB fv b) w rv (getll s.2.2 k)
  ne : fv.ownBlock ≠ some RB
  le : s.1 ≤ limit ∧ limit ≤ 4000
  lo : B ≤ w.heap.size
section
variable {m : Mk} {tv fv : Value} {limit : Nat} {most : Int} {RB B : Nat} {s : DSt} {w w' : World}
theorem Sg.below (h : Sg m tv limit most RB B s fv w) (hb : Below w.heap.size w w') : Sg m tv limit most RB B s fv w' := by
  obtain ⟨vs, h1, h2⟩ := h.own
  exact ⟨heap_below h.hh hb (lt_of_heap h.hh), ⟨vs, own_keep h1 hb, fun k hk => by obtain ⟨rv, g1, g2⟩ := h2 k hk; exact ⟨rv, g1, g2.below hb⟩⟩, h.ne, h.le, Nat.le_trans h.lo hb.size⟩
theorem Sg.lt (h : Sg m tv limit most RB B s fv w) {b : Nat} (hb : RG RB fv b) : b < w.heap.size := by
  rcases hb with rfl | hb
  · exact lt_of_heap h.hh
  · obtain ⟨vs, h1, _⟩ := h.own; exact (h1.lt _ hb).2
theorem Sg.cell (h : Sg m tv limit most RB B s fv w) (o : Nat) : w.cell? ⟨RB, o, none⟩ = (sgCells m tv fv limit most s)[o]? := by rw [cell_of_block h.hh]
theorem Sg.form (h : Sg m tv limit most RB B s fv w) : ∃ a c, fv = .slice a s.2.2.length c ∧ s.2.2.length ≤ c ∧ c ≤ maxLen := by
  obtain ⟨vs, h1, _⟩ := h.own; exact own_form h1
/-- A number or a mark in the state's own block. -/
theorem Sg.put {s' : DSt} {o : Nat} {v : Value} (h : Sg m tv limit most RB B s fv w) (hc : (sgCells m tv fv limit most s).setIfInBounds o v = sgCells m tv fv limit most s') (hs : s'.2.2 = s.2.2) (hle : s'.1 ≤ limit) : Sg m tv limit most RB B s' fv (w.setCell ⟨RB, o, none⟩ v) ∧ Chg (RG RB fv) w (w.setCell ⟨RB, o, none⟩ v) := by
  obtain ⟨vs, h1, h2⟩ := h.own
  have hC : Chg (fun b => b = RB) w (w.setCell ⟨RB, o, none⟩ v) := (Chg.refl (fun b => b = RB) _).setCell (p := ⟨RB, o, none⟩) (.inl rfl) _
  refine ⟨⟨by rw [heap_setCell_self h.hh]; rw [hc], ⟨vs, by rw [hs]; exact own_chg h1 hC (fun g hg e => h.ne (e ▸ hg)), fun k hk => ?_⟩, h.ne, ⟨hle, h.le.2⟩, by simpa using h.lo⟩, hC.mono (fun b hb => .inl hb)⟩
  obtain ⟨rv, g1, g2⟩ := h2 k (by rw [hs] at hk; exact hk)
  rw [hs]
  exact ⟨rv, g1, g2.mono (fun _ h _ => h) (hC.keep fun b hb e => hb (.inl e))⟩
end
end Go.Proofs.YtmfgdoflddhngaaGreat

namespace Go.Proofs.YtmfgdoflddhngaaGreat
open Go.RowKit
set_option linter.unusedVariables false
set_option linter.unusedSimpArgs false

theorem Fits.snoc {m : Mk} {t cuts : List (List Int)} {k : List Int} (h : Fits m t cuts) (hl : cuts.length < t.length) (hk : isKeyB m k = true) : Fits m t (cuts ++ [k]) := by
  have hkey : ∀ j, j < (cuts ++ [k]).length → isKeyB m (getl (cuts ++ [k]) j) = true := fun j hj => by
    by_cases e : j < cuts.length
    · rw [getl_app1 e]; exact h.keys j e
    · have e2 : j = cuts.length := by simp at hj; omega
      subst e2
      rw [getl_app2]; exact hk
  exact ⟨h.ok, h.rows, h.cols, h.doors, h.bits, by simp; omega, hkey, fun j hj => (isKey_iff.1 (hkey j hj)).1, fun j hj c hc => (isKey_iff.1 (hkey j hj)).2.1 _ (geti_mem hc)⟩
end Go.Proofs.YtmfgdoflddhngaaGreat

namespace Go.Proofs.YtmfgdoflddhngaaGreat
open Go.RowKit
set_option linter.unusedVariables false
set_option linter.unusedSimpArgs false

end Go.Proofs.YtmfgdoflddhngaaGreat

namespace Go.Proofs.YtmfgdoflddhngaaGreat
open Go.RowKit
set_option linter.unusedVariables false
set_option linter.unusedSimpArgs false

end Go.Proofs.YtmfgdoflddhngaaGreat

namespace Go.Proofs.YtmfgdoflddhngaaGreat
open Go.RowKit
set_option linter.unusedVariables false
set_option linter.unusedSimpArgs false

end Go.Proofs.YtmfgdoflddhngaaGreat

namespace Go.Proofs.YtmfgdoflddhngaaGreat
open Go.RowKit
set_option linter.unusedVariables false
set_option linter.unusedSimpArgs false

end Go.Proofs.YtmfgdoflddhngaaGreat

namespace Go.Proofs.YtmfgdoflddhngaaGreat
open Go.RowKit
set_option linter.unusedVariables false
set_option linter.unusedSimpArgs false

end Go.Proofs.YtmfgdoflddhngaaGreat

namespace Go.Proofs.YtmfgdoflddhngaaGreat
open Go.RowKit
set_option linter.unusedVariables false
set_option linter.unusedSimpArgs false

end Go.Proofs.YtmfgdoflddhngaaGreat

namespace Go.Proofs.YtmfgdoflddhngaaGreat
open Go.RowKit
set_option linter.unusedVariables false
set_option linter.unusedSimpArgs false

theorem putS_new {W w : World} {c0 c1 c2 c3 c4 c5 : Value} (hB : Below W.heap.size W w) (h : w.heap[W.heap.size]? = some (.cells #[c0, c1, c2, c3, c4, c5] 28 (0, 0))) (v0 v1 v2 v3 v4 v5 : Value) :
    Below W.heap.size W (putS w W.heap.size v0 v1 v2 v3 v4 v5) ∧ (putS w W.heap.size v0 v1 v2 v3 v4 v5).heap[W.heap.size]? = some (.cells #[v0, v1, v2, v3, v4, v5] 28 (0, 0)) ∧ ∀ b, b ≠ W.heap.size → (putS w W.heap.size v0 v1 v2 v3 v4 v5).heap[b]? = w.heap[b]? := by
  refine ⟨?_, ?_, fun b hb => ?_⟩
  · unfold putS putR
    exact ((((((hB.setCell (Nat.le_refl _) _).setCell (Nat.le_refl _) _).setCell (Nat.le_refl _) _).setCell (Nat.le_refl _) _).setCell (Nat.le_refl _) _).setCell (Nat.le_refl _) _)
  · unfold putS putR
    rw [heap_setCell_self (heap_setCell_self (heap_setCell_self (heap_setCell_self (heap_setCell_self (heap_setCell_self h _) _) _) _) _) _]
    simp
  · unfold putS putR
    (repeat rw [heap_setCell_other _ hb])
theorem VB.below {S : Nat → Prop} {w w' : World} {v : Value} {l : List Int} (h : VB S w v l) (hb : Below w.heap.size w w') : VB S w' v l :=
  h.mono (fun _ h _ => h) (Below.keep hb fun _ _ h => h)
theorem Only.to_below {SB B : Nat} {a b : World} (h : Only SB a b) (hS : B ≤ SB) (hB : B ≤ a.heap.size) : Below B a b := Chg.to_below h (fun i hi => by omega) hB
/-- What a draw of a system and cuts from a code answers; X: what stands beside them. -/
def DrawC (W : World) (X : Mk → List (List Int) → List (List Int) → World → List Value → Prop) (e : Ending) (w' : World) : Prop :=
  ∃ (m : Mk) (u cv : Value) (T cuts : List (List Int)) (vs : List Value), e = .returned (.tuple (#[.agg #[.int .i64 m.c, .int .i64 m.d, .int .i64 m.s, .int .i64 m.e, .int .i64 m.l, u], cv] ++ vs.toArray)) ∧ X m T cuts w' vs ∧ V2 (fun b => W.heap.size ≤ b) w' u T ∧ V2 (fun b => W.heap.size ≤ b) w' cv cuts ∧ Below W.heap.size W w'
def DrawC2 (W : World) : Ending → World → Prop := DrawC W fun _ _ _ _ vs => vs = []
theorem DrawC2.open {W w' : World} {e : Ending} (h : DrawC2 W e w') : ∃ (m : Mk) (u cv : Value) (T cuts : List (List Int)), e = .returned (.tuple #[.agg #[.int .i64 m.c, .int .i64 m.d, .int .i64 m.s, .int .i64 m.e, .int .i64 m.l, u], cv]) ∧ V2 (fun b => W.heap.size ≤ b) w' u T ∧ V2 (fun b => W.heap.size ≤ b) w' cv cuts ∧ Below W.heap.size W w' := by
  obtain ⟨m, u, cv, T, cuts, vs, rfl, rfl, h1, h2, h3⟩ := h
  exact ⟨m, u, cv, T, cuts, rfl, h1, h2, h3⟩
end Go.Proofs.YtmfgdoflddhngaaGreat

namespace Go.Proofs.YtmfgdoflddhngaaGreat
open Go.RowKit
set_option linter.unusedVariables false
set_option linter.unusedSimpArgs false

/-- What a draw of a system and steps from a code answers. -/
def DrawSh (W : World) (e : Ending) (w' : World) : Prop :=
  ∃ (m : Mk) (u sv : Value) (T : List (List Int)) (st : List (Int × Int)), e = .returned (.tuple #[.agg #[.int .i64 m.c, .int .i64 m.d, .int .i64 m.s, .int .i64 m.e, .int .i64 m.l, u], sv]) ∧ V2 (fun b => W.heap.size ≤ b) w' u T ∧ VS (fun b => W.heap.size ≤ b) w' sv st ∧ Below W.heap.size W w'
theorem DrawSh.open {W w' : World} {e : Ending} (h : DrawSh W e w') : ∃ (m : Mk) (u cv : Value) (T : List (List Int)) (cuts : List (Int × Int)), e = .returned (.tuple #[.agg #[.int .i64 m.c, .int .i64 m.d, .int .i64 m.s, .int .i64 m.e, .int .i64 m.l, u], cv]) ∧ V2 (fun b => W.heap.size ≤ b) w' u T ∧ VS (fun b => W.heap.size ≤ b) w' cv cuts ∧ Below W.heap.size W w' := h
set_option maxRecDepth 100000 in
set_option maxHeartbeats 1000000 in
theorem DrawShiftSteps_any {S : Nat → Prop} (v : Value) (l : List Int) (W : World) (h : VB S W v l) :
    Calls Tryz.prog 15 #[v] W (DrawSh W) := by
  obtain ⟨a, c, rfl, hm⟩ := h.form
  obtain ⟨W1, hW1, hB01, hz01, HZ01, _, hh01⟩ := box_facts W #[.int .i64 0, .int .i64 0, .int .i64 0, .int .i64 0, .int .i64 0, .slice none 0 0] 28
  have hz1e := HZ01.out
  have hz1l : W1.heap.size ≤ W.heap.size + 1 := by omega
  have HL := Lib.hid (And.intro (h.below hB01) (And.intro hB01 (And.intro hh01 hW1))); clear h hh01 hB01 hz1e
  go_enter Tryz.func15, Tryz.ntmps15
  go_wp2_with fail
  rw [← HL.out.2.2.2]
  clear hW1
  refine (l01From_any _ l W1 HL.out.1).mono ?_
  rintro e' w2 ⟨rfl, hs2, hb2⟩
  have hz2 := hb2.size
  have H2 := Lib.hid (And.intro hs2 (And.intro hb2 ((hb2.block _ hz01).trans HL.out.2.2.1))); clear hs2 hb2
  go_wp2_with fail
  refine (l19Draw_any W1.heap.size W1.heap.size w2 H2.out.1).mono ?_
  rintro e' w3 ⟨m, u, cv, T, st, rfl, hsm, hu, hcv, hs3, ho3⟩
  have hz3 := ho3.size
  have hz23 : W1.heap.size < w2.heap.size := H2.out.1.lt
  obtain ⟨ta, tc, rfl, _⟩ := hu.form
  obtain ⟨ca, cc, rfl, _⟩ := hcv.form
  have hRw := ho3.heap H2.out.2.2 (fun e => by omega)
  have hBw : Below W.heap.size W w3 := HL.out.2.1.trans ((H2.out.2.1.trans (ho3.to_below (Nat.le_refl _) (by omega))).mono (by omega))
  have H3 := Lib.hid (And.intro hBw (And.intro hRw (And.intro hu hcv))); clear hBw hRw hu hcv hs3 ho3 hsm
  have hcRz : ∀ o, w3.cell? ⟨W.heap.size, o, none⟩ = (#[.int .i64 0, .int .i64 0, .int .i64 0, .int .i64 0, .int .i64 0, .slice none 0 0] : Array Value)[o]? := fun o => by rw [cell_of_block H3.out.2.1]
  have hfRz := fun o => frozen_of_block H3.out.2.1 o
  have hdone := putS_new H3.out.1 H3.out.2.1 (.int .i64 m.c) (.int .i64 m.d) (.int .i64 m.s) (.int .i64 m.e) (.int .i64 m.l) (.slice ta T.length tc)
  obtain ⟨wz, hwz⟩ : ∃ wz, wz = putS w3 W.heap.size (.int .i64 m.c) (.int .i64 m.d) (.int .i64 m.s) (.int .i64 m.e) (.int .i64 m.l) (.slice ta T.length tc) := ⟨_, rfl⟩
  rw [← hwz] at hdone
  obtain ⟨hd2, hd3, hd4⟩ := hdone
  have hFz : V2 (fun b => W.heap.size ≤ b) wz (.slice ta T.length tc) T := V2.mono (S := fun b => w2.heap.size ≤ b) H3.out.2.2.1 (fun b hb _ => by have hb : w2.heap.size ≤ b := hb; omega) (fun b hb _ => hd4 b (by have hb : w2.heap.size ≤ b := hb; omega))
  have hcz : VS (fun b => W.heap.size ≤ b) wz (.slice ca st.length cc) st := VS.mono (S := fun b => w2.heap.size ≤ b) H3.out.2.2.2 (fun b hb _ => by have hb : w2.heap.size ≤ b := hb; omega) (fun b hb _ => hd4 b (by have hb : w2.heap.size ≤ b := hb; omega))
  have hz0 : wz.cell? ⟨W.heap.size, 0, none⟩ = some (.int .i64 m.c) := by rw [cell_of_block hd3]; rfl
  have hz1 : wz.cell? ⟨W.heap.size, 1, none⟩ = some (.int .i64 m.d) := by rw [cell_of_block hd3]; rfl
  have hz2 : wz.cell? ⟨W.heap.size, 2, none⟩ = some (.int .i64 m.s) := by rw [cell_of_block hd3]; rfl
  have hz3 : wz.cell? ⟨W.heap.size, 3, none⟩ = some (.int .i64 m.e) := by rw [cell_of_block hd3]; rfl
  have hz4 : wz.cell? ⟨W.heap.size, 4, none⟩ = some (.int .i64 m.l) := by rw [cell_of_block hd3]; rfl
  have hz5 : wz.cell? ⟨W.heap.size, 5, none⟩ = some (.slice ta T.length tc) := by rw [cell_of_block hd3]; rfl
  have HZ := Lib.hid (And.intro hd2 (And.intro hFz (And.intro hcz (And.intro hwz (And.intro hz0 (And.intro hz1 (And.intro hz2 (And.intro hz3 (And.intro hz4 (And.intro hz5 hd4)))))))))); clear hd2 hd3 hd4 hFz hcz hwz hz0 hz1 hz2 hz3 hz4 hz5
  go_wp2_with fail
  have hwz := HZ.out.2.2.2.1
  unfold putS putR at hwz
  rw [← hwz]
  clear hwz
  obtain ⟨hd2, hFz, hcz, hwzz, hz0, hz1, hz2, hz3, hz4, hz5, hd4⟩ := HZ.out
  clear hwzz
  exact bodyPost_ret (v := .tuple #[.agg #[.int .i64 m.c, .int .i64 m.d, .int .i64 m.s, .int .i64 m.e, .int .i64 m.l, .slice ta T.length tc], .slice ca st.length cc]) (by simp [results, Tryz.results15, go_sem, hz0, hz1, hz2, hz3, hz4, hz5]) rfl ⟨m, _, _, T, st, rfl, hFz, hcz, hd2⟩
end Go.Proofs.YtmfgdoflddhngaaGreat

namespace Go.Proofs.YtmfgdoflddhngaaGreat
open Go.RowKit
set_option linter.unusedVariables false
set_option linter.unusedSimpArgs false

theorem rd_ext {n : Nat} {t keys : List (List Int)} {steps : List (Int × Int)} : ∀ {d : Nat} {cuts : List (List Int)} {s : RSt}, s.2 <+: (readF n t keys steps d cuts s).1.2
  | 0, _, s => List.prefix_refl _
  | d + 1, cuts, s => runL_inv (P := fun z : RSt => s.2 <+: z.2) (fun z k hz => by
      unfold rdStep
      split
      · exact hz
      · split
        · split
          · exact hz.trans ((List.prefix_append z.2 [gets steps z.1]).trans (rd_ext (d := d) (s := (z.1 + 1, z.2 ++ [gets steps z.1]))))
          · exact hz
        · split
          · exact hz.trans (List.prefix_append _ _)
          · exact hz) keys s (List.prefix_refl _)
theorem step_ext {n : Nat} {t keys : List (List Int)} {steps : List (Int × Int)} {d : Nat} {cuts : List (List Int)} {s : RSt} {key : List Int} : s.2 <+: (rdStep n t steps (readF n t keys steps d) cuts s key).1.2 := by
  unfold rdStep
  split
  · exact List.prefix_refl _
  · split
    · split
      · exact (List.prefix_append s.2 [gets steps s.1]).trans (rd_ext (d := d) (s := (s.1 + 1, s.2 ++ [gets steps s.1])))
      · exact List.prefix_refl _
    · split
      · exact List.prefix_append _ _
      · exact List.prefix_refl _
theorem run_ext {n : Nat} {t keys : List (List Int)} {steps : List (Int × Int)} {d : Nat} {cuts : List (List Int)} : ∀ (l : List (List Int)) (s : RSt), s.2 <+: (runL (rdStep n t steps (readF n t keys steps d) cuts) s l).1.2 := fun l s =>
  runL_inv (P := fun z : RSt => s.2 <+: z.2) (fun z k hz => hz.trans step_ext) l s (List.prefix_refl _)
theorem last_false {n : Nat} {t cuts : List (List Int)} (hne : falseL n t cuts ≠ []) : openS (lastStep (falseL n t cuts)) = false ∧ hasL (falseL n t cuts) [(lastStep (falseL n t cuts)).1, (lastStep (falseL n t cuts)).2] = true := by
  have hl := List.length_pos_iff.2 hne
  have hk : (falseL n t cuts).length - 1 < (falseL n t cuts).length := by omega
  obtain ⟨i, d, _, _, he, _, _⟩ := falseL_get hk
  have e : lastStep (falseL n t cuts) = ((i : Int), (d : Int)) := by unfold lastStep; rw [he]; rfl
  refine ⟨?_, ?_⟩
  · rw [e]; unfold openS; simp
  · rw [e, hasL_iff]
    show [(i : Int), (d : Int)] ∈ _
    rw [← he]; exact getl_mem hk
/-- x holds what has been noted. -/
def Agr (x : List (Int × Int)) (s : RSt) : Prop := s.2 <+: x ∧ s.2.length = s.1
theorem Agr.get {x : List (Int × Int)} {s : RSt} {g : Int × Int} {r : List (Int × Int)} (h : s.2 ++ [g] <+: r) (hr : r <+: x) (hs : s.2.length = s.1) : gets x s.1 = g ∧ s.1 < x.length := by
  obtain ⟨u, hu⟩ := h.trans hr
  rw [← hu]
  refine ⟨?_, by simp; omega⟩
  unfold gets
  rw [List.getD_eq_getElem?_getD, List.append_assoc, List.getElem?_append_right (by omega)]
  simp [hs]
theorem read_same {n : Nat} {t keys : List (List Int)} {steps x : List (Int × Int)} (hx : x.length = steps.length) : ∀ (d : Nat) (cuts : List (List Int)) (s s' : RSt), RdOk steps s → readF n t keys steps d cuts s = (s', true) → s'.2 <+: x → readF n t keys x d cuts s = (s', true)
  | 0, _, _, _, _, h, _ => by cases h
  | d + 1, cuts, s, s', hs, h, ha => by
    have ih := read_same hx (n := n) (t := t) (keys := keys) d
    have go : ∀ (l : List (List Int)) (s s' : RSt), RdOk steps s → runL (rdStep n t steps (readF n t keys steps d) cuts) s l = (s', true) → s'.2 <+: x → runL (rdStep n t x (readF n t keys x d) cuts) s l = (s', true) := by
      intro l
      induction l with
      | nil => intro s s' _ h _; exact h
      | cons k l ihl =>
        intro s s' hs h ha
        unfold runL at h ⊢
        by_cases hk : (rdStep n t steps (readF n t keys steps d) cuts s k).2 = true
        · rw [if_pos hk] at h
          have hzo := rdStep_ok (n := n) (t := t) (steps := steps) (rec := readF n t keys steps d) (fun c s hs => readF_ok hs) (cuts := cuts) (key := k) hs
          obtain ⟨z, hz⟩ : ∃ z, (rdStep n t steps (readF n t keys steps d) cuts s k).1 = z := ⟨_, rfl⟩
          have hst : rdStep n t steps (readF n t keys steps d) cuts s k = (z, true) := by rw [← hz, ← hk]
          rw [hz] at h hzo
          have hzx : z.2 <+: x := by
            have := run_ext (n := n) (t := t) (keys := keys) (steps := steps) (d := d) (cuts := cuts) l z
            rw [h] at this
            exact this.trans ha
          have hs2 : rdStep n t x (readF n t keys x d) cuts s k = (z, true) := by
            have hsl := hs.2
            unfold rdStep at hst ⊢
            rw [hx]
            by_cases h1 : s.1 = steps.length
            · rw [if_pos h1] at hst; cases hst
            · rw [if_neg h1] at hst ⊢
              have hs1 := hs.1
              by_cases h2 : openS (gets steps s.1) = true
              · rw [if_pos h2] at hst
                by_cases h3 : cuts.length + 1 < t.length
                · rw [if_pos h3] at hst
                  have hp : s.2 ++ [gets steps s.1] <+: z.2 := by
                    have := rd_ext (n := n) (t := t) (keys := keys) (steps := steps) (d := d) (cuts := cuts ++ [k]) (s := (s.1 + 1, s.2 ++ [gets steps s.1]))
                    rw [hst] at this
                    exact this
                  obtain ⟨hg, _⟩ := Agr.get hp hzx hsl
                  rw [hg, if_pos h2, if_pos h3]
                  exact ih _ _ _ ⟨by show s.1 + 1 ≤ _; omega, by simp [hsl]⟩ hst hzx
                · rw [if_neg h3] at hst; cases hst
              · rw [if_neg h2] at hst
                by_cases h3 : hasL (falseL n t (cuts ++ [k])) [(gets steps s.1).1, (gets steps s.1).2] = true
                · rw [if_pos h3] at hst
                  have hne : falseL n t (cuts ++ [k]) ≠ [] := by
                    intro e
                    rw [e] at h3
                    cases h3
                  obtain ⟨l1, l2⟩ := last_false hne
                  injection hst with hst _
                  subst hst
                  obtain ⟨hg, _⟩ := Agr.get (List.prefix_refl _) hzx hsl
                  rw [hg, if_neg (by rw [l1]; decide), if_pos l2]
                · rw [if_neg h3] at hst; cases hst
          rw [hs2]
          exact ihl z s' hzo h ha
        · rw [if_neg hk] at h; cases h
    exact go keys s s' hs h ha
/-- What has been noted is open where the steps are. -/
def OpenAs (steps : List (Int × Int)) (s : RSt) : Prop := s.2.length = s.1 ∧ ∀ i, i < s.2.length → openS (gets s.2 i) = openS (gets steps i)
theorem gets_app1 {a b : List (Int × Int)} {i : Nat} (h : i < a.length) : gets (a ++ b) i = gets a i := by simp [gets, List.getElem?_append_left h]
theorem gets_last {a : List (Int × Int)} {x : Int × Int} : gets (a ++ [x]) a.length = x := by simp [gets]
theorem OpenAs.snoc {steps : List (Int × Int)} {s : RSt} {g : Int × Int} (h : OpenAs steps s) (hg : openS g = openS (gets steps s.1)) : OpenAs steps (s.1 + 1, s.2 ++ [g]) := by
  refine ⟨by simp [h.1], fun i hi => ?_⟩
  by_cases hl : i < s.2.length
  · rw [gets_app1 hl]; exact h.2 i hl
  · have e : i = s.2.length := by simp at hi; omega
    subst e
    rw [gets_last, hg, h.1]
theorem read_open {n : Nat} {t keys : List (List Int)} {steps : List (Int × Int)} : ∀ {d : Nat} {cuts : List (List Int)} {s : RSt}, OpenAs steps s → OpenAs steps (readF n t keys steps d cuts s).1
  | 0, _, s, h => h
  | d + 1, cuts, s, h => runL_inv (P := OpenAs steps) (fun z k hz => by
      unfold rdStep
      split
      · exact hz
      · split
        · split
          · exact read_open (d := d) (hz.snoc rfl)
          · exact hz
        · rename_i h2
          split
          · rename_i h3
            refine hz.snoc ?_
            have hne : falseL n t (cuts ++ [k]) ≠ [] := by
              intro e
              rw [e] at h3
              cases h3
            rw [(last_false hne).1]
            cases ho : openS (gets steps z.1)
            · rfl
            · exact absurd ho h2
          · exact hz) keys s h
theorem open_count {a b : List (Int × Int)} : ∀ k, (∀ i, i < k → openS (gets a i) = openS (gets b i)) → openSt a k = openSt b k
  | 0, _ => rfl
  | k + 1, h => by unfold openSt; rw [open_count k (fun i hi => h i (by omega)), h k (by omega)]
/-- The law. -/
theorem shift_law {m : Mk} {t : List (List Int)} {steps : List (Int × Int)} :
    ((shiftAns m t steps).2 ≠ 0 → refAns m t steps = false) ∧ ((shiftAns m t steps).2 = 0 → refAns m t (shiftAns m t steps).1 = true ∧ shiftAns m t (shiftAns m t steps).1 = ((shiftAns m t steps).1, 0) ∧
      openSt (shiftAns m t steps).1 (shiftAns m t steps).1.length = openSt steps steps.length) := by
  cases hs : isSys m t
  · have e : shiftAns m t steps = ([], 1) := by unfold shiftAns; rw [if_pos hs]
    have e2 : refAns m t steps = false := by unfold refAns; rw [if_pos hs]
    rw [e]
    exact ⟨fun _ => e2, fun h => by cases h⟩
  · cases hr : refAns m t steps
    · have e : shiftAns m t steps = ([], 5) := by unfold shiftAns; rw [if_neg (by rw [hs]; decide), if_neg (by rw [hr]; decide)]
      rw [e]
      exact ⟨fun _ => rfl, fun h => by cases h⟩
    · obtain ⟨_, hl, h1, h2⟩ := refAns_len hr
      obtain ⟨x, hx⟩ : ∃ x, (rdRes m t steps).1.2 = x := ⟨_, rfl⟩
      have e : shiftAns m t steps = (x, 0) := by unfold shiftAns; rw [if_neg (by rw [hs]; decide), if_pos hr, hx]
      have hok := rdRes_ok m t steps
      have hxl : x.length = steps.length := by rw [← hx, hok.2, h2]
      have hres : rdRes m t steps = ((steps.length, x), true) := by rw [← h1, ← h2, ← hx]
      have hsame : rdRes m t x = ((steps.length, x), true) := read_same hxl t.length [] (0, []) (steps.length, x) ⟨Nat.zero_le _, rfl⟩ hres (List.prefix_refl _)
      have hrx : refAns m t x = true := by
        unfold refAns
        rw [if_neg (by rw [hs]; decide), if_neg (by omega), hsame]
        simp [hxl]
      have hopen : OpenAs steps (rdRes m t steps).1 := read_open ⟨rfl, fun i hi => by cases hi⟩
      rw [hres] at hopen
      rw [e]
      refine ⟨fun h => absurd rfl h, fun _ => ⟨hrx, ?_, ?_⟩⟩
      · unfold shiftAns
        rw [if_neg (by rw [hs]; decide), if_pos hrx, hsame]
      · show openSt x x.length = _
        rw [hxl]
        exact open_count _ fun i hi => hopen.2 i (by show i < x.length; omega)
end Go.Proofs.YtmfgdoflddhngaaGreat

namespace Go.Proofs.YtmfgdoflddhngaaGreat
open Go.RowKit
set_option linter.unusedVariables false
set_option linter.unusedSimpArgs false

theorem countOpenI_any {S : Nat → Prop} (v : Value) (l : List (Int × Int)) (W : World) (h : VS S W v l) :
    Calls Tryz.prog 20 #[v] W fun e' w' => e' = .returned (.int .i64 (openSt l l.length)) ∧ Below W.heap.size W w' := by
  have hV := h
  obtain ⟨a, c, rfl, hm⟩ := h.form
  go_enter Tryz.func20, Tryz.ntmps20
  go_wp2_with fail
  go_loopw [3, 8] (fun s i wr => ∃ k : Nat, k ≤ l.length ∧ i = .int .i64 k ∧ s = .int .i64 (openSt l k) ∧ Below W.heap.size W wr) (fun _ i _ => l.length - (intOf i).toNat)
  case atStart => exact ⟨0, Nat.zero_le _, rfl, rfl, Below.refl _ _⟩
  case round =>
    obtain ⟨k, hk, rfl, rfl, hB⟩ := hrel
    have hol := openTo_le l k
    have hzW := hB.size
    by_cases hkk : k < l.length
    · obtain ⟨b1, off1, rfl, _, hc1, hc2⟩ := (hV.below hB).cell hkk
      cases ho : openS (gets l k)
      · have HO := Lib.hid ho; clear ho
        go_wp2_with (go_at_call 111; refine (isOpenStep_b _ _ _ HO.out).mono ?_; rintro e' w' ⟨rfl, hb⟩; have hzB := hb.size; (try simp only [World.size_alloc, World.size_setCell, World.size_drew] at hzB))
        go_roundw
        case rel => exact ⟨k + 1, by omega, by go_num, by rw [openSt, if_neg (by rw [HO.out]; decide)]; rfl, by (repeat (first | (with_reducible refine Below.setCell ?_ ?_ _) | (with_reducible refine Below.alloc ?_ ?_ _) | (with_reducible refine Below.drew ?_) | (with_reducible refine below_drewN ?_ _) | (with_reducible exact Below.refl _ _) | (with_reducible assumption) | (with_reducible refine Below.trans ?_ (Below.mono (by with_reducible assumption) ?_)) | go_size))⟩
        case measure => simp [intOf]; omega
      · have HO := Lib.hid ho; clear ho
        go_wp2_with (go_at_call 111; refine (isOpenStep_b _ _ _ HO.out).mono ?_; rintro e' w' ⟨rfl, hb⟩; have hzB := hb.size; (try simp only [World.size_alloc, World.size_setCell, World.size_drew] at hzB))
        go_roundw
        case rel => exact ⟨k + 1, by omega, by go_num, by rw [openSt, if_pos HO.out]; go_num, by (repeat (first | (with_reducible refine Below.setCell ?_ ?_ _) | (with_reducible refine Below.alloc ?_ ?_ _) | (with_reducible refine Below.drew ?_) | (with_reducible refine below_drewN ?_ _) | (with_reducible exact Below.refl _ _) | (with_reducible assumption) | (with_reducible refine Below.trans ?_ (Below.mono (by with_reducible assumption) ?_)) | go_size))⟩
        case measure => simp [intOf]; omega
    · obtain rfl : k = l.length := by omega
      go_wp2_with fail
      go_ret
      exact ⟨rfl, hB⟩

end Go.Proofs.YtmfgdoflddhngaaGreat
