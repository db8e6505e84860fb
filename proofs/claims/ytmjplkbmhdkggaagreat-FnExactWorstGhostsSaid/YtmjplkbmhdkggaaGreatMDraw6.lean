/- The reference's draws of cuts. No conditions. -/
import Derived.Test.YtmjplkbmhdkggaaGreatMWstO
import Derived.Test.YtmjplkbmhdkggaaGreatMEach5
import Derived.Test.YtmjplkbmhdkggaaGreatMGhosts
namespace Go.Proofs.YtmjplkbmhdkggaaGreat
open Go.RowKit
set_option linter.unusedVariables false
set_option linter.unusedSimpArgs false
/-- A list in memory of its own whose rows lie elsewhere, in new memory. -/
def OV (B : Nat) (w : World) (v : Value) (ls : List (List Int)) : Prop :=
 ∃ vs, w.ownsRow B 44 1 v ls.length vs ∧ RowVs (fun b => B ≤ b ∧ v.ownBlock ≠ some b) w vs ls
theorem OV.nil {B : Nat} {w : World} {v : Value} (h : w.ownsRow B 44 1 v 0 []) : OV B w v [] := ⟨[], h, RowVs.nil⟩
theorem OV.only {B SB : Nat} {w w' : World} {v : Value} {ls : List (List Int)} (h : OV B w v ls) (hc : Only SB w w') (hs : SB < B) : OV B w' v ls := by
 obtain ⟨vs, h1, h2⟩ := h
 exact ⟨vs, own_only h1 hc hs, h2.keep (hc.keep fun b hb e => by have := hb.1; omega)⟩
theorem OV.below {B : Nat} {w w' : World} {v : Value} {ls : List (List Int)} (h : OV B w v ls) (hb : Below w.heap.size w w') : OV B w' v ls := by
 obtain ⟨vs, h1, h2⟩ := h
 exact ⟨vs, own_keep h1 hb, h2.below hb⟩
theorem OV.base {B B' : Nat} {w : World} {v : Value} {ls : List (List Int)} (h : OV B w v ls) (hb : B' ≤ B) : OV B' w v ls := by
 obtain ⟨vs, h1, h2⟩ := h
 exact ⟨vs, own_base h1 hb, h2.1, fun k hk => by obtain ⟨ev, h3, h4⟩ := h2.2 k hk; exact ⟨ev, h3, h4.mono (fun b h _ => ⟨by have := h.1; omega, h.2⟩) (fun _ _ _ => rfl)⟩⟩
theorem OV.form {B : Nat} {w : World} {v : Value} {ls : List (List Int)} (h : OV B w v ls) : ∃ a c, v = .slice a ls.length c ∧ ls.length ≤ c ∧ c ≤ maxLen := by
 obtain ⟨vs, h1, h2⟩ := h; exact own_form h1
theorem OV.push {B : Nat} {w w2 w1 : World} {v v1 rv : Value} {ls : List (List Int)} {l : List Int} {vs : List Value}
  (h1 : w.ownsRow B 44 1 v ls.length vs) (h2 : RowVs (fun b => B ≤ b ∧ v.ownBlock ≠ some b) w vs ls) (hB : B ≤ w.heap.size) (hz : w.heap.size ≤ w2.heap.size) (hk : ∀ b, B ≤ b → b < w.heap.size → w2.heap[b]? = w.heap[b]?) (hx : V1 (fun b => w.heap.size ≤ b) w2 rv l)
  (hown : w1.ownsRow B 44 1 v1 (ls.length + 1) (vs ++ [rv])) (hg : w2.grownBy w1 v.ownBlock) (hblk : v1.ownBlock = v.ownBlock ∨ ∃ g, v1.ownBlock = some g ∧ w2.heap.size ≤ g) : OV B w1 v1 (ls ++ [l]) := by
 have hvl : ∀ g, v.ownBlock = some g → g < w.heap.size := fun g hgg => (h1.lt g hgg).2
 have hne1 : ∀ c, c < w2.heap.size → v.ownBlock ≠ some c → v1.ownBlock ≠ some c := fun c hc hn e => by
  rcases hblk with e1 | ⟨g, e1, hge⟩
  ·exact hn (e1.symm.trans e)
  ·rw [e] at e1; cases e1; omega
 refine ⟨vs ++ [rv], by simpa using hown, RowVs.snoc ⟨h2.1, fun k hk' => ?_⟩ ?_⟩
 ·obtain ⟨ev, h3, h4⟩ := h2.2 k hk'
  exact ⟨ev, h3, h4.mono (fun b hb hlt => ⟨hb.1, hne1 b (by omega) hb.2⟩) (fun b hb hlt => by rw [hg.block b (by omega) (fun e => hb.2 e.symm), hk b hb.1 hlt])⟩
 ·exact hx.mono (fun b hb hlt => ⟨by omega, hne1 b hlt (fun e => by have := hvl b e; omega)⟩) (fun b hb hlt => hg.block b hlt (fun e => by have := hvl b e.symm; omega))
theorem OV.v2 {B : Nat} {w : World} {v : Value} {ls : List (List Int)} (h : OV B w v ls) : V2 (fun b => B ≤ b) w v ls := by
 obtain ⟨vs, ⟨hl, h⟩, hr⟩ := h
 rcases h with ⟨rfl, h0⟩ | ⟨g, cap, cur, rfl, hb, hh, hc, hm, hs, ht⟩
 ·exact ⟨none, 0, by rw [h0], by omega, Nat.zero_le _, fun k hk => by omega⟩
 ·refine ⟨_, _, rfl, hc, hm, fun k hk => ?_⟩
  obtain ⟨ev, h1, h2⟩ := hr.2 k hk
  refine ⟨g, 0, ev, rfl, hb, ?_, h2.mono (fun b h _ => h.1) (fun _ _ _ => rfl)⟩
  have h3 : (cur.toList.take (ls.length * 1))[k]? = vs[k]? := by rw [ht]
  rw [List.getElem?_take, if_pos (by omega), h1] at h3
  rw [cell_of_block hh, Nat.zero_add, ← Array.getElem?_toList, h3]
theorem OV.put {B n c i : Nat} {w : World} {a : Option Addr} {rv : Value} {ls : List (List Int)} {l : List Int} (h : OV B w (.slice a n c) ls) (hi : i < ls.length) (hx : V1 (fun b => B ≤ b ∧ (Value.slice a n c).ownBlock ≠ some b) w rv l) :
  ∃ g u, a = some ⟨g, 0, none⟩ ∧ B ≤ g ∧ w.cell? ⟨g, i, none⟩ = some u ∧ w.frozen? ⟨g, i, none⟩ = false ∧ OV B (w.setCell ⟨g, i, none⟩ rv) (.slice a n c) (ls.set i l) := by
 obtain ⟨vs, ⟨hl, h⟩, hr⟩ := h
 rcases h with ⟨e, h0⟩ | ⟨g, cap, cur, e, hb, hh, hc, hm, hs, ht⟩
 ·omega
 ·simp only [Value.slice.injEq] at e
  obtain ⟨rfl, rfl, rfl⟩ := e
  have hik : i < cur.size := by omega
  refine ⟨g, cur[i], rfl, hb, by rw [cell_of_block hh]; exact Array.getElem?_eq_getElem hik, frozen_of_block hh _, vs.set i rv, ⟨by simp; omega, .inr ⟨g, c, cur.setIfInBounds i rv, by simp, hb, heap_setCell_self hh _, by simp; omega, hm, by simp; omega, by rw [← ht]; simp [List.take_set]⟩⟩, by simp [hr.1], fun k hk => ?_⟩
  have hk' : k < ls.length := by simpa using hk
  have hkeep : Keep (fun b => B ≤ b ∧ (Value.slice (some ⟨g, 0, none⟩) ls.length c).ownBlock ≠ some b) w (w.setCell ⟨g, i, none⟩ rv) := fun b hb' _ => heap_setCell_other _ (fun e => hb'.2 (by rw [e]; rfl))
  by_cases hki : i = k
  ·subst hki
   refine ⟨rv, by rw [List.getElem?_set, if_pos rfl]; simp [hr.1]; omega, ?_⟩
   rw [getl_set hk', if_pos rfl]
   exact hx.mono (fun b h _ => h) hkeep
  ·obtain ⟨ev, h1, h2⟩ := hr.2 k hk'
   refine ⟨ev, by rw [List.getElem?_set, if_neg hki]; exact h1, ?_⟩
   rw [getl_set hk', if_neg hki]
   exact h2.mono (fun b h _ => h) hkeep
def geb (l : List Bool) (k : Nat) : Bool := (l[k]?).getD false
def isBo (v : Value) (b : Bool) : Prop := v = .bool b
/-- A slice of truth values. -/
def VBo (S : Nat → Prop) (w : World) (v : Value) (l : List Bool) : Prop := Vs geb isBo S w v l
theorem VBo.mono {S S' : Nat → Prop} {w w' : World} {v : Value} {l : List Bool} (h : VBo S w v l) (hS : ∀ b, S b → b < w.heap.size → S' b) (hk : Keep S w w') : VBo S' w' v l := Vs.mono h hS hk fun _ _ r => r
theorem VBo.below {S : Nat → Prop} {w w' : World} {v : Value} {l : List Bool} (h : VBo S w v l) (hb : Below w.heap.size w w') : VBo S w' v l := h.mono (fun _ h _ => h) (Below.keep hb fun _ _ h => h)
theorem VBo.cell {S : Nat → Prop} {w : World} {a : Option Addr} {n c k : Nat} {l : List Bool} (h : VBo S w (.slice a n c) l) (hk : k < l.length) : ∃ b off, a = some ⟨b, off, none⟩ ∧ S b ∧ w.cell? ⟨b, off + k, none⟩ = some (.bool (geb l k)) := by
 obtain ⟨a', c', e, hl, hm, h⟩ := h
 simp only [Value.slice.injEq] at e
 obtain ⟨rfl, rfl, rfl⟩ := e
 obtain ⟨b, off, ev, ha, hb, hc, rfl⟩ := h k hk
 exact ⟨b, off, ha, hb, hc⟩
/-- Two lists do not share their memory. -/
def Dis (u v : Value) : Prop := ∀ g, u.ownBlock = some g → v.ownBlock ≠ some g
theorem Dis.symm {u v : Value} (h : Dis u v) : Dis v u := fun g h1 h2 => h g h2 h1
/-- Parents come before their children; the first has none. -/
def Par (P : List Int) : Prop := ∀ i, i < P.length → -1 ≤ geti P i ∧ geti P i < i ∧ (1 ≤ i → 0 ≤ geti P i)
theorem Par.snoc {P : List Int} {x : Int} (h : Par P) (hn : 1 ≤ P.length) (h0 : 0 ≤ x) (h1 : x < P.length) : Par (P ++ [x]) := fun i hi => by
 by_cases hiP : i < P.length
 ·rw [geti_append hiP]; exact h i hiP
 ·have e : i = P.length := by simp at hi; omega
  subst e
  rw [geti_snoc]
  omega
/-- Numbers of nodes. -/
def Nodes (n : Nat) (ds : List Int) : Prop := ∀ j, j < ds.length → 0 ≤ geti ds j ∧ geti ds j < n
theorem Nodes.snoc {n : Nat} {ds : List Int} {x : Int} (h : Nodes n ds) (h0 : 0 ≤ x) (h1 : x < n) : Nodes n (ds ++ [x]) := fun j hj => by
 by_cases hjl : j < ds.length
 ·rw [geti_append hjl]; exact h j hjl
 ·have e : j = ds.length := by simp at hj; omega
  subst e; rw [geti_snoc]; exact ⟨h0, h1⟩
/-- All rows have at most so many entries. -/
def Rows (n : Nat) (R : List (List Int)) : Prop := ∀ j, j < R.length → (getl R j).length ≤ n
theorem Rows.snoc {n : Nat} {R : List (List Int)} {l : List Int} (h : Rows n R) (hl : l.length ≤ n) : Rows n (R ++ [l]) := fun j hj => by
 by_cases hjl : j < R.length
 ·rw [getl_app1 hjl]; exact h j hjl
 ·have e : j = R.length := by simp at hj; omega
  subst e; rw [getl_app2]; exact hl
/-- Rows that are not empty, and short. -/
def Fill (T : List (List Int)) : Prop := ∀ j, j < T.length → 1 ≤ (getl T j).length ∧ (getl T j).length ≤ 10
theorem Fill.snoc {T : List (List Int)} {l : List Int} (h : Fill T) (hl : 1 ≤ l.length ∧ l.length ≤ 10) : Fill (T ++ [l]) := fun j hj => by
 by_cases hjl : j < T.length
 ·rw [getl_app1 hjl]; exact h j hjl
 ·have e : j = T.length := by simp at hj; omega
  subst e; rw [getl_app2]; exact hl
theorem F2.ne {B : Nat} {w : World} {ob off n c b o2 m rc i : Nat} {ls : List (List Int)} (h : F2 B w (.slice (some ⟨ob, off, none⟩) n c) ls) (hi : i < ls.length) (hne : getl ls i ≠ []) (hc : w.cell? ⟨ob, off + i, none⟩ = some (.slice (some ⟨b, o2, none⟩) m rc)) : b ≠ ob := by
 obtain ⟨ob', bk, ⟨a', c', e, h1, h2, h3, h4⟩, h5, h6⟩ := h
 simp only [Value.slice.injEq] at e
 obtain ⟨rfl, rfl, rfl⟩ := e
 obtain ⟨off', cs, e, ha, hh, hrows⟩ := h3 (by intro e; subst e; simp at hi)
 simp only [Option.some.injEq, Addr.mk.injEq, and_true] at ha
 obtain ⟨rfl, rfl⟩ := ha
 obtain ⟨rv, hr1, a1, c1, rfl, g1, g2, g3⟩ := hrows i hi
 rw [cell_of_block hh, hr1] at hc
 obtain ⟨o, cs2, e2, rfl, _⟩ := g3 hne
 simp only [Option.some.injEq, Value.slice.injEq, Addr.mk.injEq, and_true] at hc
 obtain ⟨⟨rfl, _⟩, _⟩ := hc
 exact (h4 i hi hne).1
theorem OV.row {B : Nat} {w : World} {v : Value} {ls : List (List Int)} {vs : List Value} {S : Nat → Prop} {k : Nat} (h1 : w.ownsRow B 44 1 v ls.length vs) (h2 : RowVs S w vs ls) (hk : k < ls.length) :
  ∃ g cap a c, v = .slice (some ⟨g, 0, none⟩) ls.length cap ∧ w.cell? ⟨g, k, none⟩ = some (.slice a (getl ls k).length c) ∧ V1 S w (.slice a (getl ls k).length c) (getl ls k) := by
 obtain ⟨hl, h⟩ := h1
 obtain ⟨ev, h3, h4⟩ := h2.2 k hk
 obtain ⟨a, c, rfl, _⟩ := h4.form
 rcases h with ⟨rfl, h0⟩ | ⟨g, cap, cur, rfl, hb, hh, hc, hm, hs, ht⟩
 ·omega
 ·refine ⟨g, cap, a, c, rfl, ?_, h4⟩
  have h5 : (cur.toList.take (ls.length * 1))[k]? = vs[k]? := by rw [ht]
  rw [List.getElem?_take, if_pos (by omega), h3] at h5
  rw [cell_of_block hh, ← Array.getElem?_toList, h5]
theorem OV.push2 {B : Nat} {w w1 : World} {v v1 rv : Value} {ls : List (List Int)} {l : List Int} {vs : List Value}
  (h1 : w.ownsRow B 44 1 v ls.length vs) (h2 : RowVs (fun b => B ≤ b ∧ v.ownBlock ≠ some b) w vs ls) (hx : V1 (fun b => B ≤ b ∧ v.ownBlock ≠ some b) w rv l)
  (hown : w1.ownsRow B 44 1 v1 (ls.length + 1) (vs ++ [rv])) (hg : w.grownBy w1 v.ownBlock) (hblk : v1.ownBlock = v.ownBlock ∨ ∃ g, v1.ownBlock = some g ∧ w.heap.size ≤ g) : OV B w1 v1 (ls ++ [l]) := by
 have hne1 : ∀ c, c < w.heap.size → v.ownBlock ≠ some c → v1.ownBlock ≠ some c := fun c hc hn e => by
  rcases hblk with e1 | ⟨g, e1, hge⟩
  ·exact hn (e1.symm.trans e)
  ·rw [e] at e1; cases e1; omega
 have hkeep : Keep (fun b => B ≤ b ∧ v.ownBlock ≠ some b) w w1 := fun b hb hlt => hg.block b hlt (fun e => hb.2 e.symm)
 refine ⟨vs ++ [rv], by simpa using hown, RowVs.snoc ⟨h2.1, fun k hk' => ?_⟩ (hx.mono (fun b hb hlt => ⟨hb.1, hne1 b hlt hb.2⟩) hkeep)⟩
 obtain ⟨ev, h3, h4⟩ := h2.2 k hk'
 exact ⟨ev, h3, h4.mono (fun b hb hlt => ⟨hb.1, hne1 b hlt hb.2⟩) hkeep⟩
theorem Out2.ov {B : Nat} {w : World} {v : Value} {ls : List (List Int)} (h : Out2 B w v ls) : OV B w v ls := by
 obtain ⟨vs, bk, h1, h2, h3⟩ := h
 refine ⟨vs, h1, by have := h1.1; omega, fun k hk => ?_⟩
 obtain ⟨rv, h4, h5⟩ := h2 k hk
 exact ⟨rv, h4, h5.v1 (fun hn => ⟨(h3 k hk hn).1, (h3 k hk hn).2.1⟩)⟩
theorem take_pre {P Q : List (List Int)} {M : Nat} (h : P <+: Q) (hl : M ≤ (P.take M).length) : P.take M = Q.take M := by
 obtain ⟨R, rfl⟩ := h
 rw [List.length_take] at hl
 rw [List.take_append_of_le_length (by omega)]
def wlv (locks : List (List (List Int))) (L A : List (List Int)) (p i : Nat) : List (List Int) := A ++ lvlL locks (L.take i) p
theorem wlv_0 (locks : List (List (List Int))) (L A : List (List Int)) (p : Nat) : wlv locks L A p 0 = A := by simp [wlv, lvlL]
theorem wlv_hit {locks : List (List (List Int))} {L A : List (List Int)} {p i : Nat} (hi : i < L.length) (h : ndoors locks (getl L i) = p) : wlv locks L A p (i + 1) = wlv locks L A p i ++ [getl L i] := by
 unfold wlv lvlL
 rw [take_getl hi, List.filter_append, List.append_assoc]
 simp [h]
theorem wlv_miss {locks : List (List (List Int))} {L A : List (List Int)} {p i : Nat} (hi : i < L.length) (h : ndoors locks (getl L i) ≠ p) : wlv locks L A p (i + 1) = wlv locks L A p i := by
 unfold wlv lvlL
 rw [take_getl hi, List.filter_append]
 simp [h]
theorem wlv_pre {locks : List (List (List Int))} {L A : List (List Int)} {p i : Nat} : wlv locks L A p i <+: A ++ lvlL locks L p := by
 unfold wlv lvlL
 exact (List.prefix_append_right_inj _).2 ((List.take_prefix i L).filter _)
theorem wlv_end {locks : List (List (List Int))} {L A : List (List Int)} {p i M : Nat} (h : ¬ (i < L.length ∧ ((wlv locks L A p i).take M).length < M)) : (wlv locks L A p i).take M = (A ++ lvlL locks L p).take M := by
 by_cases hi : i < L.length
 ·exact take_pre wlv_pre (by omega)
 ·unfold wlv; rw [List.take_of_length_le (show L.length ≤ i by omega)]
theorem take_snoc {P : List (List Int)} {x : List Int} {M : Nat} (h : (P.take M).length < M) : (P ++ [x]).take M = P.take M ++ [x] := by
 rw [List.length_take] at h
 rw [List.take_of_length_le (by simp; omega), List.take_of_length_le (show P.length ≤ M by omega)]
set_option maxRecDepth 100000 in
set_option maxHeartbeats 2000000 in
theorem WorstGhostsR_any {S S' : Nat → Prop} (m : Mk) (u v : Value) (t cuts : List (List Int)) (most : Int) (W : World) (h : V2 S W u t) (hc : V2 S' W v cuts) :
  Calls Tryz.prog 9 #[.agg #[.int .i64 m.c, .int .i64 m.d, .int .i64 m.s, .int .i64 m.e, .int .i64 m.l, u], v, .int .i64 most] W fun e' w' => ∃ v', e' = .returned (.tuple #[v', .int .i64 (wghAns m t cuts most).2]) ∧ V2 (fun b => b < w'.heap.size) w' v' (wghAns m t cuts most).1 ∧ Below W.heap.size W w' := by
 obtain ⟨a, c, rfl, hmx⟩ := h.form
 obtain ⟨a', c', rfl, hmx'⟩ := hc.form
 obtain ⟨W1, hW1, hB01, hz01, HZ01, hc01, hh01⟩ := box_facts W #[.int .i64 m.c, .int .i64 m.d, .int .i64 m.s, .int .i64 m.e, .int .i64 m.l, .slice a t.length c] 33
 have hV1 := (h.below hB01).old
 have hC1 := (hc.below hB01).old
 have hcode := l21Code_any m _ _ t cuts W1 hV1 hC1
 by_cases hp : designC m t cuts = 0
 ·rw [hp] at hcode
  have hf := (design_fits hp).1
  have hmc := mc_nat hf.ok
  cases hi : inB most 0 300
  ·have hfin : wghAns m t cuts most = ([], 2) := by unfold wghAns; rw [if_neg (by rw [hp]; decide), if_pos hi]
   rw [hfin]
   have Hp := Lib.hid (And.intro hp (And.intro hf (And.intro hmc hfin))); clear hp hf hmc hfin
   have Hi := Lib.hid hi; clear hi
   go_enter Tryz.func9, Tryz.ntmps9
   go_wp2_with fail
   rw [← hW1]
   refine hcode.mono ?_
   rintro e' w2 ⟨rfl, hb2⟩
   have hx2 : ∀ o, w2.cell? ⟨W.heap.size, o, none⟩ = (#[.int .i64 m.c, .int .i64 m.d, .int .i64 m.s, .int .i64 m.e, .int .i64 m.l, .slice a t.length c] : Array Value)[o]? := fun o => by rw [(bcell hb2).1 _ _ hz01, hc01]
   have hz2 : W.heap.size < w2.heap.size := by have := hb2.size; omega
   clear hh01
   go_wp2_with (go_at_call 53; refine (l01In_b _ _ _ _ _ Hi.out).mono ?_; rintro e' w' ⟨rfl, rfl⟩)
   go_ret2
   exact ⟨_, rfl, (F2.nil0 (B := 0)).v2.old, hB01.trans (hb2.mono (by omega))⟩
  ·have hm := inB_iff.1 hi
   have hfin : wghAns m t cuts most = ((frontL (locksTo m.c.toNat t cuts (getl t 0).length) (selL (locksTo m.c.toNat t cuts (getl t 0).length) cuts true (keysOf m)) (getl t 0).length (getl t 0).length).take most.toNat, 0) := by unfold wghAns; rw [if_neg (by rw [hp]; decide), if_neg (by rw [hi]; decide)]
   rw [hfin]
   obtain ⟨M, rfl⟩ : ∃ M : Nat, most = (M : Int) := ⟨most.toNat, by omega⟩
   rw [show ((M : Int)).toNat = M from rfl]
   have hM : M ≤ 300 := by omega
   have hkl := keysOf_length hf.ok
   have hmk := Mk.ok_iff.1 hf.ok
   have hrows := hf.rows
   have hdoors := hf.doors
   obtain ⟨b0, off0, a0, c0, rfl, _, hcc0, hr0⟩ := hV1.cell (k := 0) (by omega)
   simp only [Nat.add_zero] at hcc0
   have hout := l21Outsiders_any (S := fun _ => True) (S' := fun _ => True) m (.slice (some ⟨b0, off0, none⟩) t.length c) (.slice a' cuts.length c') t cuts m.c.toNat true
   have hdo := fun (kv : Value) (key : List Int) => l16Doors_any (S := fun _ => True) (S' := fun _ => True) (S2 := fun _ => True) m (.slice (some ⟨b0, off0, none⟩) t.length c) (.slice a' cuts.length c') kv t cuts key m.c.toNat
   obtain ⟨locks, hlocks⟩ : ∃ x, x = locksTo m.c.toNat t cuts (getl t 0).length := ⟨_, rfl⟩
   rw [← hlocks] at hout ⊢
   simp only [← hlocks] at hdo
   obtain ⟨L, hL⟩ : ∃ x, selL locks cuts true (keysOf m) = x := ⟨_, rfl⟩
   have hLl : L.length ≤ 262144 := by rw [← hL]; exact Nat.le_trans (selL_length _ _ _ _) hkl
   have hmem : ∀ i, i < L.length → (getl L i).length ≤ m.c.toNat := fun i hi => by
    have h1 := getl_mem hi
    rw [← hL] at h1
    unfold selL at h1
    rw [List.mem_filter] at h1
    have h2 := (isKey_iff.1 ((mem_keysOf (by omega)).1 h1.1)).1
    have h5 : ((getl L i).length : Int) = m.c := by rw [← hL]; exact h2
    omega
   rw [hL] at hout ⊢
   obtain ⟨D, hD⟩ : ∃ D, (getl t 0).length = D := ⟨_, rfl⟩
   rw [hD] at hcc0 hdoors ⊢
   have ht0 : ¬ t.length ≤ 0 := by omega
   have ht1 : (0 : Int) < (t.length : Int) := by omega
   have Hp := Lib.hid (And.intro hp (And.intro hf (And.intro hmc (And.intro hout (And.intro hdo (And.intro hmem (And.intro hcc0 (And.intro hL (And.intro hlocks hD))))))))); clear hp hf hmc hfin hout hdo hmem hcc0 hL hlocks hD hkl hmk hr0
   have Hi := Lib.hid hi; clear hi
   have Hm := Lib.hid hm; clear hm
   go_enter Tryz.func9, Tryz.ntmps9
   go_wp2_with fail
   rw [← hW1]
   refine hcode.mono ?_
   rintro e' w2 ⟨rfl, hb2⟩
   have hx2 : ∀ o, w2.cell? ⟨W.heap.size, o, none⟩ = (#[.int .i64 m.c, .int .i64 m.d, .int .i64 m.s, .int .i64 m.e, .int .i64 m.l, .slice (some ⟨b0, off0, none⟩) t.length c] : Array Value)[o]? := fun o => by rw [(bcell hb2).1 _ _ hz01, hc01]
   have hz2 : W.heap.size < w2.heap.size := by have := hb2.size; omega
   clear hh01
   go_wp2_with (go_at_call 53; refine (l01In_b _ _ _ _ _ Hi.out).mono ?_; rintro e' w' ⟨rfl, rfl⟩)
   refine (Hp.out.2.2.2.1 _ Hp.out.2.1 Hp.out.2.2.1 (hV1.below hb2).any (hC1.below hb2).any).mono ?_
   rintro e' w3 ⟨v3, rfl, hF3, hb3⟩
   obtain ⟨a3, c3, rfl, hm3⟩ := hF3.form
   have hb13 := hb2.trans (hb3.mono hb2.size)
   have hz3 : W.heap.size < w3.heap.size := by have := hb3.size; omega
   have hown0 := own_lit0 w3 w3.heap.size 44 1 (Nat.le_refl _)
   obtain ⟨w4, hw4⟩ : ∃ x, x = w3.alloc (.cells #[] 44) := ⟨_, rfl⟩
   have hb4 : Below w3.heap.size w3 w4 := by rw [hw4]; exact (Below.refl _ _).alloc (Nat.le_refl _) _
   rw [← hw4] at hown0
   have hb14 := hb13.trans (hb4.mono hb13.size)
   have hx4 : ∀ o, w4.cell? ⟨W.heap.size, o, none⟩ = (#[.int .i64 m.c, .int .i64 m.d, .int .i64 m.s, .int .i64 m.e, .int .i64 m.l, .slice (some ⟨b0, off0, none⟩) t.length c] : Array Value)[o]? := fun o => by rw [(bcell hb14).1 _ _ hz01, hc01]
   have hcc4 := cell_keep Hp.out.2.2.2.2.2.2.1 (hb14.block _ (lt_of_cell Hp.out.2.2.2.2.2.2.1))
   have hx4b : ∀ o, (w3.alloc (.cells #[] 44)).cell? ⟨W.heap.size, o, none⟩ = (#[.int .i64 m.c, .int .i64 m.d, .int .i64 m.s, .int .i64 m.e, .int .i64 m.l, .slice (some ⟨b0, off0, none⟩) t.length c] : Array Value)[o]? := fun o => by rw [← hw4]; exact hx4 o
   have hcc4b : (w3.alloc (.cells #[] 44)).cell? ⟨b0, off0, none⟩ = some (.slice a0 D c0) := by rw [← hw4]; exact hcc4
   have HF3 := Lib.hid hF3; clear hF3 hx2 hx4 hcc4
   have H4 := Lib.hid (And.intro hw4 (And.intro hown0 (And.intro hb4 (And.intro hb13 hc01)))); clear hw4 hown0 hb4 hb13 hb14 hc01 hb2 hb3
   go_wp2_with fail
   rw [← H4.out.1]
   clear hx4b hcc4b
   go_loopw [10, 11, 12] (fun ou nv _ wr => ∃ p : Nat, p ≤ D ∧ nv = .int .i64 (p : Int) ∧ OV 0 wr ou ((frontL locks L D (D - p)).take M) ∧ (∀ g, ou.ownBlock = some g → w3.heap.size ≤ g) ∧ Below w3.heap.size w3 wr) (fun _ nv _ _ => (intOf nv).toNat)
   case atStart => exact ⟨D, Nat.le_refl _, rfl, by rw [Nat.sub_self, show frontL locks L D 0 = [] from rfl, List.take_nil]; exact OV.nil (own_base H4.out.2.1 (Nat.zero_le _)), fun g hg => by have := (H4.out.2.1.lt g hg).1; omega, H4.out.2.2.1⟩
   case round =>
    obtain ⟨p, hpD, rfl, hO, hob, hbr⟩ := hrel
    obtain ⟨oa, oc, rfl, _, _⟩ := hO.form
    have hzr := hbr.size
    by_cases hp0 : 0 < p
    ·have hA : frontL locks L D (D - (p - 1)) = frontL locks L D (D - p) ++ lvlL locks L p := by
      rw [show D - (p - 1) = (D - p) + 1 by omega]
      show frontL locks L D (D - p) ++ lvlL locks L (D - (D - p)) = _
      rw [show D - (D - p) = p by omega]
     obtain ⟨A, hAe⟩ : ∃ A, frontL locks L D (D - p) = A := ⟨_, rfl⟩
     rw [hAe] at hA hO hob ⊢
     have hw0 := wlv_0 locks L A p
     rw [← hw0] at hO hob ⊢
     have HA := Lib.hid (And.intro hA (And.intro hAe hw0)); clear hA hAe hw0
     have HO := Lib.hid (And.intro hO (And.intro hob hbr)); clear hO hob hbr
     go_wp2_with fail
     go_loopw [10, 12] (fun ou iv wq => ∃ i : Nat, i ≤ L.length ∧ iv = .int .i64 (i : Int) ∧ OV 0 wq ou ((wlv locks L A p i).take M) ∧ (∀ g, ou.ownBlock = some g → w3.heap.size ≤ g) ∧ Below w3.heap.size w3 wq) (fun _ iv _ => L.length - (intOf iv).toNat)
     case atStart => exact ⟨0, Nat.zero_le _, rfl, HO.out.1, HO.out.2.1, HO.out.2.2⟩
     case round =>
      clear HO
      obtain ⟨i, hiL, rfl, hO, hob, hbq⟩ := hrel
      obtain ⟨qa, qc, rfl, _, _⟩ := hO.form
      have hzq := hbq.size
      have hend := wlv_end (locks := locks) (L := L) (A := A) (p := p) (i := i) (M := M)
      have hle : ((wlv locks L A p i).take M).length ≤ M := by rw [List.length_take]; omega
      obtain ⟨O, hOe⟩ : ∃ O, (wlv locks L A p i).take M = O := ⟨_, rfl⟩
      rw [hOe] at hO hob hend hle ⊢
      by_cases hgo : i < L.length ∧ O.length < M
      ·obtain ⟨hi, hOM⟩ := hgo
       have hid : decide ((i : Int) < (L.length : Int)) = true := decide_eq_true (by omega)
       have hod : decide ((O.length : Int) < (M : Int)) = true := decide_eq_true (by omega)
       have hin : ¬ L.length ≤ i := by omega
       have hb1q := H4.out.2.2.2.1.trans (hbq.mono (by have := H4.out.2.2.2.1.size; omega))
       have hxq : ∀ o, wr.cell? ⟨W.heap.size, o, none⟩ = (#[.int .i64 m.c, .int .i64 m.d, .int .i64 m.s, .int .i64 m.e, .int .i64 m.l, .slice (some ⟨b0, off0, none⟩) t.length c] : Array Value)[o]? := fun o => by rw [(bcell hb1q).1 _ _ hz01, H4.out.2.2.2.2]
       obtain ⟨b1, off1, a1, c1, rfl, _, hc1, hr1⟩ := (HF3.out.below hbq).cell hi
       have hlt1 := lt_of_cell hc1
       have hVq := (hV1.below hb1q).any
       have hCq := (hC1.below hb1q).any
       have hkn := Hp.out.2.2.2.2.2.1 i hi
       have hdr : Below wr.heap.size wr wr.drew := (Below.refl _ _).drew
       have hsn := take_snoc (P := wlv locks L A p i) (x := getl L i) (M := M) (by rw [hOe]; exact hOM)
       have hhit := wlv_hit (locks := locks) (A := A) (p := p) hi
       have hmiss := wlv_miss (locks := locks) (A := A) (p := p) hi
       rw [hOe] at hsn
       obtain ⟨K, hK⟩ : ∃ K, getl L i = K := ⟨_, rfl⟩
       rw [hK] at hc1 hr1 hkn hsn hhit hmiss
       have HQ := Lib.hid (And.intro hO (And.intro hob (And.intro hbq (And.intro hr1 (And.intro hc1 (And.intro hb1q (And.intro hVq (And.intro hCq (And.intro hkn (And.intro hK hOe)))))))))); clear hO hob hbq hr1 hb1q hVq hCq hkn hK hend
       obtain ⟨q, hq⟩ : ∃ q, decide (ndoors locks K = p) = q := ⟨_, rfl⟩
       have hqd : decide ((ndoors locks K : Int) = (p : Int)) = q := by rw [← hq]; exact decide_eq_decide.2 (by omega)
       have hqb : (((ndoors locks K : Nat) : Int) == (p : Int)) = q := by rw [← hqd]; simp [Bool.beq_eq_decide_eq]
       have hstep : (wlv locks L A p (i + 1)).take M = if q = true then O ++ [K] else O := by
        rw [← hq]
        by_cases he : ndoors locks K = p
        ·rw [hhit he, hsn]; simp [he]
        ·rw [hmiss he, hOe]; simp [he]
       have Hst := Lib.hid hstep; clear hstep hsn hhit hmiss hOe hq hqd
       cases q
       ·go_wp2_with fail
        go_region_law? (go_simp; go_at_call 55; refine (Hp.out.2.2.2.2.1 _ K _ Hp.out.2.1 Hp.out.2.2.1 HQ.out.2.2.2.2.2.2.2.2.1 (HQ.out.2.2.2.2.2.2.1.below hdr) (HQ.out.2.2.2.2.2.2.2.1.below hdr) ((HQ.out.2.2.2.1.any).below hdr)).mono ?_; rintro e' wz ⟨vq, rfl, hFq, hbq⟩; obtain ⟨aq, cq, rfl, hqm⟩ := hFq.v1.form; rw [show (doorsOf locks K).length = ndoors locks K from rfl]; have hb0q : Below wr.heap.size wr wz := hdr.trans (hbq.mono (Nat.le_refl _)); (try dsimp only))
        all_goals go_wp2_with fail
        all_goals go_roundw
        all_goals first
         | (simp [intOf]; omega)
         | exact ⟨i + 1, by omega, by go_num, by rw [Hst.out, if_neg (by decide)]; exact HQ.out.1.below hb0q, HQ.out.2.1, HQ.out.2.2.1.trans (hb0q.mono hzq)⟩
       ·have hone := HQ.out.1
        go_wp2_with fail
        go_region_law? (go_simp; go_at_call 55; refine (Hp.out.2.2.2.2.1 _ K _ Hp.out.2.1 Hp.out.2.2.1 HQ.out.2.2.2.2.2.2.2.2.1 (HQ.out.2.2.2.2.2.2.1.below hdr) (HQ.out.2.2.2.2.2.2.2.1.below hdr) ((HQ.out.2.2.2.1.any).below hdr)).mono ?_; rintro e' wz ⟨vq, rfl, hFq, hbq⟩; obtain ⟨aq, cq, rfl, hqm⟩ := hFq.v1.form; rw [show (doorsOf locks K).length = ndoors locks K from rfl]; have hb0q : Below wr.heap.size wr wz := hdr.trans (hbq.mono (Nat.le_refl _)); have hc1z := cell_keep hc1 (hb0q.block _ hlt1); obtain ⟨vs, hown, hrv⟩ := hone.below hb0q; have hzz := hb0q.size; have Hrv := Lib.hid (And.intro hrv hb0q); clear hrv hb0q hone hc1 hbq hFq; (try dsimp only))
        all_goals go_wp2_with (at_builtin; refine wp_app1 _ rfl _ _ 24 rfl 0 44 (.slice none 0 0) 24 Tryz.underlying24 inf_ints rfl _ _ _ rfl hown (.slice a1 K.length c1) _ rfl rfl (by omega) (by omega) (by omega) ?_; intro v1 w1 hown1 hgrow1 hblk1 hB1)
        all_goals go_roundw
        all_goals first
         | (simp [intOf]; omega)
         | exact ⟨i + 1, by omega, by go_num, by rw [Hst.out, if_pos trivial]; exact OV.push2 hown Hrv.out.1 ((HQ.out.2.2.2.1.below Hrv.out.2).mono (fun b hb _ => ⟨Nat.zero_le _, fun e => by have h1 := HQ.out.2.1 b e; have hb : b < w3.heap.size := hb; omega⟩) (fun _ _ _ => rfl)) hown1 hgrow1 hblk1, fun g hg => by rcases hblk1 with e | ⟨g', e, hge⟩; (· exact HQ.out.2.1 g (e.symm.trans hg)); (· rw [hg] at e; cases e; omega), (HQ.out.2.2.1.trans (Hrv.out.2.mono hzq)).grown hgrow1 (by omega) (fun g hg => HQ.out.2.1 g hg)⟩
      ·have hOe2 := (hend hgo).symm
       have HE := Lib.hid (And.intro hO (And.intro hob (And.intro hbq hOe2))); clear hO hob hbq hOe2 hend hOe
       by_cases hi : i < L.length
       ·have hid : decide ((i : Int) < (L.length : Int)) = true := decide_eq_true (by omega)
        have hod : decide ((O.length : Int) < (M : Int)) = false := decide_eq_false (by omega)
        go_wp2_with fail
        go_roundw
        case rel => exact ⟨p - 1, by omega, by first | go_num | (congr 1; omega), by rw [HA.out.1, HE.out.2.2.2]; exact HE.out.1, HE.out.2.1, HE.out.2.2.1⟩
        case measure => simp [intOf]; omega
       ·have hid : decide ((i : Int) < (L.length : Int)) = false := decide_eq_false (by omega)
        go_wp2_with fail
        go_roundw
        case rel => exact ⟨p - 1, by omega, by first | go_num | (congr 1; omega), by rw [HA.out.1, HE.out.2.2.2]; exact HE.out.1, HE.out.2.1, HE.out.2.2.1⟩
        case measure => simp [intOf]; omega
    ·obtain rfl : p = 0 := by omega
     rw [Nat.sub_zero] at hO
     have HE := Lib.hid (And.intro hO hbr); clear hO hbr hob
     go_wp2_with fail
     go_ret2
     exact ⟨_, rfl, HE.out.1.v2.old, hB01.trans ((H4.out.2.2.2.1.trans (HE.out.2.mono H4.out.2.2.2.1.size)).mono (by omega))⟩
 ·have hfin : wghAns m t cuts most = ([], designC m t cuts) := by unfold wghAns; rw [if_pos hp]
  have e1 : (designC m t cuts != 0) = true := by simp [hp]
  have e0 : (designC m t cuts == 0) = false := by simp [hp]
  rw [hfin]
  have Hp := Lib.hid (And.intro hp hfin); clear hp hfin
  generalize designC m t cuts = pc at *
  go_enter Tryz.func9, Tryz.ntmps9
  go_wp2_with fail
  rw [← hW1]
  refine hcode.mono ?_
  rintro e' w2 ⟨rfl, hb2⟩
  have hx2 : ∀ o, w2.cell? ⟨W.heap.size, o, none⟩ = (#[.int .i64 m.c, .int .i64 m.d, .int .i64 m.s, .int .i64 m.e, .int .i64 m.l, .slice a t.length c] : Array Value)[o]? := fun o => by rw [(bcell hb2).1 _ _ hz01, hc01]
  have hz2 : W.heap.size < w2.heap.size := by have := hb2.size; omega
  clear hh01
  clear hx2 hc01
  go_wp2_with fail
  go_ret2
  exact ⟨_, rfl, (F2.nil0 (B := 0)).v2.old, hB01.trans (hb2.mono (by omega))⟩
end Go.Proofs.YtmjplkbmhdkggaaGreat
