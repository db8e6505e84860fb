/- slices.Clone over rows, and the reference's own one with a row more. No conditions. -/
import Derived.Test.YtmjplkbmhdkggaaGreatMTable
import Derived.Test.YtmjplkbmhdkggaaGreatMEach5
import Derived.Test.YtmjplkbmhdkggaaGreatMFalse
import Derived.Test.YtmjplkbmhdkggaaGreatMDraw2
import Derived.Test.YtmjplkbmhdkggaaGreatMStops
namespace Go.Proofs.YtmjplkbmhdkggaaGreat
open Go.RowKit
set_option linter.unusedVariables false
set_option linter.unusedSimpArgs false
theorem rows_of {S : Nat → Prop} {w : World} {a : Option Addr} {n c : Nat} {ls : List (List Int)} (h : V2 S w (.slice a n c) ls) (hn : ls ≠ []) : ∃ b off vs, a = some ⟨b, off, none⟩ ∧ RowVs S w vs ls ∧ ∀ j u, vs[j]? = some u → w.cell? ((⟨b, off, none⟩ : Addr).add j) = some u := by
 have h2 := h
 obtain ⟨a', c', e, hm⟩ := h.form
 simp only [Value.slice.injEq] at e
 obtain ⟨rfl, rfl, rfl⟩ := e
 obtain ⟨b, off, a0, c0, rfl, _, _, _⟩ := h2.cell (k := 0) (List.length_pos_iff.2 hn)
 refine ⟨b, off, (List.range ls.length).map fun j => (w.cell? ⟨b, off + j, none⟩).getD undef, rfl, ⟨by simp, fun k hk => ?_⟩, fun j u hj => ?_⟩
 ·obtain ⟨b1, off1, a1, c1, e, _, hc, hr⟩ := h2.cell hk
  simp only [Option.some.injEq, Addr.mk.injEq, and_true] at e
  obtain ⟨rfl, rfl⟩ := e
  refine ⟨_, by rw [List.getElem?_map, List.getElem?_range hk]; rfl, ?_⟩
  show V1 S w ((w.cell? ⟨b, off + k, none⟩).getD undef) _
  rw [hc]; exact hr
 ·have hjl : j < ls.length := by
   have := (List.getElem?_eq_some_iff.1 hj).1
   simpa using this
  obtain ⟨b1, off1, a1, c1, e, _, hc, hr⟩ := h2.cell hjl
  simp only [Option.some.injEq, Addr.mk.injEq, and_true] at e
  obtain ⟨rfl, rfl⟩ := e
  rw [List.getElem?_map, List.getElem?_range hjl] at hj
  have hadd : (⟨b, off, none⟩ : Addr).add j = ⟨b, off + j, none⟩ := by unfold Addr.add; split <;> simp_all
  rw [hadd]
  simp only [Option.map_some, hc, Option.getD_some] at hj
  rw [hc, hj]
theorem RowVs.ones {S : Nat → Prop} {w : World} {vs : List Value} {ls : List (List Int)} (h : RowVs S w vs ls) : ∀ u ∈ vs, u.oneCell' = true := by
 intro u hu
 obtain ⟨k, hk, e⟩ := List.getElem_of_mem hu
 obtain ⟨ev, h1, h2⟩ := h.2 k (by rw [← h.1]; exact hk)
 obtain ⟨a, c, rfl, _⟩ := h2.form
 rw [List.getElem?_eq_getElem hk, e] at h1
 cases h1
 rfl
def WithR (W : World) (S S' : Nat → Prop) (ls : List (List Int)) (e' : Ending) (w' : World) : Prop :=
 ∃ v' vs, e' = .returned v' ∧ w'.ownsRow W.heap.size 44 1 v' ls.length vs ∧ RowVs (fun b => S b ∨ S' b) w' vs ls ∧ Below W.heap.size W w'
set_option maxRecDepth 100000 in
theorem l16With_any {S S' : Nat → Prop} (v kv : Value) (ls : List (List Int)) (k : List Int) (W : World) (h : V2 S W v ls) (hp : ls = [] → PV v) (hk : V1 S' W kv k) (hlen : ls.length ≤ 1000000) :
  Calls Tryz.prog 154 #[v, kv] W (WithR W S S' (ls ++ [k])) := by
 obtain ⟨i0, hi, hz0, hz1, hz2⟩ := info_parts inf_ints
 have hV := h
 have hK := hk
 obtain ⟨a, c, rfl, hm⟩ := h.form
 obtain ⟨ka, kc, rfl, hkm⟩ := hk.form
 have hbb : Below W.heap.size W (W.alloc (.cells #[] 44)) := (Below.refl _ _).alloc (Nat.le_refl _) _
 have hzA := hbb.size
 have hown0 := own_lit0 W W.heap.size 44 1 (Nat.le_refl _)
 have fin : ∀ (w2 : World) (vs : List Value) (v' : Value) (w' : World), RowVs S W vs ls → Below W.heap.size W w' → w'.ownsRow W.heap.size 44 1 v' (ls.length + 1) (vs ++ [.slice ka k.length kc]) → WithR W S S' (ls ++ [k]) (.returned v') w' := fun w2 vs v' w' h1 h2 h3 =>
  ⟨v', _, rfl, by simpa using h3, (RowVs.snoc (h := (show RowVs (fun b => S b ∨ S' b) w' vs ls from ⟨h1.1, fun j hj => by obtain ⟨ev, g1, g2⟩ := h1.2 j hj; exact ⟨ev, g1, (g2.below h2).mono (fun b hb _ => .inl hb) (fun _ _ _ => rfl)⟩⟩)) ((hK.below h2).mono (fun b hb _ => .inr hb) (fun _ _ _ => rfl))), h2⟩
 have Fin := Lib.hid fin; clear fin hk h
 by_cases hn : ls = []
 ·subst hn
  rcases hp rfl with e | ⟨b, off, n, c', e⟩
  ·simp only [List.length_nil, Value.slice.injEq] at e
   obtain ⟨rfl, _, rfl⟩ := e
   go_enter Tryz.func154, Tryz.ntmps154
   go_wp2_with (first | (at_builtin; refine wpList_append_own_none rfl _ _ 24 rfl W.heap.size 44 i0 1 Tryz.underlying24 hi _ _ _ rfl hown0 rfl ?_) | ((at_builtin; refine wp_app1h (W.alloc (.cells #[] 44)) (W.heap.size + 1) (by simp) rfl _ _ 24 rfl W.heap.size 44 (.slice none 0 0) 24 Tryz.underlying24 inf_ints rfl (.slice (some ⟨W.heap.size, 0, none⟩) 0 0) 0 [] rfl hown0 (.slice ka k.length kc) _ rfl rfl (by omega) (by omega) (by first | (simp; done) | (simp; omega)) ?_; intro v1 w1 hown1 hgrow1 hblk1 hB1)))
   go_ret
   exact Fin.out w1 [] _ _ RowVs.nil (hbb.trans (hB1.mono (by simp))) hown1
  ·simp only [List.length_nil, Value.slice.injEq] at e
   obtain ⟨rfl, rfl, rfl⟩ := e
   go_enter Tryz.func154, Tryz.ntmps154
   go_wp2_with (first | (at_builtin; refine wp_app rfl _ _ 24 rfl W.heap.size 44 (.slice none 0 0) 1 24 Tryz.underlying24 inf_ints rfl (by omega) _ _ _ rfl hown0 _ _ _ [] rfl rfl (fun j u hj => by simp at hj) (by simp) (by unfold maxLen; omega) (by omega) (by simp) ?_; intro v2 w2 hown2 hgrow2 hblk2; have hB2 := hbb.grown hgrow2 (by simp) (fun k hk => by have := hown0.lt k hk; exact this.1); have hz2' := hB2.size) | (at_builtin; refine wp_app1 _ rfl _ _ 24 rfl W.heap.size 44 (.slice none 0 0) 24 Tryz.underlying24 inf_ints rfl _ _ _ rfl hown2 (.slice ka k.length kc) _ rfl rfl (by omega) (by omega) (by omega) ?_; intro v1 w1 hown1 hgrow1 hblk1 hB1))
   go_ret
   exact Fin.out w1 [] _ _ RowVs.nil (hB2.trans (hB1.mono (by omega))) hown1
 ·obtain ⟨b, off, vs, rfl, hvs, hnews0⟩ := rows_of hV hn
  have hnews : ∀ j u, vs[j]? = some u → (W.alloc (.cells #[] 44)).cell? ((⟨b, off, none⟩ : Addr).add j) = some u := fun j u hj => (by rw [World.cell?_alloc_some _ _ _ (by rw [hnews0 j u hj]; rfl)]; exact hnews0 j u hj)
  have hvl := hvs.1
  have Hnews := Lib.hid (And.intro hnews hvs); clear hnews hvs hnews0
  have Hn := Lib.hid hn; clear hn hp hV
  go_enter Tryz.func154, Tryz.ntmps154
  go_wp2_with (first | (at_builtin; refine wp_app rfl _ _ 24 rfl W.heap.size 44 (.slice none 0 0) 1 24 Tryz.underlying24 inf_ints rfl (by omega) _ _ _ rfl hown0 _ _ _ vs rfl (by omega) Hnews.out.1 Hnews.out.2.ones (by unfold maxLen; omega) (by omega) (by simp) ?_; intro v2 w2 hown2' hgrow2 hblk2; have hB2 := hbb.grown hgrow2 (by simp) (fun k hk => by have := hown0.lt k hk; exact this.1); have hz2' := hB2.size; have hown2 : w2.ownsRow W.heap.size 44 1 v2 ls.length vs := by simpa using hown2') | (at_builtin; refine wp_app1 _ rfl _ _ 24 rfl W.heap.size 44 (.slice none 0 0) 24 Tryz.underlying24 inf_ints rfl _ _ _ rfl hown2 (.slice ka k.length kc) _ rfl rfl (by omega) (by omega) (by omega) ?_; intro v1 w1 hown1 hgrow1 hblk1 hB1))
  go_ret
  exact Fin.out w1 vs _ _ Hnews.out.2 (hB2.trans (hB1.mono (by omega))) hown1
theorem Out2.only {B SB : Nat} {w w' : World} {v : Value} {ls : List (List Int)} (h : Out2 B w v ls) (hc : Only SB w w') (hs : SB < B) : Out2 B w' v ls := by
 obtain ⟨vs, bk, h1, h2, h3⟩ := h
 refine ⟨vs, bk, own_only h1 hc hs, fun k hk => ?_, h3⟩
 obtain ⟨rv, h4, h5⟩ := h2 k hk
 exact ⟨rv, h4, h5.keep fun hn => hc.block _ (h5.lt hn) (fun e => by have := (h3 k hk hn).1; omega)⟩
/-- One row more, made since w (of which the list's own blocks have not turned). -/
theorem Out2.pushO {B : Nat} {w w2 w1 : World} {v v1 rv : Value} {ls : List (List Int)} {l : List Int} {b : Nat} {vs : List Value}
  (h : Out2 B w v ls) (hB : B ≤ w.heap.size) (hz : w.heap.size ≤ w2.heap.size) (hk : ∀ b, B ≤ b → b < w.heap.size → w2.heap[b]? = w.heap[b]?) (hx : X1 w2 rv l b) (hbn : l ≠ [] → w.heap.size ≤ b)
  (hown0 : w.ownsRow B 44 1 v ls.length vs) (hown : w1.ownsRow B 44 1 v1 (ls.length + 1) (vs ++ [rv])) (hg : w2.grownBy w1 v.ownBlock) (hblk : v1.ownBlock = v.ownBlock ∨ ∃ g, v1.ownBlock = some g ∧ w2.heap.size ≤ g) : Out2 B w1 v1 (ls ++ [l]) := by
 obtain ⟨vs', bk, h1, h2, h3⟩ := h
 have hvs : vs' = vs := by
  have e1 := h1.1
  have e2 := hown0.1
  rcases h1.2 with ⟨rfl, h0⟩ | ⟨g, cap, cur, rfl, _, hh, _, _, _, ht⟩
  ·rw [List.eq_nil_of_length_eq_zero (show vs'.length = 0 by omega), List.eq_nil_of_length_eq_zero (show vs.length = 0 by omega)]
  ·rcases hown0.2 with ⟨e, _⟩ | ⟨g', cap', cur', e, _, hh', _, _, _, ht'⟩
   ·cases e
   ·simp only [Value.slice.injEq, Option.some.injEq, Addr.mk.injEq, and_true, true_and] at e
    obtain ⟨rfl, _⟩ := e
    rw [hh] at hh'
    simp only [Option.some.injEq, Obj.cells.injEq, and_true] at hh'
    rw [← ht, ← ht', hh']
 subst hvs
 have hvl : ∀ g, v.ownBlock = some g → g < w.heap.size := fun g hgg => (h1.lt g hgg).2
 have hxl : ∀ k, k < ls.length → getl ls k ≠ [] → bk k < w.heap.size := fun k hk hn => by
  obtain ⟨rv, _, h⟩ := h2 k hk; exact h.lt hn
 have hne1 : ∀ c, c < w2.heap.size → v.ownBlock ≠ some c → v1.ownBlock ≠ some c := fun c hc hn e => by
  rcases hblk with e1 | ⟨g, e1, hge⟩
  ·exact hn (e1.symm.trans e)
  ·rw [e] at e1; cases e1; omega
 have hvl1 := h1.1
 refine ⟨vs' ++ [rv], fun k => if k < ls.length then bk k else b, by simpa using hown, fun k hk' => ?_, fun k hk' hn => ?_⟩
 ·by_cases hkl : k < ls.length
  ·obtain ⟨rv', h4, h5⟩ := h2 k hkl
   refine ⟨rv', by rw [List.getElem?_append_left (by omega)]; exact h4, ?_⟩
   rw [getl_app1 hkl]
   simp only [hkl, if_true]
   exact h5.keep fun hn => by
    rw [hg.block _ (Nat.lt_of_lt_of_le (hxl k hkl hn) hz) (fun e => (h3 k hkl hn).2.1 e.symm), hk _ (h3 k hkl hn).1 (hxl k hkl hn)]
  ·have e : k = ls.length := by simp at hk'; omega
   subst e
   refine ⟨rv, by rw [List.getElem?_append_right (by omega)]; simp [show ls.length - vs'.length = 0 by omega], ?_⟩
   rw [getl_app2]
   simp only [Nat.lt_irrefl, if_false]
   exact hx.keep fun hn => hg.block _ (hx.lt hn) (fun e => by have := hvl b e.symm; have := hbn hn; omega)
 ·by_cases hkl : k < ls.length
  ·rw [getl_app1 hkl] at hn
   simp only [hkl, if_true]
   obtain ⟨h4, h5, h6⟩ := h3 k hkl hn
   refine ⟨h4, hne1 _ (Nat.lt_of_lt_of_le (hxl k hkl hn) hz) h5, fun j hj hjk hnj => ?_⟩
   by_cases hjl : j < ls.length
   ·rw [getl_app1 hjl] at hnj
    simp only [hjl, if_true]
    exact h6 j hjl hjk hnj
   ·have e : j = ls.length := by simp at hj; omega
    subst e
    rw [getl_app2] at hnj
    simp only [Nat.lt_irrefl, if_false]
    have := hbn hnj; have := hxl k hkl hn; omega
  ·have e : k = ls.length := by simp at hk'; omega
   subst e
   rw [getl_app2] at hn
   simp only [Nat.lt_irrefl, if_false]
   refine ⟨by have := hbn hn; omega, hne1 _ (hx.lt hn) (fun e => by have := hvl b e; have := hbn hn; omega), fun j hj hjk hnj => ?_⟩
   have hjl : j < ls.length := by simp at hj; omega
   rw [getl_app1 hjl] at hnj
   simp only [hjl, if_true]
   have := hbn hn; have := hxl j hjl hnj; omega
theorem geti_setD {l : List Int} {k j : Nat} {x : Int} (h : j < l.length) : geti (l.set k x) j = if k = j then x else geti l j := by
 rw [geti_eq (by simpa using h), List.getElem_set, geti_eq h]
theorem getl_set {l : List (List Int)} {k j : Nat} {x : List Int} (h : j < l.length) : getl (l.set k x) j = if k = j then x else getl l j := by
 rw [getl_eq (by simpa using h), List.getElem_set, getl_eq h]
def setT (ls : List (List Int)) (i k : Nat) (x : Int) : List (List Int) := ls.set i ((getl ls i).set k x)
theorem setT_len (ls : List (List Int)) (i k : Nat) (x : Int) : (setT ls i k x).length = ls.length := by simp [setT]
theorem setT_row {ls : List (List Int)} {i k j : Nat} {x : Int} (h : j < ls.length) : (getl (setT ls i k x) j).length = (getl ls j).length := by
 unfold setT
 rw [getl_set h]
 split
 ·rename_i e; subst e; simp
 ·rfl
/-- A cell of a table in memory of its own may be written. -/
theorem F2.put {B : Nat} {w : World} {a : Option Addr} {n c i k : Nat} {ls : List (List Int)} (h : F2 B w (.slice a n c) ls) (hi : i < ls.length) (hk : k < (getl ls i).length) :
  ∃ ob off b o2 rc u, a = some ⟨ob, off, none⟩ ∧ w.cell? ⟨ob, off + i, none⟩ = some (.slice (some ⟨b, o2, none⟩) (getl ls i).length rc) ∧ B ≤ b ∧ w.cell? ⟨b, o2 + k, none⟩ = some u ∧ w.frozen? ⟨b, o2 + k, none⟩ = false ∧
    ∀ x, F2 B (w.setCell ⟨b, o2 + k, none⟩ (.int .i64 x)) (.slice a n c) (setT ls i k x) := by
 obtain ⟨ob, bk, ⟨a', c', e, h1, h2, h3, h4⟩, h5, h6⟩ := h
 simp only [Value.slice.injEq] at e
 obtain ⟨rfl, rfl, rfl⟩ := e
 have hn : ls ≠ [] := by intro e; subst e; simp at hi
 have hni : getl ls i ≠ [] := by intro e; rw [e] at hk; simp at hk
 obtain ⟨off, cs, e, rfl, hh, hrows⟩ := h3 hn
 obtain ⟨rv, hc1, a1, c1, rfl, g1, g2, g3⟩ := hrows i hi
 obtain ⟨o2, cs2, e2, rfl, hh2, hcells⟩ := g3 hni
 have hd := h4 i hi hni
 have hob : ob ≠ bk i := fun e => hd.1 e.symm
 refine ⟨ob, off, bk i, o2, c1, _, rfl, by rw [cell_of_block hh]; exact hc1, h6 i hi hni, by rw [cell_of_block hh2]; exact hcells k hk, frozen_of_block hh2 _, fun x => ?_⟩
 have hset : (w.setCell ⟨bk i, o2 + k, none⟩ (.int .i64 x)).heap[bk i]? = some (.cells (cs2.setIfInBounds (o2 + k) (.int .i64 x)) e2 (0, 0)) := by rw [heap_setCell_self hh2]
 have hnn : ∀ j, j < ls.length → (getl (setT ls i k x) j ≠ [] ↔ getl ls j ≠ []) := fun j hj => by
  have := setT_row (i := i) (k := k) (x := x) hj
  rw [← List.length_pos_iff, ← List.length_pos_iff, this]
 refine ⟨ob, bk, ⟨_, c, by rw [setT_len], by rw [setT_len]; exact h1, h2, fun _ => ⟨off, cs, e, rfl, (heap_setCell_other _ hob).trans hh, fun j hj => ?_⟩, fun j hj hjn => ?_⟩, fun _ => h5 hn, fun j hj hjn => ?_⟩
 ·rw [setT_len] at hj
  obtain ⟨rv, g4, g5⟩ := hrows j hj
  refine ⟨rv, g4, ?_⟩
  by_cases hij : i = j
  ·subst hij
   rw [hc1] at g4
   injection g4 with g4
   subst g4
   have hlen : (getl (setT ls i k x) i).length = (getl ls i).length := setT_row hj
   refine ⟨_, c1, by rw [hlen], by rw [hlen]; exact g1, g2, fun _ => ⟨o2, _, e2, rfl, hset, fun q hq => ?_⟩⟩
   rw [hlen] at hq
   have hrow : getl (setT ls i k x) i = (getl ls i).set k x := by unfold setT; rw [getl_set hj, if_pos rfl]
   have hcq := hcells q hq
   have hqs : o2 + q < cs2.size := (Array.getElem?_eq_some_iff.1 hcq).1
   rw [hrow, geti_setD hq, Array.getElem?_setIfInBounds]
   by_cases hkq : k = q
   ·subst hkq
    simp [hqs]
   ·rw [if_neg (by omega), if_neg hkq]
    exact hcq
  ·have hrow : getl (setT ls i k x) j = getl ls j := by unfold setT; rw [getl_set hj, if_neg hij]
   rw [hrow]
   exact g5.keep fun hn' => heap_setCell_other _ (fun e => (hd.2 j hj (fun e2 => hij e2.symm) hn') e)
 ·rw [setT_len] at hj
  obtain ⟨g4, g5⟩ := h4 j hj ((hnn j hj).1 hjn)
  exact ⟨g4, fun q hq hqj hqn => by rw [setT_len] at hq; exact g5 q hq hqj ((hnn q hq).1 hqn)⟩
 ·rw [setT_len] at hj
  exact h6 j hj ((hnn j hj).1 hjn)
/-- All rows of a table have so many columns. -/
def Shape (T : List (List Int)) (C : Nat) : Prop := ∀ j, j < T.length → (getl T j).length = C
theorem Shape.set {T : List (List Int)} {C i k : Nat} {x : Int} (h : Shape T C) : Shape (setT T i k x) C := fun j hj => by
 rw [setT_len] at hj
 rw [setT_row hj]
 exact h j hj
theorem Shape.snoc {T : List (List Int)} {C : Nat} {l : List Int} (h : Shape T C) (hl : l.length = C) : Shape (T ++ [l]) C := fun j hj => by
 by_cases hjl : j < T.length
 ·rw [getl_app1 hjl]; exact h j hjl
 ·have e : j = T.length := by simp at hj; omega
  subst e
  rw [getl_app2]; exact hl
/-- And of 0 and 1 only. -/
def ShapeB (T : List (List Int)) (C : Nat) : Prop := Shape T C ∧ ∀ j, j < T.length → ∀ x ∈ getl T j, 0 ≤ x ∧ x ≤ 1
theorem ShapeB.set1 {T : List (List Int)} {C i k : Nat} (h : ShapeB T C) : ShapeB (setT T i k 1) C := by
 refine ⟨h.1.set, fun j hj x hx => ?_⟩
 rw [setT_len] at hj
 unfold setT at hx
 rw [getl_set hj] at hx
 split at hx
 ·rename_i e
  subst e
  rcases List.mem_or_eq_of_mem_set hx with h1 | h1
  ·exact h.2 i hj x h1
  ·omega
 ·exact h.2 j hj x hx
theorem ShapeB.snoc {T : List (List Int)} {C : Nat} {l : List Int} (h : ShapeB T C) (hl : l.length = C) (hb : ∀ x ∈ l, 0 ≤ x ∧ x ≤ 1) : ShapeB (T ++ [l]) C := by
 refine ⟨h.1.snoc hl, fun j hj x hx => ?_⟩
 by_cases hjl : j < T.length
 ·rw [getl_app1 hjl] at hx; exact h.2 j hjl x hx
 ·have e : j = T.length := by simp at hj; omega
  subst e
  rw [getl_app2] at hx; exact hb x hx
/-- A system in its block is the answer. -/
def putS (w : World) (RB : Nat) (v0 v1 v2 v3 v4 v5 : Value) : World := (putR w RB v0 v1 v2 v3 v4).setCell ⟨RB, 5, none⟩ v5
theorem putS_facts {B0 SB RB : Nat} {W w : World} {c0 c1 c2 c3 c4 c5 : Value} (hs : Src B0 SB w) (ho : Only SB W w) (h : w.heap[RB]? = some (.cells #[c0, c1, c2, c3, c4, c5] 33 (0, 0))) (n1 : RB ≠ SB) (n2 : W.heap.size ≤ RB) (n3 : B0 ≤ RB) (v0 v1 v2 v3 v4 v5 : Value) :
  Src B0 SB (putS w RB v0 v1 v2 v3 v4 v5) ∧ Only SB W (putS w RB v0 v1 v2 v3 v4 v5) ∧ (putS w RB v0 v1 v2 v3 v4 v5).heap[RB]? = some (.cells #[v0, v1, v2, v3, v4, v5] 33 (0, 0)) ∧ ∀ b, b ≠ RB → (putS w RB v0 v1 v2 v3 v4 v5).heap[b]? = w.heap[b]? := by
 refine ⟨(((((hs.only n1 n3 v0 rfl).only n1 n3 v1 rfl).only n1 n3 v2 rfl).only n1 n3 v3 rfl).only n1 n3 v4 rfl).only n1 n3 v5 rfl, (((((ho.setNew n2 v0).setNew n2 v1).setNew n2 v2).setNew n2 v3).setNew n2 v4).setNew n2 v5, ?_, fun b hb => ?_⟩
 ·unfold putS putR
  rw [heap_setCell_self (heap_setCell_self (heap_setCell_self (heap_setCell_self (heap_setCell_self (heap_setCell_self h _) _) _) _) _) _]
  simp
 ·unfold putS putR
  (repeat rw [heap_setCell_other _ hb])
theorem F2.keepb {B : Nat} {w w' : World} {v : Value} {ls : List (List Int)} (h : F2 B w v ls) (hk : ∀ b, B ≤ b → b < w.heap.size → w'.heap[b]? = w.heap[b]?) : F2 B w' v ls := by
 obtain ⟨ob, bk, h1, h2, h3⟩ := h
 exact ⟨ob, bk, h1.keep (fun hn => hk _ (h2 hn) (h1.lt hn).1) (fun k hlt hn => hk _ (h3 k hlt hn) ((h1.lt (by intro e; subst e; simp at hlt)).2 k hlt hn)), h2, h3⟩
set_option maxRecDepth 100000 in
set_option maxHeartbeats 4000000 in
theorem l15Valid_any (B0 SB : Nat) (W : World) (h : Src B0 SB W) :
  Calls Tryz.prog 127 #[.pointer (some ⟨SB, 0, none⟩)] W fun e w' => ∃ (m : Mk) (u : Value) (T : List (List Int)) (C : Nat), e = .returned (.agg #[.int .i64 m.c, .int .i64 m.d, .int .i64 m.s, .int .i64 m.e, .int .i64 m.l, u]) ∧ (m.ok = true ∧ m.c ≤ 4 ∧ m.d ≤ 4) ∧ (F2 W.heap.size w' u T ∧ (1 ≤ T.length ∧ T.length ≤ 4) ∧ (1 ≤ C ∧ C ≤ 4) ∧ ShapeB T C) ∧ Src B0 SB w' ∧ Only SB W w' := by
 have hSl := h.lt
 have hB0 : B0 ≤ SB := h.1
 obtain ⟨W1, hW1, hB01, hz01, HZ01, _, hh01⟩ := box_facts W #[.int .i64 0, .int .i64 0, .int .i64 0, .int .i64 0, .int .i64 0, .slice none 0 0] 33
 have hs1' := h.below hB01
 have HL := Lib.hid (And.intro hs1' (And.intro hB01 (And.intro hh01 hW1))); clear hs1' h hh01 hB01
 go_enter Tryz.func127, Tryz.ntmps127
 go_wp2_with fail
 rw [← hW1]
 clear hW1
 refine (l02Valid_any B0 SB _ HL.out.1).mono ?_
 rintro e' w2 ⟨m, rfl, hmk, hs2, ho2⟩
 have hz2 := ho2.size
 obtain ⟨w3, hw3⟩ : ∃ w3, w3 = w2.alloc (.cells #[.int .i64 m.c, .int .i64 m.d, .int .i64 m.s, .int .i64 m.e, .int .i64 m.l] 31) := ⟨_, rfl⟩
 have hb23 : Below w2.heap.size w2 w3 := by rw [hw3]; exact (Below.refl _ _).alloc (Nat.le_refl _) _
 have hM3 : w3.heap[w2.heap.size]? = some (.cells #[.int .i64 m.c, .int .i64 m.d, .int .i64 m.s, .int .i64 m.e, .int .i64 m.l] 31 (0, 0)) := by rw [hw3]; exact heap_alloc_self _ _
 have hR3 : w3.heap[W.heap.size]? = some (.cells #[.int .i64 0, .int .i64 0, .int .i64 0, .int .i64 0, .int .i64 0, .slice none 0 0] 33 (0, 0)) := (hb23.block _ (by omega)).trans (ho2.heap HL.out.2.2.1 (fun e => by omega))
 have ho3 : Only SB W w3 := ((Only.of_below HL.out.2.1).trans ho2).then_below hb23
 have H3 := Lib.hid (And.intro (hs2.below hb23) (And.intro ho3 (And.intro hM3 (And.intro hR3 (And.intro hmk hw3))))); clear hs2 ho2 hb23 hM3 hR3 ho3 hmk hw3
 have hz3 : w2.heap.size < w3.heap.size := lt_of_heap H3.out.2.2.1
 go_wp2_with fail
 rw [← H3.out.2.2.2.2.2]
 refine (l01Next_any B0 SB 4 _ H3.out.1).mono ?_
 rintro e' w4 ⟨x1, rfl, ⟨hx10, hx11⟩, hs4, ho4⟩
 have H4 := Lib.hid (And.intro hs4 (H3.out.2.1.trans ho4))
 have ho34 := Lib.hid ho4
 clear hs4 ho4
 go_wp2_with fail
 refine (l01Next_any B0 SB 4 _ H4.out.1).mono ?_
 rintro e' w5 ⟨x2, rfl, ⟨hx20, hx21⟩, hs5, ho5⟩
 obtain ⟨R, hR⟩ : ∃ R : Nat, (R : Int) = 1 + x1 := ⟨(1 + x1).toNat, by omega⟩
 obtain ⟨C, hC⟩ : ∃ C : Nat, (C : Int) = 1 + x2 := ⟨(1 + x2).toNat, by omega⟩
 have hR4 : 1 ≤ R ∧ R ≤ 4 := by omega
 have hC4 : 1 ≤ C ∧ C ≤ 4 := by omega
 have ho35 := ho34.out.trans ho5
 have hz5 := ho35.size
 have hM5 := ho35.heap H3.out.2.2.1 (fun e => by have := H3.out.1.1; omega)
 have hR5 := ho35.heap H3.out.2.2.2.1 (fun e => by omega)
 have hO0 := Out2.start w5 w5.heap.size (Nat.le_refl _)
 have hbL : Below w5.heap.size w5 (w5.alloc (.cells #[] 44)) := (Below.refl _ _).alloc (Nat.le_refl _) _
 have H5 := Lib.hid (And.intro (hs5.below hbL) (And.intro (H4.out.2.trans ho5) (And.intro hM5 (And.intro hR5 (And.intro hO0 (Only.of_below (SB := SB) hbL)))))); clear hs5 ho5 ho35 hM5 hR5 hO0 hbL ho34
 have hRC := Lib.hid (And.intro hR hC)
 go_wp2_with fail
 rw [← hR, ← hC]
 clear hR hC hx10 hx11 hx20 hx21
 go_loopw [6, 7, 8, 9] (fun tv i _ _ wr => ∃ (k : Nat) (T : List (List Int)), k ≤ R ∧ i = .int .i64 (k : Int) ∧ T.length = k ∧ ShapeB T C ∧ Out2 w5.heap.size wr tv T ∧ Src B0 SB wr ∧ Only SB w5 wr) (fun _ i _ _ _ => R - (intOf i).toNat)
 case atStart => exact ⟨0, [], Nat.zero_le _, rfl, rfl, ⟨fun j hj => by simp at hj, fun j hj => by simp at hj⟩, H5.out.2.2.2.2.1, H5.out.1, H5.out.2.2.2.2.2⟩
 case round =>
  obtain ⟨k, T, hkR, rfl, hTk, hsh, hO, hsr, hor⟩ := hrel
  have hzr := hor.size
  by_cases hkk : (k : Int) < (R : Int)
  ·have hd : decide (k < R) = true := decide_eq_true (by omega)
   obtain ⟨wo, rfl⟩ : ∃ x, x = wr := ⟨_, rfl⟩
   have hown0 := own_lit0 wo wo.heap.size 2 1 (Nat.le_refl _)
   have hbl : Below wo.heap.size wo (wo.alloc (.cells #[] 2)) := (Below.refl _ _).alloc (Nat.le_refl _) _
   have hsl := hsr.below hbl
   have HR := Lib.hid (And.intro hTk (And.intro hsh (And.intro hO (And.intro hor (And.intro hsl (And.intro hown0 (Only.of_below (SB := SB) hbl)))))));  clear hTk hsh hO hor hsl hown0 hbl hsr
   go_wp2_with fail
   go_loopw [8, 9] (fun rv j wr => ∃ (q : Nat) (l : List Int), q ≤ C ∧ j = .int .i64 (q : Int) ∧ (l.length = q ∧ ∀ x ∈ l, 0 ≤ x ∧ x ≤ 1) ∧ wr.ownsRow wo.heap.size 2 1 rv l.length (l.map (Value.int .i64)) ∧ Src B0 SB wr ∧ Only SB wo wr) (fun _ j _ => C - (intOf j).toNat)
   case atStart => exact ⟨0, [], Nat.zero_le _, rfl, ⟨rfl, fun x hx => by cases hx⟩, HR.out.2.2.2.2.2.1, HR.out.2.2.2.2.1, HR.out.2.2.2.2.2.2⟩
   case round =>
    obtain ⟨q, l, hqC, rfl, ⟨hlq, hlb⟩, hown, hsi, hoi⟩ := hrel
    have hzi := hoi.size
    have hSr : SB < wo.heap.size := by omega
    by_cases hqq : (q : Int) < (C : Int)
    ·have hd2 : decide (q < C) = true := decide_eq_true (by omega)
     obtain ⟨oa, oc, rfl, _, _⟩ := own_form hown
     have hL := lit_V1 wr 2 [0, 0, 1] (by simp)
     have hbi : Below wr.heap.size wr (wr.alloc (.cells #[.int .i64 0, .int .i64 0, .int .i64 1] 2)) := (Below.refl _ _).alloc (Nat.le_refl _) _
     obtain ⟨wa, hwa⟩ : ∃ wa, wa = wr.alloc (.cells #[.int .i64 0, .int .i64 0, .int .i64 1] 2) := ⟨_, rfl⟩
     have hL : V1 (fun b => b = wr.heap.size) wa (.slice (some ⟨wr.heap.size, 0, none⟩) 3 3) [0, 0, 1] := by rw [hwa]; exact hL
     rw [← hwa] at hbi
     have hsa := hsi.below hbi
     have hoa := hoi.then_below hbi
     have howna := own_keep hown hbi
     have hza := hbi.size
     have HI := Lib.hid (And.intro hL (And.intro hsa (And.intro hoa (And.intro howna (And.intro hwa (And.intro hlq hlb)))))); clear hL hsa hoa howna hwa hlq hlb hown hsi hoi hbi
     go_wp2_with fail
     rw [← HI.out.2.2.2.2.1]
     refine (l01Pick_any B0 SB _ [0, 0, 1] wa HI.out.2.1 HI.out.1 (fun b hb => by omega) (by simp)).mono ?_
     rintro e' wb ⟨y, rfl, hy, hsb, hob⟩
     have hownb := own_only HI.out.2.2.2.1 hob hSr
     have hzb := hob.size
     have hob2 := HI.out.2.2.1.trans hob
     have hl9 : l.length ≤ 1000 := by have := HI.out.2.2.2.2.2.1; omega
     have HB := Lib.hid (And.intro hsb hob2); clear hsb hob hob2
     go_wp2_with (at_builtin; refine wp_app1 _ rfl _ _ 44 rfl wo.heap.size 2 (.int .i64 0) 8 Tryz.underlying44 inf_int rfl _ _ _ rfl hownb (.int .i64 y) _ rfl rfl (by omega) (by omega) (by omega) ?_; intro v1 w1 hown1 hgrow1 hblk1 hB1)
     have hown4 := own_ints (v := .slice oa l.length oc) hown1
     have hg1 : Chg (fun i => wo.heap.size ≤ i) wb w1 := (Chg.refl _ _).grown hgrow1 (fun g hg => .inl (hownb.lt g hg).1)
     have hsr1 := HB.out.1.keep hg1 (fun b hb => ⟨by have := HB.out.1.1; omega, by omega⟩)
     have hoW1 : Only SB wo w1 := Chg.trans HB.out.2 (G := fun i => wo.heap.size ≤ i) hg1 (fun i hi => .inr hi)
     have H4 := Lib.hid (And.intro hsr1 (And.intro hoW1 hown4)); clear hsr1 hoW1 hown4 hg1 hgrow1 hblk1 hB1 hown1 hownb
     go_roundw
     case rel => exact ⟨q + 1, l ++ [y], by omega, by go_num, ⟨by have := HI.out.2.2.2.2.2.1; simp; omega, fun x hx => by
      rcases List.mem_append.1 hx with h1 | h1
      ·exact HI.out.2.2.2.2.2.2 x h1
      ·simp at h1 hy; omega⟩, H4.out.2.2, H4.out.1, H4.out.2.1⟩
     case measure => simp [intOf]; omega
    ·have hd2 : decide (q < C) = false := decide_eq_false (by omega)
     have hqC2 : l.length = C := by omega
     obtain ⟨oa, oc, rfl, _, _⟩ := own_form hown
     obtain ⟨rb, hrb, hrbn⟩ := own_F1 hown
     have hO2 := HR.out.2.2.1.only hoi (by omega)
     obtain ⟨vs, hvs⟩ := HR.out.2.2.1.own
     obtain ⟨ta, tc, rfl, _, _⟩ := HR.out.2.2.1.form
     have hvs2 := own_only hvs hoi (by omega)
     have hTl : T.length ≤ 1000 := by have := HR.out.1; omega
     have HI := Lib.hid (And.intro hsi (And.intro hoi (And.intro hrb (And.intro hrbn (And.intro hvs (And.intro hqC2 hlb)))))); clear hsi hoi hrb hrbn hvs hqC2 hlq hlb hown hO2
     go_wp2_with (at_builtin; refine wp_app1 _ rfl _ _ 24 rfl w5.heap.size 44 (.slice none 0 0) 24 Tryz.underlying24 inf_ints rfl _ _ _ rfl hvs2 (.slice oa l.length oc) _ rfl rfl (by omega) (by omega) (by omega) ?_; intro v1 w1 hown1 hgrow1 hblk1 hB1)
     have hP := Out2.pushO HR.out.2.2.1 hzr hzi (fun b h1 h2 => HI.out.2.1.block b h2 (fun e => by omega)) HI.out.2.2.1 HI.out.2.2.2.1 HI.out.2.2.2.2.1 hown1 hgrow1 hblk1
     have hg1 : Chg (fun i => w5.heap.size ≤ i) wr w1 := (Chg.refl _ _).grown hgrow1 (fun g hg => .inl (hvs2.lt g hg).1)
     have hsr1 := HI.out.1.keep hg1 (fun b hb => ⟨by have := HI.out.1.1; omega, by omega⟩)
     have hoW1 : Only SB w5 w1 := Chg.trans (HR.out.2.2.2.1.trans HI.out.2.1) (G := fun i => w5.heap.size ≤ i) hg1 (fun i hi => .inr hi)
     have H4 := Lib.hid (And.intro hsr1 (And.intro hoW1 hP)); clear hsr1 hoW1 hP hg1 hgrow1 hblk1 hB1 hown1 hvs2
     go_roundw
     case rel => exact ⟨k + 1, T ++ [l], by omega, by go_num, by have := HR.out.1; simp; omega, HR.out.2.1.snoc HI.out.2.2.2.2.2.1 HI.out.2.2.2.2.2.2, H4.out.2.2, H4.out.1, H4.out.2.1⟩
     case measure => simp [intOf]; omega
  ·have hd : decide (k < R) = false := decide_eq_false (by omega)
   obtain ⟨ta, tc, rfl, _, _⟩ := hO.form
   have hkR2 : T.length = R := by omega
   have HR := Lib.hid (And.intro hkR2 (And.intro hsh (And.intro hO.f2 (And.intro hsr hor)))); clear hkR2 hTk hsh hO hsr hor
   obtain ⟨wo, rfl⟩ : ∃ x, x = wr := ⟨_, rfl⟩
   go_wp2_with fail
   refine (l01Next_any B0 SB _ _ HR.out.2.2.2.1).mono ?_
   rintro e' w6 ⟨x3, rfl, ⟨hx30, hx31⟩, hs6, ho6⟩
   obtain ⟨mm, rfl⟩ : ∃ mm : Nat, x3 = (mm : Int) := ⟨x3.toNat, by omega⟩
   have hmm : mm < R := by omega
   have hF6 := HR.out.2.2.1.only ho6 (by omega)
   have ho56 := HR.out.2.2.2.2.trans ho6
   have HQ := Lib.hid (And.intro hs6 (And.intro hF6 ho56)); clear hs6 hF6 ho56 ho6 hx30 hx31
   go_wp2_with fail
   go_loopw [11] (fun i wr => ∃ (k : Nat) (T' : List (List Int)), k ≤ C ∧ i = .int .i64 (k : Int) ∧ T'.length = R ∧ ShapeB T' C ∧ F2 w5.heap.size wr (.slice ta T.length tc) T' ∧ Src B0 SB wr ∧ Only SB w5 wr) (fun i _ => C - (intOf i).toNat)
   case atStart => exact ⟨0, T, Nat.zero_le _, rfl, HR.out.1, HR.out.2.1, HQ.out.2.1, HQ.out.1, HQ.out.2.2⟩
   case round =>
    obtain ⟨k, T', hkC, rfl, hTR, hsh, hF, hsr, hor⟩ := hrel
    have hzr := hor.size
    by_cases hkk : (k : Int) < (C : Int)
    ·have hd2 : decide (k < C) = true := decide_eq_true (by omega)
     have HT := Lib.hid (And.intro hTR (And.intro hsh (And.intro hF (And.intro hsr hor)))); clear hTR hsh hF hsr hor
     go_wp2_with fail
     refine (l01Next_any B0 SB 3 _ HT.out.2.2.2.1).mono ?_
     rintro e' w7 ⟨y, rfl, ⟨hy0, hy1⟩, hs7, ho7⟩
     have hF7 := HT.out.2.2.1.only ho7 (by omega)
     have ho57 := HT.out.2.2.2.2.trans ho7
     have hz7 := ho57.size
     by_cases hyp : 0 < y
     ·have hyd : decide (0 < y) = true := decide_eq_true hyp
      obtain ⟨ob, off, b, o2, rc, u, rfl, hc1, hb5, hc2, hfz, hput⟩ := hF7.put (i := mm) (k := k) (by have := HT.out.1; omega) (by rw [HT.out.2.1.1 mm (by have := HT.out.1; omega)]; omega)
      have hrl := HT.out.2.1.1 mm (by have := HT.out.1; omega)
      rw [hrl] at hc1
      have hF8 := hput 1
      obtain ⟨w8, hw8⟩ : ∃ w8, w8 = w7.setCell ⟨b, o2 + k, none⟩ (.int .i64 1) := ⟨_, rfl⟩
      rw [← hw8] at hF8
      have hs8 : Src B0 SB w8 := hs7.only (b := b) (off := o2 + k) (by omega) (by omega) _ hw8
      have ho58 : Only SB w5 w8 := by rw [hw8]; exact ho57.setNew hb5 _
      have H8 := Lib.hid (And.intro hF8 (And.intro hs8 (And.intro ho58 hw8))); clear hF8 hs8 ho58 hw8 hput hF7 hs7 ho57 ho7 hrl
      have hnT : mm < T.length := by have := HR.out.1; omega
      go_wp2_with fail
      rw [← H8.out.2.2.2]
      refine (l01Next_any B0 SB _ _ H8.out.2.1).mono ?_
      rintro e' w9 ⟨z, rfl, ⟨hz0, hz1⟩, hs9, ho9⟩
      obtain ⟨rr, rfl⟩ : ∃ rr : Nat, z = (rr : Int) := ⟨z.toNat, by omega⟩
      have hrr : rr < R := by omega
      have hF9 := F2.only H8.out.1 ho9 (by omega)
      have ho59 := Only.trans H8.out.2.2.1 ho9
      have hz9 := ho59.size
      have hLN := ((setT_len _ mm k 1).trans HT.out.1)
      have hSH := HT.out.2.1.set1 (i := mm) (k := k)
      obtain ⟨ob2, off2, b2, p2, rc2, u2, e2, hd1, hb52, hd22, hfz2, hput2⟩ := hF9.put (i := rr) (k := k) (by omega) (by rw [hSH.1 rr (by omega)]; omega)
      have hrl2 := hSH.1 rr (by omega)
      rw [hrl2] at hd1
      have hFA := hput2 1
      obtain ⟨wA, hwA⟩ : ∃ wA, wA = w9.setCell ⟨b2, p2 + k, none⟩ (.int .i64 1) := ⟨_, rfl⟩
      rw [← hwA] at hFA
      have hsA : Src B0 SB wA := hs9.only (b := b2) (off := p2 + k) (by omega) (by omega) _ hwA
      have ho5A : Only SB w5 wA := by rw [hwA]; exact ho59.setNew hb52 _
      have hShA : ShapeB _ C := hSH.set1 (i := rr) (k := k)
      have HA9 := Lib.hid (And.intro hFA (And.intro hsA (And.intro ho5A (And.intro hwA (And.intro hShA (setT_len _ rr k 1 |>.trans hLN)))))); clear hFA hsA ho5A hwA hput2 hF9 hs9 ho59 ho9 hrl2 hShA hLN hSH
      have hnT2 : rr < T.length := by have := HR.out.1; omega
      first | (subst e2) | (simp only [Option.some.injEq, Addr.mk.injEq, and_true] at e2; obtain ⟨rfl, rfl⟩ := e2)
      go_wp2_with fail
      rw [← HA9.out.2.2.2.1]
      go_roundw
      case rel => exact ⟨k + 1, _, by omega, by go_num, HA9.out.2.2.2.2.2, HA9.out.2.2.2.2.1, HA9.out.1, HA9.out.2.1, HA9.out.2.2.1⟩
      case measure => simp [intOf]; omega
     ·have hyd : decide (0 < y) = false := decide_eq_false hyp
      have H8 := Lib.hid (And.intro hF7 (And.intro hs7 ho57)); clear hF7 hs7 ho57 ho7
      go_wp2_with fail
      refine (l01Next_any B0 SB _ _ H8.out.2.1).mono ?_
      rintro e' w9 ⟨z, rfl, ⟨hz0, hz1⟩, hs9, ho9⟩
      obtain ⟨rr, rfl⟩ : ∃ rr : Nat, z = (rr : Int) := ⟨z.toNat, by omega⟩
      have hrr : rr < R := by omega
      have hF9 := F2.only H8.out.1 ho9 (by omega)
      have ho59 := Only.trans H8.out.2.2 ho9
      have hz9 := ho59.size
      have hLN := HT.out.1
      have hSH := HT.out.2.1
      obtain ⟨ob2, off2, b2, p2, rc2, u2, e2, hd1, hb52, hd22, hfz2, hput2⟩ := hF9.put (i := rr) (k := k) (by omega) (by rw [hSH.1 rr (by omega)]; omega)
      have hrl2 := hSH.1 rr (by omega)
      rw [hrl2] at hd1
      have hFA := hput2 1
      obtain ⟨wA, hwA⟩ : ∃ wA, wA = w9.setCell ⟨b2, p2 + k, none⟩ (.int .i64 1) := ⟨_, rfl⟩
      rw [← hwA] at hFA
      have hsA : Src B0 SB wA := hs9.only (b := b2) (off := p2 + k) (by omega) (by omega) _ hwA
      have ho5A : Only SB w5 wA := by rw [hwA]; exact ho59.setNew hb52 _
      have hShA : ShapeB _ C := hSH.set1 (i := rr) (k := k)
      have HA9 := Lib.hid (And.intro hFA (And.intro hsA (And.intro ho5A (And.intro hwA (And.intro hShA (setT_len _ rr k 1 |>.trans hLN)))))); clear hFA hsA ho5A hwA hput2 hF9 hs9 ho59 ho9 hrl2 hShA hLN hSH
      have hnT2 : rr < T.length := by have := HR.out.1; omega
      first | (subst e2) | (simp only [Option.some.injEq, Addr.mk.injEq, and_true] at e2; obtain ⟨rfl, rfl⟩ := e2)
      go_wp2_with fail
      rw [← HA9.out.2.2.2.1]
      go_roundw
      case rel => exact ⟨k + 1, _, by omega, by go_num, HA9.out.2.2.2.2.2, HA9.out.2.2.2.2.1, HA9.out.1, HA9.out.2.1, HA9.out.2.2.1⟩
      case measure => simp [intOf]; omega
    ·have hd2 : decide (k < C) = false := decide_eq_false (by omega)
     have hM6 := hor.heap H5.out.2.2.1 (fun e => by have := H3.out.1.1; have := lt_of_heap H5.out.2.2.1; omega)
     have hR6 := hor.heap H5.out.2.2.2.1 (fun e => by omega)
     have hcM : ∀ o, wr.cell? ⟨w2.heap.size, o, none⟩ = (#[.int .i64 m.c, .int .i64 m.d, .int .i64 m.s, .int .i64 m.e, .int .i64 m.l] : Array Value)[o]? := fun o => by rw [cell_of_block hM6]
     have hcR : ∀ o, wr.cell? ⟨W.heap.size, o, none⟩ = (#[.int .i64 0, .int .i64 0, .int .i64 0, .int .i64 0, .int .i64 0, .slice none 0 0] : Array Value)[o]? := fun o => by rw [cell_of_block hR6]
     have hfR := fun o => frozen_of_block hR6 o
     have hoW := H5.out.2.1.trans hor
     have hdone := putS_facts hsr hoW hR6 (by omega) (Nat.le_refl _) (by have := hsr.1; omega) (.int .i64 m.c) (.int .i64 m.d) (.int .i64 m.s) (.int .i64 m.e) (.int .i64 m.l) (.slice ta T.length tc)
     have hFz : F2 W.heap.size (putS wr W.heap.size (.int .i64 m.c) (.int .i64 m.d) (.int .i64 m.s) (.int .i64 m.e) (.int .i64 m.l) (.slice ta T.length tc)) (.slice ta T.length tc) T' := (hF.keepb (fun b h1 h2 => hdone.2.2.2 b (by omega))).mono (by omega)
     have HZ := Lib.hid (And.intro hdone (And.intro hFz (And.intro hTR hsh))); clear hdone hFz hF hsr hor hTR hsh hM6 hR6 hoW
     go_wp2_with fail
     obtain ⟨wz, hwz⟩ : ∃ wz, wz = putS wr W.heap.size (.int .i64 m.c) (.int .i64 m.d) (.int .i64 m.s) (.int .i64 m.e) (.int .i64 m.l) (.slice ta T.length tc) := ⟨_, rfl⟩
     have hZ := HZ.out
     rw [← hwz] at hZ
     unfold putS putR at hwz
     rw [← hwz]
     obtain ⟨⟨hd1, hd2, hd3, _⟩, hFz, hTR, hsh⟩ := hZ
     have hz0 : wz.cell? ⟨W.heap.size, 0, none⟩ = some (.int .i64 m.c) := by rw [cell_of_block hd3]; rfl
     have hz1 : wz.cell? ⟨W.heap.size, 1, none⟩ = some (.int .i64 m.d) := by rw [cell_of_block hd3]; rfl
     have hz2 : wz.cell? ⟨W.heap.size, 2, none⟩ = some (.int .i64 m.s) := by rw [cell_of_block hd3]; rfl
     have hz3 : wz.cell? ⟨W.heap.size, 3, none⟩ = some (.int .i64 m.e) := by rw [cell_of_block hd3]; rfl
     have hz4 : wz.cell? ⟨W.heap.size, 4, none⟩ = some (.int .i64 m.l) := by rw [cell_of_block hd3]; rfl
     have hz5 : wz.cell? ⟨W.heap.size, 5, none⟩ = some (.slice ta T.length tc) := by rw [cell_of_block hd3]; rfl
     exact bodyPost_ret (v := .agg #[.int .i64 m.c, .int .i64 m.d, .int .i64 m.s, .int .i64 m.e, .int .i64 m.l, .slice ta T.length tc]) (by simp [results, Tryz.results127, go_sem, hz0, hz1, hz2, hz3, hz4, hz5]) rfl ⟨m, _, rfl, H3.out.2.2.2.2.1, ⟨T', hFz, ⟨by omega, by omega⟩, C, hC4, hsh⟩, hd1, hd2⟩
/-- A list in memory of its own whose rows lie elsewhere, in new memory. -/
def OV (B : Nat) (w : World) (v : Value) (ls : List (List Int)) : Prop :=
 ∃ vs, w.ownsRow B 44 1 v ls.length vs ∧ RowVs (fun b => B ≤ b ∧ v.ownBlock ≠ some b) w vs ls
theorem OV.nil {B : Nat} {w : World} {v : Value} (h : w.ownsRow B 44 1 v 0 []) : OV B w v [] := ⟨[], h, RowVs.nil⟩
theorem OV.only {B SB : Nat} {w w' : World} {v : Value} {ls : List (List Int)} (h : OV B w v ls) (hc : Only SB w w') (hs : SB < B) : OV B w' v ls := by
 obtain ⟨vs, h1, h2⟩ := h
 exact ⟨vs, own_only h1 hc hs, h2.keep (hc.keep fun b hb e => by have := hb.1; omega)⟩
theorem OV.below {B : Nat} {w w' : World} {v : Value} {ls : List (List Int)} (h : OV B w v ls) (hb : Below w.heap.size w w') : OV B w' v ls := by
 obtain ⟨vs, h1, h2⟩ := h
 exact ⟨vs, own_keep h1 hb, h2.below hb⟩
theorem OV.base {B B' : Nat} {w : World} {v : Value} {ls : List (List Int)} (h : OV B w v ls) (hb : B' ≤ B) : OV B' w v ls := by
 obtain ⟨vs, h1, h2⟩ := h
 exact ⟨vs, own_base h1 hb, h2.1, fun k hk => by obtain ⟨ev, h3, h4⟩ := h2.2 k hk; exact ⟨ev, h3, h4.mono (fun b h _ => ⟨by have := h.1; omega, h.2⟩) (fun _ _ _ => rfl)⟩⟩
theorem OV.form {B : Nat} {w : World} {v : Value} {ls : List (List Int)} (h : OV B w v ls) : ∃ a c, v = .slice a ls.length c ∧ ls.length ≤ c ∧ c ≤ maxLen := by
 obtain ⟨vs, h1, h2⟩ := h; exact own_form h1
theorem OV.push {B : Nat} {w w2 w1 : World} {v v1 rv : Value} {ls : List (List Int)} {l : List Int} {vs : List Value}
  (h1 : w.ownsRow B 44 1 v ls.length vs) (h2 : RowVs (fun b => B ≤ b ∧ v.ownBlock ≠ some b) w vs ls) (hB : B ≤ w.heap.size) (hz : w.heap.size ≤ w2.heap.size) (hk : ∀ b, B ≤ b → b < w.heap.size → w2.heap[b]? = w.heap[b]?) (hx : V1 (fun b => w.heap.size ≤ b) w2 rv l)
  (hown : w1.ownsRow B 44 1 v1 (ls.length + 1) (vs ++ [rv])) (hg : w2.grownBy w1 v.ownBlock) (hblk : v1.ownBlock = v.ownBlock ∨ ∃ g, v1.ownBlock = some g ∧ w2.heap.size ≤ g) : OV B w1 v1 (ls ++ [l]) := by
 have hvl : ∀ g, v.ownBlock = some g → g < w.heap.size := fun g hgg => (h1.lt g hgg).2
 have hne1 : ∀ c, c < w2.heap.size → v.ownBlock ≠ some c → v1.ownBlock ≠ some c := fun c hc hn e => by
  rcases hblk with e1 | ⟨g, e1, hge⟩
  ·exact hn (e1.symm.trans e)
  ·rw [e] at e1; cases e1; omega
 refine ⟨vs ++ [rv], by simpa using hown, RowVs.snoc ⟨h2.1, fun k hk' => ?_⟩ ?_⟩
 ·obtain ⟨ev, h3, h4⟩ := h2.2 k hk'
  exact ⟨ev, h3, h4.mono (fun b hb hlt => ⟨hb.1, hne1 b (by omega) hb.2⟩) (fun b hb hlt => by rw [hg.block b (by omega) (fun e => hb.2 e.symm), hk b hb.1 hlt])⟩
 ·exact hx.mono (fun b hb hlt => ⟨by omega, hne1 b hlt (fun e => by have := hvl b e; omega)⟩) (fun b hb hlt => hg.block b hlt (fun e => by have := hvl b e.symm; omega))
theorem OV.v2 {B : Nat} {w : World} {v : Value} {ls : List (List Int)} (h : OV B w v ls) : V2 (fun b => B ≤ b) w v ls := by
 obtain ⟨vs, ⟨hl, h⟩, hr⟩ := h
 rcases h with ⟨rfl, h0⟩ | ⟨g, cap, cur, rfl, hb, hh, hc, hm, hs, ht⟩
 ·exact ⟨none, 0, by rw [h0], by omega, Nat.zero_le _, fun k hk => by omega⟩
 ·refine ⟨_, _, rfl, hc, hm, fun k hk => ?_⟩
  obtain ⟨ev, h1, h2⟩ := hr.2 k hk
  refine ⟨g, 0, ev, rfl, hb, ?_, h2.mono (fun b h _ => h.1) (fun _ _ _ => rfl)⟩
  have h3 : (cur.toList.take (ls.length * 1))[k]? = vs[k]? := by rw [ht]
  rw [List.getElem?_take, if_pos (by omega), h1] at h3
  rw [cell_of_block hh, Nat.zero_add, ← Array.getElem?_toList, h3]
theorem OV.put {B n c i : Nat} {w : World} {a : Option Addr} {rv : Value} {ls : List (List Int)} {l : List Int} (h : OV B w (.slice a n c) ls) (hi : i < ls.length) (hx : V1 (fun b => B ≤ b ∧ (Value.slice a n c).ownBlock ≠ some b) w rv l) :
  ∃ g u, a = some ⟨g, 0, none⟩ ∧ B ≤ g ∧ w.cell? ⟨g, i, none⟩ = some u ∧ w.frozen? ⟨g, i, none⟩ = false ∧ OV B (w.setCell ⟨g, i, none⟩ rv) (.slice a n c) (ls.set i l) := by
 obtain ⟨vs, ⟨hl, h⟩, hr⟩ := h
 rcases h with ⟨e, h0⟩ | ⟨g, cap, cur, e, hb, hh, hc, hm, hs, ht⟩
 ·omega
 ·simp only [Value.slice.injEq] at e
  obtain ⟨rfl, rfl, rfl⟩ := e
  have hik : i < cur.size := by omega
  refine ⟨g, cur[i], rfl, hb, by rw [cell_of_block hh]; exact Array.getElem?_eq_getElem hik, frozen_of_block hh _, vs.set i rv, ⟨by simp; omega, .inr ⟨g, c, cur.setIfInBounds i rv, by simp, hb, heap_setCell_self hh _, by simp; omega, hm, by simp; omega, by rw [← ht]; simp [List.take_set]⟩⟩, by simp [hr.1], fun k hk => ?_⟩
  have hk' : k < ls.length := by simpa using hk
  have hkeep : Keep (fun b => B ≤ b ∧ (Value.slice (some ⟨g, 0, none⟩) ls.length c).ownBlock ≠ some b) w (w.setCell ⟨g, i, none⟩ rv) := fun b hb' _ => heap_setCell_other _ (fun e => hb'.2 (by rw [e]; rfl))
  by_cases hki : i = k
  ·subst hki
   refine ⟨rv, by rw [List.getElem?_set, if_pos rfl]; simp [hr.1]; omega, ?_⟩
   rw [getl_set hk', if_pos rfl]
   exact hx.mono (fun b h _ => h) hkeep
  ·obtain ⟨ev, h1, h2⟩ := hr.2 k hk'
   refine ⟨ev, by rw [List.getElem?_set, if_neg hki]; exact h1, ?_⟩
   rw [getl_set hk', if_neg hki]
   exact h2.mono (fun b h _ => h) hkeep
theorem smallM_ok {m : Mk} (hm : m.ok = true) : SmallM m := by
 have := Mk.ok_iff.1 hm
 unfold SmallM
 omega
set_option maxRecDepth 100000 in
set_option maxHeartbeats 2000000 in
theorem l15DrawCuts_any (B0 SB : Nat) (m : Mk) (hm : m.ok = true) (ta : Option Addr) (tc n : Nat) (hn : 1 ≤ n ∧ n ≤ 900) (W : World) (h : Src B0 SB W) :
  Calls Tryz.prog 128 #[.pointer (some ⟨SB, 0, none⟩), .agg #[.int .i64 m.c, .int .i64 m.d, .int .i64 m.s, .int .i64 m.e, .int .i64 m.l, .slice ta n tc]] W fun e w' => ∃ v ls, e = .returned v ∧ (OV W.heap.size w' v ls ∧ n ≤ ls.length ∧ ls.length ≤ n + 1) ∧ Src B0 SB w' ∧ Only SB W w' := by
 have hSl := h.lt
 have hB0 : B0 ≤ SB := h.1
 obtain ⟨hn1, hn9⟩ := hn
 obtain ⟨W1, hW1, hB01, hz01, HZ01, hc01, hh01⟩ := box_facts W #[.int .i64 m.c, .int .i64 m.d, .int .i64 m.s, .int .i64 m.e, .int .i64 m.l, .slice ta n tc] 33
 have hs1' := h.below hB01
 have hbL : Below W1.heap.size W1 (W1.alloc (.cells #[] 44)) := (Below.refl _ _).alloc (Nat.le_refl _) _
 have hz1e := HZ01.out
 have hO0 : OV (W.heap.size + 1) (W1.alloc (.cells #[] 44)) (.slice (some ⟨W.heap.size + 1, 0, none⟩) 0 0) [] := OV.nil (by
  have hown0 := own_lit0 W1 (W.heap.size + 1) 44 1 (by omega)
  rw [← hz1e] at hown0 ⊢; exact hown0)
 have HL := Lib.hid (And.intro (hs1'.below hbL) (And.intro hO0 (And.intro ((Only.of_below (SB := SB) hB01).then_below hbL) ((hbL.block _ hz01).trans hh01)))); clear hbL hs1' h hh01 hz1e hO0
 go_enter Tryz.func128, Tryz.ntmps128
 go_wp2_with fail
 rw [← hW1]
 clear hc01 hW1 hB01
 go_loopw [5, 6] (fun cv i wr => ∃ (k : Nat) (ls : List (List Int)), k ≤ n ∧ i = .int .i64 (k : Int) ∧ ls.length = k ∧ OV (W.heap.size + 1) wr cv ls ∧ Src B0 SB wr ∧ Only SB W wr ∧ wr.heap[W.heap.size]? = some (.cells #[.int .i64 m.c, .int .i64 m.d, .int .i64 m.s, .int .i64 m.e, .int .i64 m.l, .slice ta n tc] 33 (0, 0))) (fun _ i _ => n - (intOf i).toNat)
 case atStart => exact ⟨0, [], Nat.zero_le _, rfl, rfl, HL.out.2.1, HL.out.1, HL.out.2.2.1, HL.out.2.2.2⟩
 case round =>
  obtain ⟨k, ls, hkn, rfl, hlk, hO, hsr, hoW, hbox⟩ := hrel
  have hzr := hoW.size
  have hzrb : W.heap.size + 1 ≤ wr.heap.size := lt_of_heap hbox
  have hc : ∀ o, wr.cell? ⟨W.heap.size, o, none⟩ = (#[.int .i64 m.c, .int .i64 m.d, .int .i64 m.s, .int .i64 m.e, .int .i64 m.l, .slice ta n tc] : Array Value)[o]? := fun o => by rw [cell_of_block hbox]
  obtain ⟨oa, oc, rfl, _, _⟩ := hO.form
  by_cases hkk : (k : Int) < (n : Int)
  ·have hd : decide (k < n) = true := decide_eq_true (by omega)
   obtain ⟨vs, hvs, hrv⟩ := hO
   have HR := Lib.hid (And.intro hlk (And.intro hvs (And.intro hrv (And.intro hsr (And.intro hoW hbox))))); clear hlk hvs hrv hsr hoW hbox
   obtain ⟨wo, rfl⟩ : ∃ x, x = wr := ⟨_, rfl⟩
   go_wp2_with fail
   refine (l02Some_any B0 SB m hm _ HR.out.2.2.2.1).mono ?_
   rintro e' w2 ⟨kv, key, rfl, ⟨hkv, hkey⟩, hs2, ho2⟩
   obtain ⟨ka, kc, rfl, _⟩ := hkv.form
   have hvs2 := own_only HR.out.2.1 ho2 (by omega)
   have hl9 : ls.length ≤ 1000 := by have := HR.out.1; omega
   have hz2 := ho2.size
   have H2 := Lib.hid (And.intro hkv (And.intro hkey (And.intro hs2 ho2))); clear hkv hkey hs2 ho2 hc
   go_wp2_with (at_builtin; refine wp_app1 _ rfl _ _ 24 rfl (W.heap.size + 1) 44 (.slice none 0 0) 24 Tryz.underlying24 inf_ints rfl _ _ _ rfl hvs2 (.slice ka key.length kc) _ rfl rfl (by omega) (by omega) (by omega) ?_; intro v1 w1 hown1 hgrow1 hblk1 hB1)
   have hP := OV.push HR.out.2.1 HR.out.2.2.1 hzrb hz2 (fun b h1 h2 => H2.out.2.2.2.block b h2 (fun e => by omega)) H2.out.1 hown1 hgrow1 hblk1
   have hg1 : Chg (fun i => W.heap.size + 1 ≤ i) w2 w1 := (Chg.refl _ _).grown hgrow1 (fun g hg => .inl (hvs2.lt g hg).1)
   have hsr1 := H2.out.2.2.1.keep hg1 (fun b hb => ⟨by omega, by omega⟩)
   have hoW1 : Only SB W w1 := Chg.trans (HR.out.2.2.2.2.1.trans H2.out.2.2.2) (G := fun i => W.heap.size + 1 ≤ i) hg1 (fun i hi => .inr (by omega))
   have hbx1 := hg1.heap (H2.out.2.2.2.heap HR.out.2.2.2.2.2 (fun e => by omega)) (fun e => by omega)
   have H4 := Lib.hid (And.intro hsr1 (And.intro hoW1 (And.intro hbx1 hP))); clear hsr1 hoW1 hbx1 hP hg1 hgrow1 hblk1 hB1 hown1 hvs2
   go_roundw
   case rel => exact ⟨k + 1, ls ++ [key], by omega, by go_num, by have := HR.out.1; simp; omega, H4.out.2.2.2, H4.out.1, H4.out.2.1, H4.out.2.2.1⟩
   case measure => simp [intOf]; omega
  ·have hd : decide (k < n) = false := decide_eq_false (by omega)
   have hlk2 : ls.length = n := by omega
   have HR := Lib.hid (And.intro hlk2 (And.intro hO (And.intro hsr (And.intro hoW hbox)))); clear hlk2 hlk hO hsr hoW hbox
   obtain ⟨wo, rfl⟩ : ∃ x, x = wr := ⟨_, rfl⟩
   go_wp2_with fail
   refine (l01Next_any B0 SB 30 _ HR.out.2.2.1).mono ?_
   rintro e' w2 ⟨x, rfl, ⟨hx0, hx1⟩, hs2, ho2⟩
   have hO2 := HR.out.2.1.only ho2 (by omega)
   have hbx2 := ho2.heap HR.out.2.2.2.2 (fun e => by omega)
   have ho2W := HR.out.2.2.2.1.trans ho2
   have hz2 := ho2.size
   have hc2 : ∀ o, w2.cell? ⟨W.heap.size, o, none⟩ = (#[.int .i64 m.c, .int .i64 m.d, .int .i64 m.s, .int .i64 m.e, .int .i64 m.l, .slice ta n tc] : Array Value)[o]? := fun o => by rw [cell_of_block hbx2]
   have H2 := Lib.hid (And.intro hO2 (And.intro hs2 (And.intro ho2W hbx2))); clear hO2 hs2 ho2 ho2W hbx2 hc
   by_cases hxz : x = 0
   ·subst hxz
    go_wp2_with fail
    refine (l02DrawCuts_any B0 SB m (smallM_ok hm) _ H2.out.2.1).mono ?_
    rintro e' w3 ⟨rv, l, rfl, ⟨hrv, hl9⟩, hs3, ho3⟩
    obtain ⟨ra, rc, rfl, _⟩ := hrv.v1.form
    have hO3 := H2.out.1.only ho3 (by omega)
    have hz3 := ho3.size
    have hown := H2.out.1
    have hrx : V1 (fun b => W.heap.size + 1 ≤ b ∧ (Value.slice oa ls.length oc).ownBlock ≠ some b) w3 (.slice ra l.length rc) l := hrv.v1.mono (fun b hb _ => ⟨by omega, fun e => by
     obtain ⟨vs, h1, _⟩ := H2.out.1
     have := (h1.lt b e).2; omega⟩) (fun _ _ _ => rfl)
    obtain ⟨g, u, rfl, hgB, hgc, hgf, hput⟩ := hO3.put (i := 0) (by have := HR.out.1; omega) hrx
    have hnl : 0 < ls.length := by have := HR.out.1; omega
    obtain ⟨w4, hw4⟩ : ∃ w4, w4 = w3.setCell ⟨g, 0, none⟩ (.slice ra l.length rc) := ⟨_, rfl⟩
    rw [← hw4] at hput
    have hs4 : Src B0 SB w4 := hs3.only (b := g) (off := 0) (by omega) (by omega) _ hw4
    have ho4 : Only SB W w4 := by rw [hw4]; exact (H2.out.2.2.1.trans ho3).setNew (by omega) _
    have H4 := Lib.hid (And.intro hput (And.intro hs4 (And.intro ho4 hw4))); clear hput hs4 ho4 hw4 hO3 hrv hs3 ho3 hrx hc2 hown
    go_wp2_with fail
    rw [← H4.out.2.2.2]
    go_wp2_with fail
    go_ret
    exact ⟨_, _, rfl, ⟨H4.out.1.base (by omega), by have := HR.out.1; simp; omega, by have := HR.out.1; simp; omega⟩, H4.out.2.1, H4.out.2.2.1⟩
   ·have hx0d : (x == 0) = false := by simp [hxz]
    by_cases hxo : x = 1
    ·subst hxo
     obtain ⟨vs, hvs, hrw⟩ := H2.out.1
     have HV := Lib.hid (And.intro hvs hrw); clear hvs hrw
     go_wp2_with fail
     refine (l02Some_any B0 SB m hm _ H2.out.2.1).mono ?_
     rintro e' w3 ⟨kv, key, rfl, ⟨hkv, hkey⟩, hs3, ho3⟩
     obtain ⟨ka, kc, rfl, _⟩ := hkv.form
     have hvs3 := own_only HV.out.1 ho3 (by omega)
     have hl9 : ls.length ≤ 1000 := by have := HR.out.1; omega
     have hz3 := ho3.size
     have H3 := Lib.hid (And.intro hkv (And.intro hkey (And.intro hs3 ho3))); clear hkv hkey hs3 ho3 hc2
     go_wp2_with (at_builtin; refine wp_app1 _ rfl _ _ 24 rfl (W.heap.size + 1) 44 (.slice none 0 0) 24 Tryz.underlying24 inf_ints rfl _ _ _ rfl hvs3 (.slice ka key.length kc) _ rfl rfl (by omega) (by omega) (by omega) ?_; intro v1 w1 hown1 hgrow1 hblk1 hB1)
     have hP := OV.push HV.out.1 HV.out.2 (by omega) hz3 (fun b h1 h2 => H3.out.2.2.2.block b h2 (fun e => by omega)) H3.out.1 hown1 hgrow1 hblk1
     have hg1 : Chg (fun i => W.heap.size + 1 ≤ i) w3 w1 := (Chg.refl _ _).grown hgrow1 (fun g hg => .inl (hvs3.lt g hg).1)
     have hsr1 := H3.out.2.2.1.keep hg1 (fun b hb => ⟨by omega, by omega⟩)
     have hoW1 : Only SB W w1 := Chg.trans (H2.out.2.2.1.trans H3.out.2.2.2) (G := fun i => W.heap.size + 1 ≤ i) hg1 (fun i hi => .inr (by omega))
     have H4 := Lib.hid (And.intro hsr1 (And.intro hoW1 hP)); clear hsr1 hoW1 hP hg1 hgrow1 hblk1 hB1 hown1 hvs3
     go_wp2_with fail
     go_ret
     exact ⟨_, _, rfl, ⟨H4.out.2.2.base (by omega), by have := HR.out.1; simp; omega, by have := HR.out.1; simp; omega⟩, H4.out.1, H4.out.2.1⟩
    ·have hx1d : (x == 1) = false := by simp [hxo]
     go_wp2_with fail
     go_ret
     exact ⟨_, _, rfl, ⟨H2.out.1.base (by omega), by have := HR.out.1; omega, by have := HR.out.1; omega⟩, H2.out.2.1, H2.out.2.2.1⟩
end Go.Proofs.YtmjplkbmhdkggaaGreat
