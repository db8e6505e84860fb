/- Counting designs and tries: the reference's answers. No conditions. -/
import Derived.Test.YtmaefilliggjiaaGreatMFindO
import Derived.Test.YtmaefilliggjiaaGreatMTable
import Derived.Test.YtmaefilliggjiaaGreatMLib
import Derived.Test.YtmaefilliggjiaaGreatMGoC
import Derived.Test.YtmaefilliggjiaaGreatMGhF
namespace Go.Proofs.YtmaefilliggjiaaGreat
open Go.RowKit
set_option linter.unusedVariables false
set_option linter.unusedSimpArgs false
set_option maxRecDepth 100000 in
set_option maxHeartbeats 1000000 in
theorem CountDesignsR_any {S : Nat → Prop} (m : Mk) (u : Value) (t : List (List Int)) (limit : Int) (W : World) (h : V2 S W u t) :
  Calls Tryz.prog 57 #[.agg #[.int .i64 m.c, .int .i64 m.d, .int .i64 m.s, .int .i64 m.e, .int .i64 m.l, u], .int .i64 limit] W fun e' w' => e' = .returned (.tuple #[.int .i64 (cntAns m t limit).1, .int .i64 (cntAns m t limit).2]) ∧ Below W.heap.size W w' := by
 obtain ⟨a, c, rfl, hmx⟩ := h.form
 obtain ⟨W1, hW1, hB01, hz01, HZ01, hc01, hh01⟩ := box_facts W #[.int .i64 m.c, .int .i64 m.d, .int .i64 m.s, .int .i64 m.e, .int .i64 m.l, .slice a t.length c] 28
 have hV1 : V2 (fun _ => True) W1 (.slice a t.length c) t := (h.below hB01).any
 have hsc := l17Code_any m (.slice a t.length c) t limit W1 hV1
 by_cases hp : searchC m t [] limit = 0
 ·obtain ⟨hok, hlim, hop⟩ := searchC_ok.1 hp
  rw [hp] at hsc
  obtain ⟨L, rfl⟩ : ∃ L : Nat, limit = (L : Int) := ⟨limit.toNat, by omega⟩
  have hfd := fun w (hb : Below W1.heap.size W1 w) => l17Run_any m (.slice a t.length c) (.slice none 0 0) t [] 1000000 L w (hV1.below hb) (S' := fun _ => True) ⟨none, 0, rfl, Nat.le_refl _, Nat.zero_le _, fun k hk => by simp at hk⟩ (fun _ => .inl rfl) hok (by omega) (by omega)
  have hcr := cntF_ref (m := m) (t := t) (limit := L) (most := 1000000) hok.fits.rows.1 (by omega)
  have hfin : cntAns m t (L : Int) = if (cntF m t L).2.1 = true then (0, 3) else ((((cntF m t L).2.2 : Nat) : Int), 0) := by unfold cntAns; rw [if_neg (by rw [hp]; simp)]; rfl
  rw [hfin, ← hcr]
  clear hfin hcr
  obtain ⟨r, hr⟩ : ∃ r, firstF m.c.toNat t (keysOf m) [] 1000000 L = r := ⟨_, rfl⟩
  simp only [hr] at hfd ⊢
  obtain ⟨r1, r2, rl⟩ := r
  have H := Lib.hid (And.intro hsc (And.intro hfd hB01)); clear hsc hfd hp hok hlim hop hr
  cases r2
  ·simp only [mapS, Bool.false_eq_true, if_false]
   go_enter Tryz.func57, Tryz.ntmps57
   go_wp2_with fail
   rw [← hW1]
   refine H.out.1.mono ?_
   rintro e' w2 ⟨rfl, hb2⟩
   have hz2 := hb2.size
   have hx2 : ∀ o, w2.cell? ⟨W.heap.size, o, none⟩ = (#[.int .i64 m.c, .int .i64 m.d, .int .i64 m.s, .int .i64 m.e, .int .i64 m.l, .slice a t.length c] : Array Value)[o]? := fun o => by rw [(bcell hb2).1 _ _ hz01, hc01]
   clear hc01 hh01
   go_wp2_with fail
   refine (H.out.2.1 _ hb2).mono ?_
   rintro e' w3 ⟨RB, fv, rfl, hG, hb3⟩
   have hbz := Lib.hid (H.out.2.2.trans ((hb2.trans (hb3.mono hz2)).mono (by omega)))
   obtain ⟨fa, fc, rfl, _⟩ := hG.form
   have hx : ∀ o, w3.cell? ⟨RB, o, none⟩ = (#[.int .i64 m.c, .int .i64 m.d, .int .i64 m.s, .int .i64 m.e, .int .i64 m.l, .slice a t.length c, .int .i64 (L : Int), .int .i64 1000000, .int .i64 (r1 : Int), .bool false, .slice fa rl.length fc] : Array Value)[o]? := fun o => by rw [hG.cell]; rfl
   clear hx2 hb3 hG
   go_wp2_with fail
   go_ret2
   exact ⟨rfl, hbz.out⟩
  ·simp only [mapS, if_true]
   go_enter Tryz.func57, Tryz.ntmps57
   go_wp2_with fail
   rw [← hW1]
   refine H.out.1.mono ?_
   rintro e' w2 ⟨rfl, hb2⟩
   have hz2 := hb2.size
   have hx2 : ∀ o, w2.cell? ⟨W.heap.size, o, none⟩ = (#[.int .i64 m.c, .int .i64 m.d, .int .i64 m.s, .int .i64 m.e, .int .i64 m.l, .slice a t.length c] : Array Value)[o]? := fun o => by rw [(bcell hb2).1 _ _ hz01, hc01]
   clear hc01 hh01
   go_wp2_with fail
   refine (H.out.2.1 _ hb2).mono ?_
   rintro e' w3 ⟨RB, fv, rfl, hG, hb3⟩
   have hbz := Lib.hid (H.out.2.2.trans ((hb2.trans (hb3.mono hz2)).mono (by omega)))
   obtain ⟨fa, fc, rfl, _⟩ := hG.form
   have hx : ∀ o, w3.cell? ⟨RB, o, none⟩ = (#[.int .i64 m.c, .int .i64 m.d, .int .i64 m.s, .int .i64 m.e, .int .i64 m.l, .slice a t.length c, .int .i64 (L : Int), .int .i64 1000000, .int .i64 (r1 : Int), .bool true, .slice fa rl.length fc] : Array Value)[o]? := fun o => by rw [hG.cell]; rfl
   clear hx2 hb3 hG
   go_wp2_with fail
   go_ret2
   exact ⟨rfl, hbz.out⟩
 ·have hfin : cntAns m t limit = (0, searchC m t [] limit) := by unfold cntAns; rw [if_pos hp]
  have e1 : (searchC m t [] limit != 0) = true := by simp [hp]
  rw [hfin]
  have H := Lib.hid (And.intro hsc (And.intro hfin hB01)); clear hsc hfin hp
  generalize searchC m t [] limit = pc at *
  go_enter Tryz.func57, Tryz.ntmps57
  go_wp2_with fail
  rw [← hW1]
  refine H.out.1.mono ?_
  rintro e' w2 ⟨rfl, hb2⟩
  have hz2 := hb2.size
  have hx2 : ∀ o, w2.cell? ⟨W.heap.size, o, none⟩ = (#[.int .i64 m.c, .int .i64 m.d, .int .i64 m.s, .int .i64 m.e, .int .i64 m.l, .slice a t.length c] : Array Value)[o]? := fun o => by rw [(bcell hb2).1 _ _ hz01, hc01]
  clear hc01 hh01
  clear hx2
  go_wp2_with fail
  go_ret2
  exact ⟨rfl, H.out.2.2.trans (hb2.mono (by omega))⟩
set_option maxRecDepth 100000 in
set_option maxHeartbeats 1000000 in
theorem CountTriesR_any {S : Nat → Prop} (m : Mk) (u : Value) (t : List (List Int)) (limit : Int) (W : World) (h : V2 S W u t) :
  Calls Tryz.prog 59 #[.agg #[.int .i64 m.c, .int .i64 m.d, .int .i64 m.s, .int .i64 m.e, .int .i64 m.l, u], .int .i64 limit] W fun e' w' => e' = .returned (.tuple #[.int .i64 (triesAns m t limit).1, .int .i64 (triesAns m t limit).2]) ∧ Below W.heap.size W w' := by
 obtain ⟨a, c, rfl, hmx⟩ := h.form
 obtain ⟨W1, hW1, hB01, hz01, HZ01, hc01, hh01⟩ := box_facts W #[.int .i64 m.c, .int .i64 m.d, .int .i64 m.s, .int .i64 m.e, .int .i64 m.l, .slice a t.length c] 28
 have hV1 : V2 (fun _ => True) W1 (.slice a t.length c) t := (h.below hB01).any
 have hsc := l17Code_any m (.slice a t.length c) t limit W1 hV1
 by_cases hp : searchC m t [] limit = 0
 ·obtain ⟨hok, hlim, hop⟩ := searchC_ok.1 hp
  rw [hp] at hsc
  obtain ⟨L, rfl⟩ : ∃ L : Nat, limit = (L : Int) := ⟨limit.toNat, by omega⟩
  have hfd := fun w (hb : Below W1.heap.size W1 w) => l17Run_any m (.slice a t.length c) (.slice none 0 0) t [] 1000000 L w (hV1.below hb) (S' := fun _ => True) ⟨none, 0, rfl, Nat.le_refl _, Nat.zero_le _, fun k hk => by simp at hk⟩ (fun _ => .inl rfl) hok (by omega) (by omega)
  have hcr := cntF_ref (m := m) (t := t) (limit := L) (most := 1000000) hok.fits.rows.1 (by omega)
  have hfin : triesAns m t (L : Int) = if (cntF m t L).2.1 = true then (0, 3) else ((((cntF m t L).1 : Nat) : Int), 0) := by unfold triesAns; rw [if_neg (by rw [hp]; simp)]; rfl
  rw [hfin, ← hcr]
  clear hfin hcr
  obtain ⟨r, hr⟩ : ∃ r, firstF m.c.toNat t (keysOf m) [] 1000000 L = r := ⟨_, rfl⟩
  simp only [hr] at hfd ⊢
  obtain ⟨r1, r2, rl⟩ := r
  have H := Lib.hid (And.intro hsc (And.intro hfd hB01)); clear hsc hfd hp hok hlim hop hr
  cases r2
  ·simp only [mapS, Bool.false_eq_true, if_false]
   go_enter Tryz.func59, Tryz.ntmps59
   go_wp2_with fail
   rw [← hW1]
   refine H.out.1.mono ?_
   rintro e' w2 ⟨rfl, hb2⟩
   have hz2 := hb2.size
   have hx2 : ∀ o, w2.cell? ⟨W.heap.size, o, none⟩ = (#[.int .i64 m.c, .int .i64 m.d, .int .i64 m.s, .int .i64 m.e, .int .i64 m.l, .slice a t.length c] : Array Value)[o]? := fun o => by rw [(bcell hb2).1 _ _ hz01, hc01]
   clear hc01 hh01
   go_wp2_with fail
   refine (H.out.2.1 _ hb2).mono ?_
   rintro e' w3 ⟨RB, fv, rfl, hG, hb3⟩
   have hbz := Lib.hid (H.out.2.2.trans ((hb2.trans (hb3.mono hz2)).mono (by omega)))
   obtain ⟨fa, fc, rfl, _⟩ := hG.form
   have hx : ∀ o, w3.cell? ⟨RB, o, none⟩ = (#[.int .i64 m.c, .int .i64 m.d, .int .i64 m.s, .int .i64 m.e, .int .i64 m.l, .slice a t.length c, .int .i64 (L : Int), .int .i64 1000000, .int .i64 (r1 : Int), .bool false, .slice fa rl.length fc] : Array Value)[o]? := fun o => by rw [hG.cell]; rfl
   clear hx2 hb3 hG
   go_wp2_with fail
   go_ret2
   exact ⟨rfl, hbz.out⟩
  ·simp only [mapS, if_true]
   go_enter Tryz.func59, Tryz.ntmps59
   go_wp2_with fail
   rw [← hW1]
   refine H.out.1.mono ?_
   rintro e' w2 ⟨rfl, hb2⟩
   have hz2 := hb2.size
   have hx2 : ∀ o, w2.cell? ⟨W.heap.size, o, none⟩ = (#[.int .i64 m.c, .int .i64 m.d, .int .i64 m.s, .int .i64 m.e, .int .i64 m.l, .slice a t.length c] : Array Value)[o]? := fun o => by rw [(bcell hb2).1 _ _ hz01, hc01]
   clear hc01 hh01
   go_wp2_with fail
   refine (H.out.2.1 _ hb2).mono ?_
   rintro e' w3 ⟨RB, fv, rfl, hG, hb3⟩
   have hbz := Lib.hid (H.out.2.2.trans ((hb2.trans (hb3.mono hz2)).mono (by omega)))
   obtain ⟨fa, fc, rfl, _⟩ := hG.form
   have hx : ∀ o, w3.cell? ⟨RB, o, none⟩ = (#[.int .i64 m.c, .int .i64 m.d, .int .i64 m.s, .int .i64 m.e, .int .i64 m.l, .slice a t.length c, .int .i64 (L : Int), .int .i64 1000000, .int .i64 (r1 : Int), .bool true, .slice fa rl.length fc] : Array Value)[o]? := fun o => by rw [hG.cell]; rfl
   clear hx2 hb3 hG
   go_wp2_with fail
   go_ret2
   exact ⟨rfl, hbz.out⟩
 ·have hfin : triesAns m t limit = (0, searchC m t [] limit) := by unfold triesAns; rw [if_pos hp]
  have e1 : (searchC m t [] limit != 0) = true := by simp [hp]
  rw [hfin]
  have H := Lib.hid (And.intro hsc (And.intro hfin hB01)); clear hsc hfin hp
  generalize searchC m t [] limit = pc at *
  go_enter Tryz.func59, Tryz.ntmps59
  go_wp2_with fail
  rw [← hW1]
  refine H.out.1.mono ?_
  rintro e' w2 ⟨rfl, hb2⟩
  have hz2 := hb2.size
  have hx2 : ∀ o, w2.cell? ⟨W.heap.size, o, none⟩ = (#[.int .i64 m.c, .int .i64 m.d, .int .i64 m.s, .int .i64 m.e, .int .i64 m.l, .slice a t.length c] : Array Value)[o]? := fun o => by rw [(bcell hb2).1 _ _ hz01, hc01]
  clear hc01 hh01
  clear hx2
  go_wp2_with fail
  go_ret2
  exact ⟨rfl, H.out.2.2.trans (hb2.mono (by omega))⟩
def marks (n : Nat) (k : Int) : List Int := (List.range n).map fun i => k + (i : Nat)
theorem rows_ne {ls : List (List Int)} {k : Nat} (h : k < ls.length) : ls ≠ [] := by intro e; subst e; simp at h
def Rg (lo hi : Nat) : Nat → Prop := fun b => lo ≤ b ∧ b < hi
def XR1 (lo hi : Nat) (w : World) (v : Value) (l : List Int) : Prop := ∃ b, X1 w v l b ∧ (l ≠ [] → lo ≤ b ∧ b < hi)
def XR2 (lo hi : Nat) (w : World) (v : Value) (ls : List (List Int)) : Prop :=
 ∃ ob bk, X2 w v ls ob bk ∧ (ls ≠ [] → lo ≤ ob ∧ ob < hi) ∧ ∀ k, k < ls.length → getl ls k ≠ [] → lo ≤ bk k ∧ bk k < hi
section
variable {lo hi lo' hi' s B : Nat} {w w' : World} {v : Value} {l : List Int} {ls : List (List Int)}
theorem XR2.of_F2 (h : F2 B w v ls) : XR2 B w.heap.size w v ls := by
 obtain ⟨ob, bk, h1, h2, h3⟩ := h
 exact ⟨ob, bk, h1, fun hn => ⟨h2 hn, (h1.lt hn).1⟩, fun k hk hn => ⟨h3 k hk hn, (h1.lt (rows_ne hk)).2 k hk hn⟩⟩
theorem XR1.below (h : XR1 lo hi w v l) (hb : Below w.heap.size w w') : XR1 lo hi w' v l := by
 obtain ⟨b, h1, h2⟩ := h
 exact ⟨b, h1.keep (fun hn => hb.block _ (h1.lt hn)), h2⟩
theorem XR2.below (h : XR2 lo hi w v ls) (hb : Below w.heap.size w w') : XR2 lo hi w' v ls := by
 obtain ⟨ob, bk, h1, h2, h3⟩ := h
 exact ⟨ob, bk, h1.keep (fun hn => hb.block _ (h1.lt hn).1) (fun k hk hn => hb.block _ ((h1.lt (rows_ne hk)).2 k hk hn)), h2, h3⟩
theorem XR1.chg (h : XR1 lo hi w v l) (hc : Chg (Rg lo' hi') w w') (hd : hi ≤ lo' ∨ hi' ≤ lo) : XR1 lo hi w' v l := by
 obtain ⟨b, h1, h2⟩ := h
 exact ⟨b, h1.keep (fun hn => hc.block _ (h1.lt hn) (fun hf => by have := h2 hn; obtain ⟨g1, g2⟩ := hf; omega)), h2⟩
theorem XR2.chg (h : XR2 lo hi w v ls) (hc : Chg (Rg lo' hi') w w') (hd : hi ≤ lo' ∨ hi' ≤ lo) : XR2 lo hi w' v ls := by
 obtain ⟨ob, bk, h1, h2, h3⟩ := h
 exact ⟨ob, bk, h1.keep (fun hn => hc.block _ (h1.lt hn).1 (fun hf => by have := h2 hn; obtain ⟨g1, g2⟩ := hf; omega)) (fun k hk hn => hc.block _ ((h1.lt (rows_ne hk)).2 k hk hn) (fun hf => by have := h3 k hk hn; obtain ⟨g1, g2⟩ := hf; omega)), h2, h3⟩
theorem XR1.v1 (h : XR1 lo hi w v l) : V1 (fun _ => True) w v l := by
 obtain ⟨b, h1, _⟩ := h; exact h1.v1 (fun _ => trivial)
theorem XR2.v2 (h : XR2 lo hi w v ls) : V2 (fun _ => True) w v ls := by
 obtain ⟨ob, bk, h1, _⟩ := h; exact h1.v2 (fun _ => trivial) (fun _ _ _ => trivial)
theorem XR1.form (h : XR1 lo hi w v l) : ∃ a c, v = .slice a l.length c := by
 obtain ⟨b, ⟨a, c, rfl, _⟩, _⟩ := h; exact ⟨a, c, rfl⟩
theorem XR2.form (h : XR2 lo hi w v ls) : ∃ a c, v = .slice a ls.length c := by
 obtain ⟨ob, bk, ⟨a, c, rfl, _⟩, _⟩ := h; exact ⟨a, c, rfl⟩
theorem F1.any (h : F1 B w v l) : V1 (fun _ => True) w v l := h.v1.any
theorem F2.any (h : F2 B w v ls) : V2 (fun _ => True) w v ls := h.v2.any
end
/-- A list of designs between two sizes of the heap: each design between two sizes of its own. -/
def XR3 (lo hi : Nat) (w : World) (v : Value) (ds : List (List (List Int))) : Prop :=
 ∃ a c ob off cs e, ∃ L U : Nat → Nat, v = .slice a ds.length c ∧ ds.length ≤ c ∧ c ≤ maxLen ∧ (ds ≠ [] → a = some ⟨ob, off, none⟩ ∧ w.heap[ob]? = some (.cells cs e (0, 0)) ∧ lo ≤ ob ∧ ob < hi) ∧
   (∀ k, k < ds.length → ∃ rv, cs[off + k]? = some rv ∧ XR2 (L k) (U k) w rv (getll ds k)) ∧
   (∀ k, k < ds.length → lo ≤ L k ∧ L k ≤ U k ∧ U k ≤ hi ∧ (ob < L k ∨ U k ≤ ob) ∧ ∀ j, j < k → U j ≤ L k)
theorem ds_ne {ds : List (List (List Int))} {k : Nat} (h : k < ds.length) : ds ≠ [] := by intro e; subst e; simp at h
section
variable {lo hi lo' hi' s B : Nat} {w w' : World} {v : Value} {ds : List (List (List Int))}
theorem XR3.of_Out3 {L U : Nat → Nat} {vs : List Value} (h : Out3 B L U w v vs ds) : XR3 B w.heap.size w v ds := by
 have hv := h.own.1
 rcases h.own.2 with ⟨rfl, h0⟩ | ⟨g, cap, cur, rfl, hb, hh, hc, hm, hs, ht⟩
 ·have : ds = [] := List.eq_nil_of_length_eq_zero h0
  subst this
  exact ⟨none, 0, 0, 0, #[], 2, L, U, rfl, Nat.le_refl _, Nat.zero_le _, fun hn => absurd rfl hn, fun k hk => by simp at hk, fun k hk => by simp at hk⟩
 ·refine ⟨_, cap, g, 0, cur, _, L, U, rfl, hc, hm, fun _ => ⟨rfl, hh, hb, lt_of_heap hh⟩, fun k hk => ?_, fun k hk => ?_⟩
  ·obtain ⟨rv, h4, h5⟩ := h.each k hk
   refine ⟨rv, ?_, h5⟩
   have h6 : (cur.toList.take (ds.length * 1))[k]? = vs[k]? := by rw [ht]
   rw [List.getElem?_take, if_pos (by omega), h4] at h6
   rw [Nat.zero_add, ← Array.getElem?_toList, h6]
  ·obtain ⟨h1, h2, h3, h4, h5⟩ := h.apart k hk
   exact ⟨h1, h2, h3, h4 g rfl, h5⟩
theorem XR3.keep (h : XR3 lo hi w v ds) (hk : ∀ b, lo ≤ b → b < hi → b < w.heap.size → w'.heap[b]? = w.heap[b]?) : XR3 lo hi w' v ds := by
 obtain ⟨a, c, ob, off, cs, e, L, U, rfl, h1, h2, h3, h4, h5⟩ := h
 refine ⟨a, c, ob, off, cs, e, L, U, rfl, h1, h2, fun hn => ?_, fun k hlt => ?_, h5⟩
 ·obtain ⟨g1, g2, g3, g4⟩ := h3 hn
  exact ⟨g1, by rw [hk ob g3 g4 (lt_of_heap g2)]; exact g2, g3, g4⟩
 ·obtain ⟨rv, g1, ob2, bk2, g2, g3, g4⟩ := h4 k hlt
  obtain ⟨e1, e2, e3, _⟩ := h5 k hlt
  exact ⟨rv, g1, ob2, bk2, g2.keep (fun hn => hk _ (by have := g3 hn; omega) (by have := g3 hn; omega) (g2.lt hn).1) (fun j hj hn => hk _ (by have := g4 j hj hn; omega) (by have := g4 j hj hn; omega) ((g2.lt (rows_ne hj)).2 j hj hn)), g3, g4⟩
theorem XR3.below (h : XR3 lo hi w v ds) (hb : Below w.heap.size w w') : XR3 lo hi w' v ds := h.keep fun b _ _ hl => hb.block b hl
theorem XR3.chg (h : XR3 lo hi w v ds) (hc : Chg (Rg lo' hi') w w') (hd : hi ≤ lo' ∨ hi' ≤ lo) : XR3 lo hi w' v ds :=
 h.keep fun b h1 h2 hl => hc.block b hl (fun hf => by obtain ⟨g1, g2⟩ := hf; omega)
theorem XR3.v3 (h : XR3 lo hi w v ds) : V3 (fun _ => True) w v ds := by
 obtain ⟨a, c, ob, off, cs, e, L, U, rfl, h1, h2, h3, h4, h5⟩ := h
 refine ⟨a, c, rfl, h1, h2, fun k hk => ?_⟩
 obtain ⟨g1, g2, _⟩ := h3 (ds_ne hk)
 obtain ⟨rv, g4, g5⟩ := h4 k hk
 exact ⟨ob, off, rv, g1, trivial, by rw [cell_of_block g2]; exact g4, g5.v2⟩
theorem XR3.form (h : XR3 lo hi w v ds) : ∃ a c, v = .slice a ds.length c := by
 obtain ⟨a, c, ob, off, cs, e, L, U, rfl, _⟩ := h; exact ⟨a, c, rfl⟩
end
/-! ### Marks -/
theorem Out3.old3 {B : Nat} {L U : Nat → Nat} {w : World} {v : Value} {vs : List Value} {ds : List (List (List Int))} (h : Out3 B L U w v vs ds) : V3 (fun b => b < w.heap.size) w v ds := (XR3.of_Out3 h).v3.mono (fun b _ h => h) (fun _ _ _ => rfl)
set_option maxRecDepth 100000 in
set_option maxHeartbeats 1000000 in
theorem DesignsOfR_any {S : Nat → Prop} (m : Mk) (u : Value) (t : List (List Int)) (most limit : Int) (W : World) (h : V2 S W u t) :
  Calls Tryz.prog 62 #[.agg #[.int .i64 m.c, .int .i64 m.d, .int .i64 m.s, .int .i64 m.e, .int .i64 m.l, u], .int .i64 most, .int .i64 limit] W fun e' w' => ∃ v', e' = .returned (.tuple #[v', .int .i64 (desAns m t most limit).2]) ∧ V3 (fun b => b < w'.heap.size) w' v' (desAns m t most limit).1 ∧ Below W.heap.size W w' := by
 obtain ⟨a, c, rfl, hmx⟩ := h.form
 obtain ⟨W1, hW1, hB01, hz01, HZ01, hc01, hh01⟩ := box_facts W #[.int .i64 m.c, .int .i64 m.d, .int .i64 m.s, .int .i64 m.e, .int .i64 m.l, .slice a t.length c] 28
 have hV1 : V2 (fun _ => True) W1 (.slice a t.length c) t := (h.below hB01).any
 have hsc := l17Code_any m _ t limit W1 hV1
 by_cases hp : searchC m t [] limit = 0
 ·obtain ⟨hok, hlim, hop⟩ := searchC_ok.1 hp
  rw [hp] at hsc
  obtain ⟨L, rfl⟩ : ∃ L : Nat, limit = (L : Int) := ⟨limit.toNat, by omega⟩
  cases hi : inB most 0 10
  ·have hfin : desAns m t most (L : Int) = ([], 2) := by unfold desAns; rw [if_neg (by rw [hp]; simp), if_pos hi]
   rw [hfin]
   have H := Lib.hid (And.intro hsc (And.intro hi hfin)); clear hsc hi hfin hp hok hlim hop
   go_enter Tryz.func62, Tryz.ntmps62
   go_wp2_with fail
   rw [← hW1]
   refine H.out.1.mono ?_
   rintro e' w2 ⟨rfl, hb2⟩
   have hz2 := hb2.size
   have hx2 : ∀ o, w2.cell? ⟨W.heap.size, o, none⟩ = (#[.int .i64 m.c, .int .i64 m.d, .int .i64 m.s, .int .i64 m.e, .int .i64 m.l, .slice a t.length c] : Array Value)[o]? := fun o => by rw [(bcell hb2).1 _ _ hz01, hc01]
   clear hc01 hh01
   go_wp2_with (go_at_call 103; refine (l01In_b _ _ _ _ _ H.out.2.1).mono ?_; rintro e' w' ⟨rfl, rfl⟩)
   go_ret2
   exact ⟨_, rfl, (Out3.nil (B := 0)).old3, hB01.trans (hb2.mono (by omega))⟩
  ·have hmost := inB_iff.1 hi
   have hfin : desAns m t most (L : Int) = if (firstF m.c.toNat t (keysOf m) [] most L).2.1 = true then ([], 3) else ((firstF m.c.toNat t (keysOf m) [] most L).2.2, 0) := by
    unfold desAns; rw [if_neg (by rw [hp]; simp), if_neg (by rw [hi]; decide)]; rfl
   have hdes := firstF_des (n := m.c.toNat) (most := most) (limit := L) hok
   have hfew := firstF_few (m := m) (n := m.c.toNat) (t := t) (cuts := []) (most := most) (limit := L) hmost.1
   have hfd := fun w (hb : Below W1.heap.size W1 w) => l17Run_any m (.slice a t.length c) (.slice none 0 0) t [] most L w (hV1.below hb) (V2.nil6 (S := fun _ => True)) (fun _ => .inl rfl) hok (by omega) (by omega)
   obtain ⟨r, hr⟩ : ∃ r, firstF m.c.toNat t (keysOf m) [] most L = r := ⟨_, rfl⟩
   rw [hr] at hfin hdes hfew
   simp only [hr] at hfd
   rw [hfin]
   obtain ⟨r1, r2, rl⟩ := r
   have hrl : rl.length ≤ 10 := by have h1 : (rl.length : Int) ≤ most := hfew; omega
   have hdes : ∀ x ∈ rl, DesOk m t x := hdes
   have H := Lib.hid (And.intro hsc (And.intro hi (And.intro hfd (And.intro hdes hfin)))); clear hsc hi hfd hfin hp hok hlim hop hr hmost hdes hfew
   cases r2
   ·show Calls _ _ _ _ fun e' w' => ∃ v', e' = .returned (.tuple #[v', .int .i64 0]) ∧ V3 (fun b => b < w'.heap.size) w' v' rl ∧ Below W.heap.size W w'
    go_enter Tryz.func62, Tryz.ntmps62
    go_wp2_with fail
    rw [← hW1]
    refine H.out.1.mono ?_
    rintro e' w2 ⟨rfl, hb2⟩
    have hz2 := hb2.size
    have hx2 : ∀ o, w2.cell? ⟨W.heap.size, o, none⟩ = (#[.int .i64 m.c, .int .i64 m.d, .int .i64 m.s, .int .i64 m.e, .int .i64 m.l, .slice a t.length c] : Array Value)[o]? := fun o => by rw [(bcell hb2).1 _ _ hz01, hc01]
    clear hc01 hh01
    go_wp2_with (go_at_call 103; refine (l01In_b _ _ _ _ _ H.out.2.1).mono ?_; rintro e' w' ⟨rfl, rfl⟩)
    refine (H.out.2.2.1 _ hb2).mono ?_
    rintro e' w3 ⟨RB, fv, rfl, hG, hb3⟩
    have hBW3 : Below W.heap.size W w3 := hB01.trans ((hb2.trans (hb3.mono hz2)).mono (by omega))
    have hz3 := hBW3.size
    obtain ⟨fa, fc, rfl, _, _⟩ := hG.form
    have cX9 : w3.cell? ⟨RB, 9, none⟩ = some (.bool false) := by rw [hG.cell]; rfl
    have hO0 := Out3.start w3 w3.heap.size (Nat.le_refl _)
    have HG := Lib.hid (And.intro hG (And.intro hBW3 hO0)); clear hG hBW3 hO0 hb3 hx2
    go_wp2_with fail
    go_loopw [10, 11] (fun ou i wr => ∃ (k : Nat) (vs : List Value) (LL UU : Nat → Nat), k ≤ rl.length ∧ i = .int .i64 (k : Int) ∧ Out3 w3.heap.size LL UU wr ou vs (rl.take k) ∧ Below w3.heap.size w3 wr ∧ Below W.heap.size W wr) (fun _ i _ => rl.length - (intOf i).toNat)
    case atStart => exact ⟨0, [], _, _, Nat.zero_le _, rfl, HG.out.2.2, (Below.refl _ _).alloc (Nat.le_refl _) _, HG.out.2.1.alloc HG.out.2.1.size _⟩
    case round =>
     obtain ⟨k, vs, LL, UU, hk, rfl, hO, hB, hBW⟩ := hrel
     have hzr := hB.size
     have hzW := hBW.size
     have hGr := HG.out.1.below hB
     have hx : ∀ o, wr.cell? ⟨RB, o, none⟩ = (#[.int .i64 m.c, .int .i64 m.d, .int .i64 m.s, .int .i64 m.e, .int .i64 m.l, .slice a t.length c, .int .i64 (L : Int), .int .i64 most, .int .i64 (r1 : Int), .bool false, .slice fa rl.length fc] : Array Value)[o]? := fun o => by rw [hGr.cell]; rfl
     by_cases hkk : k < rl.length
     ·obtain ⟨vs0, hvs, hvs2⟩ := hGr.own
      obtain ⟨g, cap, e, _, _⟩ := own_some hvs (by show 1 ≤ rl.length; omega)
      obtain ⟨rv, h1, h2⟩ := hvs2 k hkk
      simp only [Value.slice.injEq] at e
      obtain ⟨rfl, _, rfl⟩ := e
      have hcc : wr.cell? ⟨g, k, none⟩ = some rv := by
       have h3 := hvs.cells (g := g) rfl k rv h1
       have hadd : (⟨g, 0, none⟩ : Addr).add k = ⟨g, 0 + k, none⟩ := by unfold Addr.add; split <;> simp_all
       rw [hadd, Nat.zero_add] at h3
       exact h3
      have h2 : V2 _ wr rv (getll rl k) := h2
      have hdk := (H.out.2.2.2.1 _ (getll_mem hkk)).few
      obtain ⟨ra, rc, rfl, _⟩ := h2.form
      have hll := l15Lists_any _ (getll rl k) wr h2 (by omega) (fun j hj => ⟨by have := (hdk.2 j hj).1; omega, (hdk.2 j hj).2⟩)
      have hst : rl.take (k + 1) = rl.take k ++ [getll rl k] := take_getll hkk
      have hlt : (rl.take k).length ≤ 10 := by rw [List.length_take]; omega
      obtain ⟨pre, hpre⟩ : ∃ p, rl.take k = p := ⟨_, rfl⟩
      rw [hpre] at hO hst hlt
      obtain ⟨oa, oc, rfl, _, _⟩ := hO.form
      have HO := Lib.hid (And.intro hO (And.intro hll (And.intro hst (And.intro hB hBW)))); clear hO hll hst hpre hGr h1 h2 hvs hvs2 hdk hB hBW
      go_wp2_with fail
      refine HO.out.2.1.mono ?_
      rintro e' w4 ⟨v4, rfl, ⟨hF4, _⟩, hb4⟩
      obtain ⟨a4, c4, rfl, _⟩ := hF4.v2.form
      have hO4 := HO.out.1.own
      have hown4 := own_keep hO4 hb4
      have hz4 := hb4.size
      have HF4 := Lib.hid (And.intro hF4 hb4); clear hF4 hb4 hO4
      go_wp2_with (at_builtin; refine wp_app1 _ rfl _ _ 73 rfl w3.heap.size 26 (.slice none 0 0) 24 Tryz.underlying73 inf_intss rfl _ _ _ rfl hown4 (.slice a4 (getll rl k).length c4) _ rfl rfl (by omega) (by omega) (by omega) ?_; intro v1 w1 hown1 hgrow1 hblk1 hB1)
      obtain ⟨hP, _⟩ := HO.out.1.push hzr HF4.out.2 HF4.out.1 hown1 hgrow1 hblk1
      go_roundw
      case rel => exact ⟨k + 1, _, _, _, by omega, by go_num, by rw [HO.out.2.2.1]; exact hP, (HO.out.2.2.2.1.trans (HF4.out.2.mono hzr)).trans hB1, (HO.out.2.2.2.2.trans (HF4.out.2.mono hzW)).trans (hB1.mono hz3)⟩
      case measure => simp [intOf]; omega
     ·obtain rfl : k = rl.length := by omega
      rw [List.take_length] at hO
      obtain ⟨oa, oc, rfl, _, _⟩ := hO.form
      have HO := Lib.hid (And.intro hO.old3 hBW); clear hO hGr hB hBW
      go_wp2_with fail
      go_ret2
      exact ⟨_, rfl, HO.out.1, HO.out.2⟩
   ·skip
    go_enter Tryz.func62, Tryz.ntmps62
    go_wp2_with fail
    rw [← hW1]
    refine H.out.1.mono ?_
    rintro e' w2 ⟨rfl, hb2⟩
    have hz2 := hb2.size
    have hx2 : ∀ o, w2.cell? ⟨W.heap.size, o, none⟩ = (#[.int .i64 m.c, .int .i64 m.d, .int .i64 m.s, .int .i64 m.e, .int .i64 m.l, .slice a t.length c] : Array Value)[o]? := fun o => by rw [(bcell hb2).1 _ _ hz01, hc01]
    clear hc01 hh01
    go_wp2_with (go_at_call 103; refine (l01In_b _ _ _ _ _ H.out.2.1).mono ?_; rintro e' w' ⟨rfl, rfl⟩)
    refine (H.out.2.2.1 _ hb2).mono ?_
    rintro e' w3 ⟨RB, fv, rfl, hG, hb3⟩
    have cX9 : w3.cell? ⟨RB, 9, none⟩ = some (.bool true) := by rw [hG.cell]; rfl
    have HF := Lib.hid (hB01.trans ((hb2.trans (hb3.mono hz2)).mono (by omega)))
    clear hG hb3 hx2
    go_wp2_with fail
    go_ret2
    exact ⟨_, rfl, (Out3.nil (B := 0)).old3, HF.out⟩
 ·have hfin : desAns m t most limit = ([], searchC m t [] limit) := by unfold desAns; rw [if_pos hp]
  have e1 : (searchC m t [] limit != 0) = true := by simp [hp]
  have e2 : (searchC m t [] limit == 0) = false := by simp [hp]
  rw [hfin]
  have H := Lib.hid (And.intro hsc hfin); clear hsc hfin hp
  generalize searchC m t [] limit = pc at *
  go_enter Tryz.func62, Tryz.ntmps62
  go_wp2_with fail
  rw [← hW1]
  refine H.out.1.mono ?_
  rintro e' w2 ⟨rfl, hb2⟩
  have hz2 := hb2.size
  have hx2 : ∀ o, w2.cell? ⟨W.heap.size, o, none⟩ = (#[.int .i64 m.c, .int .i64 m.d, .int .i64 m.s, .int .i64 m.e, .int .i64 m.l, .slice a t.length c] : Array Value)[o]? := fun o => by rw [(bcell hb2).1 _ _ hz01, hc01]
  clear hc01 hh01
  clear hx2
  go_wp2_with fail
  go_ret2
  exact ⟨_, rfl, (Out3.nil (B := 0)).old3, hB01.trans (hb2.mono (by omega))⟩
def F3 (B : Nat) (w : World) (v : Value) (ds : List (List (List Int))) : Prop := ∃ vs L U, Out3 B L U w v vs ds
theorem DesignsOf_any {S : Nat → Prop} (m : Mk) (u : Value) (t : List (List Int)) (most limit : Int) (W : World) (h : V2 S W u t) :
  Calls Tryz.prog 61 #[.agg #[.int .i64 m.c, .int .i64 m.d, .int .i64 m.s, .int .i64 m.e, .int .i64 m.l, u], .int .i64 most, .int .i64 limit] W fun e' w' => ∃ v', e' = .returned (.tuple #[v', .int .i64 (desAns m t most limit).2]) ∧ F3 W.heap.size w' v' (desAns m t most limit).1 ∧ Below W.heap.size W w' :=
 (DesignsOf_x m u t most limit W h).mono fun _ _ ⟨⟨v', vs, L, U, h1, h2⟩, h3⟩ => ⟨v', h1, ⟨vs, L, U, h2⟩, h3⟩
end Go.Proofs.YtmaefilliggjiaaGreat
