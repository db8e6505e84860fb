/- A list of lists in memory of one's own, with the blocks named; the visit that gathers the first outsiders of a kind. No conditions. -/
import Derived.Test.YtmjplkbmhdkggaaGreatMShelf0
import Derived.Test.YtmjplkbmhdkggaaGreatMStops
import Derived.Test.YtmjplkbmhdkggaaGreatMEach5
import Derived.Test.YtmjplkbmhdkggaaGreatMRefFirst
import Derived.Test.YtmjplkbmhdkggaaGreatMDraw23
import Derived.Test.YtmjplkbmhdkggaaGreatMGoC
import Derived.Test.YtmjplkbmhdkggaaGreatMRange
import Derived.Test.YtmjplkbmhdkggaaGreatMRefR
import Derived.Test.YtmjplkbmhdkggaaGreatMStay
namespace Go.Proofs.YtmjplkbmhdkggaaGreat
open Go.RowKit
set_option linter.unusedVariables false
set_option linter.unusedSimpArgs false
/-- As Out2, the rows' values and their blocks named. -/
def Out2x (B : Nat) (w : World) (v : Value) (ls : List (List Int)) (vs : List Value) (bk : Nat → Nat) : Prop :=
 w.ownsRow B 44 1 v ls.length vs ∧ (∀ k, k < ls.length → ∃ rv, vs[k]? = some rv ∧ X1 w rv (getl ls k) (bk k)) ∧
  (∀ k, k < ls.length → getl ls k ≠ [] → B ≤ bk k ∧ v.ownBlock ≠ some (bk k) ∧ ∀ j, j < ls.length → j ≠ k → getl ls j ≠ [] → bk j ≠ bk k)
theorem Out2x.out {B : Nat} {w : World} {v : Value} {ls : List (List Int)} {vs : List Value} {bk : Nat → Nat} (h : Out2x B w v ls vs bk) : Out2 B w v ls := ⟨vs, bk, h.1, h.2.1, h.2.2⟩
theorem Out2x.push {B : Nat} {w w2 w1 : World} {v v1 rv : Value} {ls : List (List Int)} {l : List Int} {b : Nat} {vs : List Value} {bk : Nat → Nat}
  (h : Out2x B w v ls vs bk)
  (hB : B ≤ w.heap.size) (hb : Below w.heap.size w w2) (hx : X1 w2 rv l b) (hbn : l ≠ [] → w.heap.size ≤ b)
  (hown : w1.ownsRow B 44 1 v1 (ls.length + 1) (vs ++ [rv])) (hg : w2.grownBy w1 v.ownBlock) (hblk : v1.ownBlock = v.ownBlock ∨ ∃ g, v1.ownBlock = some g ∧ w2.heap.size ≤ g) : Out2x B w1 v1 (ls ++ [l]) (vs ++ [rv]) (fun k => if k < ls.length then bk k else b) := by
 obtain ⟨h1, h2, h3⟩ := h
 have hvl : ∀ g, v.ownBlock = some g → g < w.heap.size := fun g hgg => (h1.lt g hgg).2
 have hxl : ∀ k, k < ls.length → getl ls k ≠ [] → bk k < w.heap.size := fun k hk hn => by
  obtain ⟨rv, _, h⟩ := h2 k hk; exact h.lt hn
 have hne1 : ∀ c, c < w2.heap.size → v.ownBlock ≠ some c → v1.ownBlock ≠ some c := fun c hc hn e => by
  rcases hblk with e1 | ⟨g, e1, hge⟩
  ·exact hn (e1.symm.trans e)
  ·rw [e] at e1; cases e1; omega
 have hvl1 := h1.1
 refine ⟨by simpa using hown, fun k hk => ?_, fun k hk hn => ?_⟩
 ·by_cases hkl : k < ls.length
  ·obtain ⟨rv', h4, h5⟩ := h2 k hkl
   refine ⟨rv', by rw [List.getElem?_append_left (by omega)]; exact h4, ?_⟩
   rw [getl_app1 hkl]
   simp only [hkl, if_true]
   exact h5.keep fun hn => by
    rw [hg.block _ (Nat.lt_of_lt_of_le (hxl k hkl hn) hb.size) (fun e => (h3 k hkl hn).2.1 e.symm), hb.block _ (hxl k hkl hn)]
  ·have e : k = ls.length := by simp at hk; omega
   subst e
   refine ⟨rv, by rw [List.getElem?_append_right (by omega)]; simp [show ls.length - vs.length = 0 by omega], ?_⟩
   rw [getl_app2]
   simp only [Nat.lt_irrefl, if_false]
   exact hx.keep fun hn => hg.block _ (hx.lt hn) (fun e => by have := hvl b e.symm; have := hbn hn; omega)
 ·by_cases hkl : k < ls.length
  ·rw [getl_app1 hkl] at hn
   simp only [hkl, if_true]
   obtain ⟨h4, h5, h6⟩ := h3 k hkl hn
   refine ⟨h4, hne1 _ (Nat.lt_of_lt_of_le (hxl k hkl hn) hb.size) h5, fun j hj hjk hnj => ?_⟩
   by_cases hjl : j < ls.length
   ·rw [getl_app1 hjl] at hnj
    simp only [hjl, if_true]
    exact h6 j hjl hjk hnj
   ·have e : j = ls.length := by simp at hj; omega
    subst e
    rw [getl_app2] at hnj
    simp only [Nat.lt_irrefl, if_false]
    have := hbn hnj; have := hxl k hkl hn; omega
  ·have e : k = ls.length := by simp at hk; omega
   subst e
   rw [getl_app2] at hn
   simp only [Nat.lt_irrefl, if_false]
   refine ⟨by have := hbn hn; omega, hne1 _ (hx.lt hn) (fun e => by have := hvl b e; have := hbn hn; omega), fun j hj hjk hnj => ?_⟩
   have hjl : j < ls.length := by simp at hj; omega
   rw [getl_app1 hjl] at hnj
   simp only [hjl, if_true]
   have := hbn hn; have := hxl j hjl hnj; omega
/-- The blocks that a list of lists stands in, and the one of the cell that holds it. -/
def OutF (OB : Nat) (v : Value) (ls : List (List Int)) (bk : Nat → Nat) (b : Nat) : Prop := b = OB ∨ v.ownBlock = some b ∨ ∃ k, k < ls.length ∧ getl ls k ≠ [] ∧ b = bk k
theorem Out2x.stay {B OB : Nat} {w w' : World} {v : Value} {ls : List (List Int)} {vs : List Value} {bk : Nat → Nat} (h : Out2x B w v ls vs bk) (hk : ∀ b, OutF OB v ls bk b → w'.heap[b]? = w.heap[b]?) : Out2x B w' v ls vs bk := by
 obtain ⟨h1, h2, h3⟩ := h
 refine ⟨⟨h1.1, ?_⟩, fun k hkl => ?_, h3⟩
 ·rcases h1.2 with h0 | ⟨g, cap, cur, rfl, h4, h5, h6⟩
  ·exact .inl h0
  ·exact .inr ⟨g, cap, cur, rfl, h4, by rw [hk g (.inr (.inl rfl))]; exact h5, h6⟩
 ·obtain ⟨rv, h4, h5⟩ := h2 k hkl
  exact ⟨rv, h4, h5.keep fun hn => hk _ (.inr (.inr ⟨k, hkl, hn, rfl⟩))⟩
theorem Out2x.lt {B OB : Nat} {w : World} {v : Value} {ls : List (List Int)} {vs : List Value} {bk : Nat → Nat} (h : Out2x B w v ls vs bk) (ho : OB < w.heap.size) : ∀ b, OutF OB v ls bk b → b < w.heap.size := by
 rintro b (rfl | h1 | ⟨k, h1, h2, rfl⟩)
 ·exact ho
 ·exact (h.1.lt _ h1).2
 ·obtain ⟨rv, _, h5⟩ := h.2.1 k h1
  exact h5.lt h2
/-- The blocks that a list of lists stands in. -/
def OutG (v : Value) (ls : List (List Int)) (bk : Nat → Nat) (b : Nat) : Prop := v.ownBlock = some b ∨ ∃ k, k < ls.length ∧ getl ls k ≠ [] ∧ b = bk k
theorem Out2x.lo {B : Nat} {w w' : World} {v : Value} {ls : List (List Int)} {vs : List Value} {bk : Nat → Nat} (h : Out2x B w v ls vs bk) (hk : ∀ b, OutG v ls bk b → w'.heap[b]? = w.heap[b]?) : Out2x B w' v ls vs bk := by
 obtain ⟨h1, h2, h3⟩ := h
 refine ⟨⟨h1.1, ?_⟩, fun k hkl => ?_, h3⟩
 ·rcases h1.2 with h0 | ⟨g, cap, cur, rfl, h4, h5, h6⟩
  ·exact .inl h0
  ·exact .inr ⟨g, cap, cur, rfl, h4, by rw [hk g (.inl rfl)]; exact h5, h6⟩
 ·obtain ⟨rv, h4, h5⟩ := h2 k hkl
  exact ⟨rv, h4, h5.keep fun hn => hk _ (.inr ⟨k, hkl, hn, rfl⟩)⟩
theorem OutG.push {b3 z : Nat} {v v' : Value} {ls : List (List Int)} {l : List Int} {bk : Nat → Nat} (hblk : v'.ownBlock = v.ownBlock ∨ ∃ g, v'.ownBlock = some g ∧ z ≤ g) (hb3 : l ≠ [] → z ≤ b3) :
  ∀ b, OutG v' (ls ++ [l]) (fun k => if k < ls.length then bk k else b3) b → OutG v ls bk b ∨ z ≤ b := by
 rintro b (h1 | ⟨k, h1, h2, rfl⟩)
 ·rcases hblk with e | ⟨g, e, hz⟩
  ·exact .inl (.inl (e ▸ h1))
  ·rw [e] at h1; cases h1; exact .inr hz
 ·by_cases hk : k < ls.length
  ·rw [getl_app1 hk] at h2
   simp only [hk, if_true]
   exact .inl (.inr ⟨k, hk, h2, rfl⟩)
  ·have e : k = ls.length := by simp at h1; omega
   subst e
   rw [getl_app2] at h2
   simp only [Nat.lt_irrefl, if_false]
   exact .inr (hb3 h2)
theorem stay_nil {n : Nat} {t c : List (List Int)} {k : List Int} (h : stayP n t c k = true) : falseL n t (c ++ [k]) = [] := by
 unfold stayP openP at h
 exact List.eq_nil_of_length_eq_zero (of_decide_eq_true h)
/-- x holds what has been noted. -/
def Agr (x : List (Int × Int)) (s : RSt) : Prop := s.2 <+: x ∧ s.2.length = s.1
theorem Agr.get {x : List (Int × Int)} {s : RSt} {g : Int × Int} {r : List (Int × Int)} (h : s.2 ++ [g] <+: r) (hr : r <+: x) (hs : s.2.length = s.1) : gets x s.1 = g ∧ s.1 < x.length := by
 obtain ⟨u, hu⟩ := h.trans hr
 rw [← hu]
 refine ⟨?_, by simp; omega⟩
 unfold gets
 rw [List.getD_eq_getElem?_getD, List.append_assoc, List.getElem?_append_right (by omega)]
 simp [hs]
/-- What has been noted is open where the steps are. -/
def OpenAs (steps : List (Int × Int)) (s : RSt) : Prop := s.2.length = s.1 ∧ ∀ i, i < s.2.length → openS (gets s.2 i) = openS (gets steps i)
theorem gets_app1 {a b : List (Int × Int)} {i : Nat} (h : i < a.length) : gets (a ++ b) i = gets a i := by simp [gets, List.getElem?_append_left h]
theorem gets_last {a : List (Int × Int)} {x : Int × Int} : gets (a ++ [x]) a.length = x := by simp [gets]
theorem OpenAs.snoc {steps : List (Int × Int)} {s : RSt} {g : Int × Int} (h : OpenAs steps s) (hg : openS g = openS (gets steps s.1)) : OpenAs steps (s.1 + 1, s.2 ++ [g]) := by
 refine ⟨by simp [h.1], fun i hi => ?_⟩
 by_cases hl : i < s.2.length
 ·rw [gets_app1 hl]; exact h.2 i hl
 ·have e : i = s.2.length := by simp at hi; omega
  subst e
  rw [gets_last, hg, h.1]
/-! ### What has been read as a refutation holds no design -/
theorem step_none {n : Nat} {t keys : List (List Int)} {steps : List (Int × Int)} {limit : Nat} {most : Int} {d : Nat} {cuts : List (List Int)} {s : RSt} {q : DSt} {k : List Int}
  (ih : ∀ (cuts : List (List Int)) (s s' : RSt) (q : DSt), readF n t keys steps d cuts s = (s', true) → (goF limit (stayP n t) (visK most) keys d cuts q).1.2.2 = q.2.2) (hk : (rdStep n t steps (readF n t keys steps d) cuts s k).2 = true) :
  (goStep limit (stayP n t) (goF limit (stayP n t) (visK most) keys d) cuts q k).1.2.2 = q.2.2 := by
 unfold goStep
 split
 ·rfl
 ·split
  ·rename_i hst
   unfold rdStep at hk
   split at hk
   ·cases hk
   ·split at hk
    ·split at hk
     ·exact ih (cuts ++ [k]) (s.1 + 1, s.2 ++ [gets steps s.1]) _ (q.1 + 1, q.2.1, q.2.2) (Prod.ext rfl hk)
     ·cases hk
    ·split at hk
     ·rename_i hh
      rw [stay_nil hst] at hh; cases hh
     ·cases hk
  ·rfl
theorem read_none {n : Nat} {t keys : List (List Int)} {steps : List (Int × Int)} {limit : Nat} {most : Int} : ∀ (d : Nat) (cuts : List (List Int)) (s s' : RSt) (q : DSt), readF n t keys steps d cuts s = (s', true) → (goF limit (stayP n t) (visK most) keys d cuts q).1.2.2 = q.2.2
 | 0, _, _, _, _, h => by cases h
 | d + 1, cuts, s, s', q, h => by
   have ih := read_none (n := n) (t := t) (keys := keys) (steps := steps) (limit := limit) (most := most) d
   have go : ∀ (l : List (List Int)) (s s' : RSt) (q : DSt), runL (rdStep n t steps (readF n t keys steps d) cuts) s l = (s', true) → (runL (goStep limit (stayP n t) (goF limit (stayP n t) (visK most) keys d) cuts) q l).1.2.2 = q.2.2 := by
    intro l
    induction l with
    | nil => intro s s' q _; rfl
    | cons k l ihl =>
      intro s s' q h
      unfold runL at h ⊢
      by_cases hk : (rdStep n t steps (readF n t keys steps d) cuts s k).2 = true
      ·rw [if_pos hk] at h
       have h1 := step_none (limit := limit) (most := most) (q := q) ih hk
       split
       ·rw [ihl _ _ _ h, h1]
       ·exact h1
      ·rw [if_neg hk] at h; cases h
   exact go keys s s' q h
theorem isref_none {m : Mk} {t : List (List Int)} {steps : List (Int × Int)} {limit : Int} (h : refAns m t steps = true) : (findAns m t [] limit).2.2 ≠ 0 := by
 obtain ⟨_, _, h1, _⟩ := refAns_len h
 unfold findAns
 split
 ·rename_i h0; exact h0
 ·have h2 := read_none (limit := limit.toNat) (most := 1) t.length [] (0, []) _ (0, false, []) (show readF m.c.toNat t (keysOf m) steps t.length [] (0, []) = (_, true) from Prod.ext rfl h1)
  have h3 : (firstF m.c.toNat t (keysOf m) [] 1 limit.toNat).2.2 = [] := by unfold firstF; rw [if_pos (by omega)]; exact h2
  unfold pickA
  rw [h3]
  show (if _ then _ else _ : List (List Int) × Int × Int).2.2 ≠ 0
  split <;> decide
/-! ### The search that refutes is the search that finds -/
theorem stay_open {n : Nat} {t cuts : List (List Int)} {k : List Int} : (0 < (falseL n t (cuts ++ [k])).length → stayP n t cuts k = false) ∧ (¬ 0 < (falseL n t (cuts ++ [k])).length → stayP n t cuts k = true) :=
 ⟨fun h => decide_eq_false (by omega), fun h => decide_eq_true (by omega)⟩
theorem rfF_zeroG {τ : Type} {vis : τ → List (List Int) → τ × Bool} {n limit : Nat} {t keys : List (List Int)} : ∀ (d : Nat) (cuts : List (List Int)) (l l' : List (Int × Int)) (q a : Nat) (F : τ), cuts.length + (d + 1) = t.length → rfF n t keys (d + 1) cuts l = (l', 0) → l'.length = l.length + a → q + a ≤ limit →
  goF limit (stayP n t) vis keys (d + 1) cuts (q, false, F) = ((q + a, false, F), true) := by
 intro d
 induction d using Nat.strongRecOn with
 | _ d ihd =>
   intro cuts l l' q a F hc h hl hq
   have go : ∀ (ks : List (List Int)) (l : List (Int × Int)) (q a : Nat) (b : Bool), runL (rfStep n t (rfF n t keys d) cuts) (l, 0) ks = ((l', 0), b) → l'.length = l.length + a → q + a ≤ limit →
     runL (goStep limit (stayP n t) (goF limit (stayP n t) vis keys d) cuts) (q, false, F) ks = ((q + a, false, F), true) := by
    intro ks
    induction ks with
    | nil =>
      intro l q a b h hl hq
      injection h with h1 _
      injection h1 with h1 _
      subst h1
      have : a = 0 := by omega
      subst this; rfl
    | cons k ks ih =>
      intro l q a b h hl hq
      have hlen := fun (s : FSt) => runL_len (n := n) (t := t) (cuts := cuts) (rec := rfF n t keys d) (fun c l => rfF_len d c l) ks s
      unfold runL rfStep at h
      by_cases h1 : l.length = 1200
      ·rw [if_pos (show (l, (0 : Int)).1.length = 1200 from h1)] at h
       cases h
      ·rw [if_neg (show ¬ (l, (0 : Int)).1.length = 1200 from h1)] at h
       by_cases h2 : 0 < (falseL n t (cuts ++ [k])).length
       ·rw [if_pos h2, if_pos rfl] at h
        have h3 := hlen (l ++ [firstStep (falseL n t (cuts ++ [k]))], 0)
        have e3 : (runL (rfStep n t (rfF n t keys d) cuts) (l ++ [firstStep (falseL n t (cuts ++ [k]))], 0) ks).1.1 = l' := by
         have := congrArg (fun x => x.1.1) h; exact this
        rw [e3] at h3
        simp only [List.length_append, List.length_cons, List.length_nil] at h3
        have hst : goStep limit (stayP n t) (goF limit (stayP n t) vis keys d) cuts (q, false, F) k = ((q + 1, false, F), true) := by
         unfold goStep
         rw [if_neg (by show ¬ q = limit; omega), if_neg (by rw [stay_open.1 h2]; decide)]
        unfold runL
        rw [hst, if_pos rfl, ih _ (q + 1) (a - 1) b h (by simp only [List.length_append, List.length_cons, List.length_nil]; omega) (by omega)]
        rw [show q + 1 + (a - 1) = q + a from by omega]
       ·rw [if_neg h2] at h
        by_cases h4 : cuts.length + 1 = t.length
        ·rw [if_pos h4] at h; cases h
        ·rw [if_neg h4] at h
         obtain ⟨R, hR⟩ : ∃ R, rfF n t keys d (cuts ++ [k]) (l ++ [(-1, 0)]) = R := ⟨_, rfl⟩
         have h5 := rfF_len (n := n) (t := t) (keys := keys) d (cuts ++ [k]) (l ++ [(-1, 0)])
         simp only [hR] at h
         rw [hR, List.length_append] at h5
         simp only [List.length_cons, List.length_nil] at h5
         by_cases h6 : R.2 = 0
         ·rw [if_pos (decide_eq_true h6)] at h
          have eR : R = (R.1, 0) := Prod.ext rfl h6
          have h3 := hlen R
          have e3 : (runL (rfStep n t (rfF n t keys d) cuts) R ks).1.1 = l' := by
           have := congrArg (fun x => x.1.1) h; exact this
          rw [e3] at h3
          obtain ⟨d', rfl⟩ : ∃ d', d = d' + 1 := ⟨d - 1, by omega⟩
          have hin := ihd d' (by omega) (cuts ++ [k]) (l ++ [(-1, 0)]) R.1 (q + 1) (R.1.length - (l.length + 1)) F (by rw [List.length_append]; simp only [List.length_cons, List.length_nil]; omega) (by rw [hR]; exact eR) (by rw [List.length_append]; simp only [List.length_cons, List.length_nil]; omega) (by omega)
          have hst : goStep limit (stayP n t) (goF limit (stayP n t) vis keys (d' + 1)) cuts (q, false, F) k = ((q + 1 + (R.1.length - (l.length + 1)), false, F), true) := by
           unfold goStep
           rw [if_neg (by show ¬ q = limit; omega), if_pos (stay_open.2 h2)]
           exact hin
          unfold runL
          rw [hst, if_pos rfl, ih R.1 _ (l'.length - R.1.length) b (by rw [← eR]; exact h) (by omega) (by omega)]
          rw [show q + 1 + (R.1.length - (l.length + 1)) + (l'.length - R.1.length) = q + a from by omega]
         ·rw [if_neg (by rw [decide_eq_false h6]; decide)] at h
          exact absurd (congrArg (fun x => x.1.2) h) h6
   have h' : (runL (rfStep n t (rfF n t keys d) cuts) (l, 0) keys).1 = (l', 0) := h
   exact go keys l q a _ (Prod.ext h' rfl) hl hq
theorem rfF_five {n limit : Nat} {t keys : List (List Int)} : ∀ (d : Nat) (cuts : List (List Int)) (l l' : List (Int × Int)) (q a : Nat), cuts.length + (d + 1) = t.length → rfF n t keys (d + 1) cuts l = (l', 5) → l'.length = l.length + a → q + a + 1 ≤ limit →
  ∃ r : DSt, goF limit (stayP n t) (visK 1) keys (d + 1) cuts (q, false, []) = (r, false) ∧ r.2.2 ≠ [] := by
 intro d
 induction d using Nat.strongRecOn with
 | _ d ihd =>
   intro cuts l l' q a hc h hl hq
   have go : ∀ (ks : List (List Int)) (l : List (Int × Int)) (q a : Nat) (b : Bool), runL (rfStep n t (rfF n t keys d) cuts) (l, 0) ks = ((l', 5), b) → l'.length = l.length + a → q + a + 1 ≤ limit →
     ∃ r : DSt, runL (goStep limit (stayP n t) (goF limit (stayP n t) (visK 1) keys d) cuts) (q, false, []) ks = (r, false) ∧ r.2.2 ≠ [] := by
    intro ks
    induction ks with
    | nil => intro l q a b h hl hq; cases h
    | cons k ks ih =>
      intro l q a b h hl hq
      have hlen := fun (s : FSt) => runL_len (n := n) (t := t) (cuts := cuts) (rec := rfF n t keys d) (fun c l => rfF_len d c l) ks s
      unfold runL rfStep at h
      by_cases h1 : l.length = 1200
      ·rw [if_pos (show (l, (0 : Int)).1.length = 1200 from h1)] at h
       cases h
      ·rw [if_neg (show ¬ (l, (0 : Int)).1.length = 1200 from h1)] at h
       by_cases h2 : 0 < (falseL n t (cuts ++ [k])).length
       ·rw [if_pos h2, if_pos rfl] at h
        have h3 := hlen (l ++ [firstStep (falseL n t (cuts ++ [k]))], 0)
        have e3 : (runL (rfStep n t (rfF n t keys d) cuts) (l ++ [firstStep (falseL n t (cuts ++ [k]))], 0) ks).1.1 = l' := by
         have := congrArg (fun x => x.1.1) h; exact this
        rw [e3] at h3
        simp only [List.length_append, List.length_cons, List.length_nil] at h3
        have hst : goStep limit (stayP n t) (goF limit (stayP n t) (visK 1) keys d) cuts (q, false, []) k = ((q + 1, false, []), true) := by
         unfold goStep
         rw [if_neg (by show ¬ q = limit; omega), if_neg (by rw [stay_open.1 h2]; decide)]
        unfold runL
        rw [hst, if_pos rfl]
        exact ih _ (q + 1) (a - 1) b h (by simp only [List.length_append, List.length_cons, List.length_nil]; omega) (by omega)
       ·rw [if_neg h2] at h
        by_cases h4 : cuts.length + 1 = t.length
        ·have hd0 : d = 0 := by omega
         subst hd0
         have hst : goStep limit (stayP n t) (goF limit (stayP n t) (visK 1) keys 0) cuts (q, false, []) k = ((q + 1, false, [cuts ++ [k]]), false) := by
          unfold goStep
          rw [if_neg (by show ¬ q = limit; omega), if_pos (stay_open.2 h2)]
          rfl
         unfold runL
         rw [hst, if_neg (by simp)]
         exact ⟨_, rfl, List.cons_ne_nil _ _⟩
        ·rw [if_neg h4] at h
         obtain ⟨R, hR⟩ : ∃ R, rfF n t keys d (cuts ++ [k]) (l ++ [(-1, 0)]) = R := ⟨_, rfl⟩
         have h5 := rfF_len (n := n) (t := t) (keys := keys) d (cuts ++ [k]) (l ++ [(-1, 0)])
         simp only [hR] at h
         rw [hR, List.length_append] at h5
         simp only [List.length_cons, List.length_nil] at h5
         obtain ⟨d', rfl⟩ : ∃ d', d = d' + 1 := ⟨d - 1, by omega⟩
         by_cases h6 : R.2 = 0
         ·rw [if_pos (decide_eq_true h6)] at h
          have eR : R = (R.1, 0) := Prod.ext rfl h6
          have h3 := hlen R
          have e3 : (runL (rfStep n t (rfF n t keys (d' + 1)) cuts) R ks).1.1 = l' := by
           have := congrArg (fun x => x.1.1) h; exact this
          rw [e3] at h3
          have hin := rfF_zeroG (n := n) (t := t) (keys := keys) (vis := visK 1) (limit := limit) d' (cuts ++ [k]) (l ++ [(-1, 0)]) R.1 (q + 1) (R.1.length - (l.length + 1)) [] (by rw [List.length_append]; simp only [List.length_cons, List.length_nil]; omega) (by rw [hR]; exact eR) (by rw [List.length_append]; simp only [List.length_cons, List.length_nil]; omega) (by omega)
          have hst : goStep limit (stayP n t) (goF limit (stayP n t) (visK 1) keys (d' + 1)) cuts (q, false, []) k = ((q + 1 + (R.1.length - (l.length + 1)), false, []), true) := by
           unfold goStep
           rw [if_neg (by show ¬ q = limit; omega), if_pos (stay_open.2 h2)]
           exact hin
          unfold runL
          rw [hst, if_pos rfl]
          exact ih R.1 _ (l'.length - R.1.length) b (by rw [← eR]; exact h) (by omega) (by omega)
         ·rw [if_neg (by rw [decide_eq_false h6]; decide)] at h
          have eR : R = (l', 5) := congrArg Prod.fst h
          have h5' : l.length + 1 ≤ l'.length := by have h6 := h5; rw [eR] at h6; exact h6
          have hin := ihd d' (by omega) (cuts ++ [k]) (l ++ [(-1, 0)]) l' (q + 1) (l'.length - (l.length + 1)) (by rw [List.length_append]; simp only [List.length_cons, List.length_nil]; omega) (by rw [hR]; exact eR) (by rw [List.length_append]; simp only [List.length_cons, List.length_nil]; omega) (by omega)
          obtain ⟨r, hr1, hr2⟩ := hin
          have hst : goStep limit (stayP n t) (goF limit (stayP n t) (visK 1) keys (d' + 1)) cuts (q, false, []) k = (r, false) := by
           unfold goStep
           rw [if_neg (by show ¬ q = limit; omega), if_pos (stay_open.2 h2)]
           exact hr1
          unfold runL
          rw [hst, if_neg (by simp)]
          exact ⟨r, rfl, hr2⟩
   have h' : (runL (rfStep n t (rfF n t keys d) cuts) (l, 0) keys).1 = (l', 5) := h
   exact go keys l q a _ (Prod.ext h' rfl) hl hq
/-! ### The search refutation is read to its end -/
theorem rf_ext {n : Nat} {t keys : List (List Int)} : ∀ {d : Nat} {cuts : List (List Int)} {l : List (Int × Int)}, l <+: (rfF n t keys d cuts l).1
 | 0, _, l => List.prefix_refl _
 | d + 1, cuts, l => runL_inv (P := fun z : FSt => l <+: z.1) (fun z k hz => by
     unfold rfStep
     split
     ·exact hz
     ·split
      ·exact hz.trans (List.prefix_append _ _)
      ·split
       ·exact hz
       ·exact hz.trans ((List.prefix_append z.1 [(-1, 0)]).trans (rf_ext (d := d)))) keys (l, 0) (List.prefix_refl _)
theorem rf_run_ext {n : Nat} {t keys : List (List Int)} {d : Nat} {cuts : List (List Int)} (ks : List (List Int)) (s : FSt) : s.1 <+: (runL (rfStep n t (rfF n t keys d) cuts) s ks).1.1 :=
 runL_inv (P := fun z : FSt => s.1 <+: z.1) (fun z k hz => by
   unfold rfStep
   split
   ·exact hz
   ·split
    ·exact hz.trans (List.prefix_append _ _)
    ·split
     ·exact hz
     ·exact hz.trans ((List.prefix_append z.1 [(-1, 0)]).trans (rf_ext (d := d)))) ks s (List.prefix_refl _)
theorem first_false {n : Nat} {t cuts : List (List Int)} (hne : 0 < (falseL n t cuts).length) : openS (firstStep (falseL n t cuts)) = false ∧ hasL (falseL n t cuts) [(firstStep (falseL n t cuts)).1, (firstStep (falseL n t cuts)).2] = true := by
 obtain ⟨i, d, _, _, he, _, _⟩ := falseL_get hne
 have e : firstStep (falseL n t cuts) = ((i : Int), (d : Int)) := by unfold firstStep; rw [he]; rfl
 refine ⟨?_, ?_⟩
 ·rw [e]; unfold openS; simp
 ·rw [e, hasL_iff]
  show [(i : Int), (d : Int)] ∈ _
  rw [← he]; exact getl_mem hne
theorem rf_read {n : Nat} {t keys : List (List Int)} {x : List (Int × Int)} : ∀ (d : Nat) (cuts : List (List Int)) (l l' : List (Int × Int)) (g : List (Int × Int)), cuts.length + (d + 1) = t.length → rfF n t keys (d + 1) cuts l = (l', 0) → l' <+: x →
  ∃ g', readF n t keys x (d + 1) cuts (l.length, g) = ((l'.length, g'), true) := by
 intro d
 induction d using Nat.strongRecOn with
 | _ d ihd =>
   intro cuts l l' g hc h hx
   have go : ∀ (ks : List (List Int)) (l : List (Int × Int)) (g : List (Int × Int)) (b : Bool), runL (rfStep n t (rfF n t keys d) cuts) (l, 0) ks = ((l', 0), b) →
     ∃ g', runL (rdStep n t x (readF n t keys x d) cuts) (l.length, g) ks = ((l'.length, g'), true) := by
    intro ks
    induction ks with
    | nil =>
      intro l g b h
      injection h with h1 _
      injection h1 with h1 _
      subst h1
      exact ⟨g, rfl⟩
    | cons k ks ih =>
      intro l g b h
      have hlen := fun (s : FSt) => rf_run_ext (n := n) (t := t) (keys := keys) (d := d) (cuts := cuts) ks s
      unfold runL rfStep at h
      by_cases h1 : l.length = 1200
      ·rw [if_pos (show (l, (0 : Int)).1.length = 1200 from h1)] at h
       cases h
      ·rw [if_neg (show ¬ (l, (0 : Int)).1.length = 1200 from h1)] at h
       by_cases h2 : 0 < (falseL n t (cuts ++ [k])).length
       ·rw [if_pos h2, if_pos rfl] at h
        have h3 := hlen (l ++ [firstStep (falseL n t (cuts ++ [k]))], 0)
        have e3 : (runL (rfStep n t (rfF n t keys d) cuts) (l ++ [firstStep (falseL n t (cuts ++ [k]))], 0) ks).1.1 = l' := by
         have := congrArg (fun x => x.1.1) h; exact this
        rw [e3] at h3
        obtain ⟨hg, hlt⟩ := Agr.get (s := (l.length, l)) (g := firstStep (falseL n t (cuts ++ [k]))) h3 hx rfl
        dsimp only at hg hlt
        obtain ⟨f1, f2⟩ := first_false h2
        have hst : rdStep n t x (readF n t keys x d) cuts (l.length, g) k = ((l.length + 1, g ++ [lastStep (falseL n t (cuts ++ [k]))]), true) := by
         unfold rdStep
         dsimp only
         rw [hg, if_neg (by omega), if_neg (by rw [f1]; decide), if_pos f2]
        obtain ⟨g', hg'⟩ := ih _ (g ++ [lastStep (falseL n t (cuts ++ [k]))]) b h
        rw [List.length_append] at hg'
        refine ⟨g', ?_⟩
        unfold runL
        rw [hst, if_pos rfl]
        exact hg'
       ·rw [if_neg h2] at h
        by_cases h4 : cuts.length + 1 = t.length
        ·rw [if_pos h4] at h; cases h
        ·rw [if_neg h4] at h
         obtain ⟨R, hR⟩ : ∃ R, rfF n t keys d (cuts ++ [k]) (l ++ [(-1, 0)]) = R := ⟨_, rfl⟩
         have h5 := rf_ext (n := n) (t := t) (keys := keys) (d := d) (cuts := cuts ++ [k]) (l := l ++ [(-1, 0)])
         simp only [hR] at h
         rw [hR] at h5
         by_cases h6 : R.2 = 0
         ·rw [if_pos (decide_eq_true h6)] at h
          have eR : R = (R.1, 0) := Prod.ext rfl h6
          have h3 := hlen R
          have e3 : (runL (rfStep n t (rfF n t keys d) cuts) R ks).1.1 = l' := by
           have := congrArg (fun x => x.1.1) h; exact this
          rw [e3] at h3
          obtain ⟨d', rfl⟩ : ∃ d', d = d' + 1 := ⟨d - 1, by omega⟩
          obtain ⟨hg, hlt⟩ := Agr.get (s := (l.length, l)) (g := (-1, 0)) h5 (h3.trans hx) rfl
          dsimp only at hg hlt
          obtain ⟨g1, hg1⟩ := ihd d' (by omega) (cuts ++ [k]) (l ++ [(-1, 0)]) R.1 (g ++ [(-1, 0)]) (by rw [List.length_append]; simp only [List.length_cons, List.length_nil]; omega) (by rw [hR]; exact eR) (h3.trans hx)
          rw [List.length_append] at hg1
          have hst : rdStep n t x (readF n t keys x (d' + 1)) cuts (l.length, g) k = ((R.1.length, g1), true) := by
           unfold rdStep
           dsimp only
           rw [hg, if_neg (by omega), if_pos (by decide), if_pos (by omega)]
           exact hg1
          obtain ⟨g', hg'⟩ := ih R.1 g1 b (by rw [← eR]; exact h)
          refine ⟨g', ?_⟩
          unfold runL
          rw [hst, if_pos rfl]
          exact hg'
         ·rw [if_neg (by rw [decide_eq_false h6]; decide)] at h
          exact absurd (congrArg (fun x => x.1.2) h) h6
   have h' : (runL (rfStep n t (rfF n t keys d) cuts) (l, 0) keys).1 = (l', 0) := h
   exact go keys l g _ (Prod.ext h' rfl)
/-! ### The law -/
theorem search_ok {m : Mk} {t : List (List Int)} (hy : isSys m t = true) : searchC m t [] 4000 = 0 := searchC_ok.2 ⟨PartOk.nil hy, by omega, falseL_none⟩
theorem refute_ok {m : Mk} {t : List (List Int)} {x : List (Int × Int)} (h : refuteAns m t = (x, 0)) : refAns m t x = true ∧ triesAns m t 4000 = ((x.length : Int), 0) ∧ hasAns m t 4000 = (false, 0) := by
 cases hy : isSys m t
 ·unfold refuteAns at h; rw [if_pos hy] at h; cases h
 ·have hrow : 1 ≤ t.length := (PartOk.nil hy).fits.rows.1
  obtain ⟨d, hd⟩ : ∃ d, t.length = d + 1 := ⟨t.length - 1, by omega⟩
  have hrf : rfF m.c.toNat t (keysOf m) (d + 1) [] [] = (x, 0) := by
   unfold refuteAns at h
   rw [if_neg (by rw [hy]; decide), hd] at h
   by_cases h0 : (rfF m.c.toNat t (keysOf m) (d + 1) [] []).2 = 0
   ·rw [if_pos h0] at h
    exact Prod.ext (by have := congrArg Prod.fst h; exact this) h0
   ·rw [if_neg h0] at h
    exact absurd (congrArg Prod.snd h) h0
  have hlen : x.length ≤ 1200 := by
   have := (rfF_ok (n := m.c.toNat) (t := t) (keys := keysOf m) (d := d + 1) (cuts := []) (l := []) (by simp)).1
   rw [hrf] at this; exact this
  obtain ⟨g', hg'⟩ := rf_read (x := x) d [] [] x [] (by simp only [List.length_nil]; omega) hrf (List.prefix_refl _)
  refine ⟨?_, ?_, ?_⟩
  ·unfold refAns
   have hr : rdRes m t x = ((x.length, g'), true) := by unfold rdRes; rw [hd]; exact hg'
   rw [if_neg (by rw [hy]; decide), if_neg (by omega), hr]
   simp
  ·have hz := rfF_zeroG (vis := visC) (limit := 4000) d [] [] x 0 x.length 0 (by simp only [List.length_nil]; omega) hrf (by simp) (by omega)
   have hc : cntF m t 4000 = (x.length, false, 0) := by unfold cntF; rw [hd, hz, Nat.zero_add]
   unfold triesAns
   rw [if_neg (by rw [search_ok hy]; simp), show (4000 : Int).toNat = 4000 from rfl, hc]
   rfl
  ·have hz := rfF_zeroG (vis := visK 1) (limit := 4000) d [] [] x 0 x.length [] (by simp only [List.length_nil]; omega) hrf (by simp) (by omega)
   have hc : firstF m.c.toNat t (keysOf m) [] 1 4000 = (x.length, false, []) := by
    unfold firstF
    rw [if_pos (by omega), show t.length - ([] : List (List Int)).length = d + 1 from by simp only [List.length_nil]; omega, hz, Nat.zero_add]
   have hf : findAns m t [] 4000 = ([], 0, 4) := by
    unfold findAns
    rw [if_neg (by rw [search_ok hy]; simp), show (4000 : Int).toNat = 4000 from rfl, hc]
    rfl
   unfold hasAns
   rw [hf]; rfl
theorem refute_state {m : Mk} {t : List (List Int)} (h : (refuteAns m t).2 = 5) : (findAns m t [] 4000).2.2 = 0 := by
 cases hy : isSys m t
 ·unfold refuteAns at h; rw [if_pos hy] at h; cases h
 ·have hrow : 1 ≤ t.length := (PartOk.nil hy).fits.rows.1
  obtain ⟨d, hd⟩ : ∃ d, t.length = d + 1 := ⟨t.length - 1, by omega⟩
  have hrf : (rfF m.c.toNat t (keysOf m) (d + 1) [] []).2 = 5 := by
   unfold refuteAns at h
   rw [if_neg (by rw [hy]; decide), hd] at h
   by_cases h0 : (rfF m.c.toNat t (keysOf m) (d + 1) [] []).2 = 0
   ·rw [if_pos h0] at h; cases h
   ·rw [if_neg h0] at h; exact h
  obtain ⟨x, hx⟩ : ∃ x, (rfF m.c.toNat t (keysOf m) (d + 1) [] []).1 = x := ⟨_, rfl⟩
  have hlen := (rfF_ok (n := m.c.toNat) (t := t) (keys := keysOf m) (d := d + 1) (cuts := []) (l := []) (by simp)).1
  rw [hx] at hlen
  obtain ⟨r, hr, hrn⟩ := rfF_five (limit := 4000) d [] [] x 0 x.length (by simp only [List.length_nil]; omega) (Prod.ext hx hrf) (by simp) (by omega)
  have hc : firstF m.c.toNat t (keysOf m) [] 1 4000 = r := by
   unfold firstF
   rw [if_pos (by omega), show t.length - ([] : List (List Int)).length = d + 1 from by simp only [List.length_nil]; omega, hr]
  unfold findAns
  rw [if_neg (by rw [search_ok hy]; simp), show (4000 : Int).toNat = 4000 from rfl, hc]
  unfold pickA
  split
  ·rfl
  ·rename_i h1; exact absurd h1 hrn
set_option maxRecDepth 100000 in
set_option maxHeartbeats 1000000 in
theorem FindDesign_any {S : Nat → Prop} (m : Mk) (u : Value) (t : List (List Int)) (limit : Int) (W : World) (h : V2 S W u t) :
  Calls Tryz.prog 41 #[.agg #[.int .i64 m.c, .int .i64 m.d, .int .i64 m.s, .int .i64 m.e, .int .i64 m.l, u], .int .i64 limit] W fun e' w' => ∃ v', e' = .returned (.tuple #[v', .int .i64 (findAns m t [] limit).2.1, .int .i64 (findAns m t [] limit).2.2]) ∧ F2 W.heap.size w' v' (findAns m t [] limit).1 ∧ Below W.heap.size W w' := by
 obtain ⟨a, c, rfl, hmx⟩ := h.form
 obtain ⟨W1, hW1, hB01, hz01, HZ01, hc01, hh01⟩ := box_facts W #[.int .i64 m.c, .int .i64 m.d, .int .i64 m.s, .int .i64 m.e, .int .i64 m.l, .slice a t.length c] 33
 have hV1 : V2 (fun _ => True) W1 (.slice a t.length c) t := (h.below hB01).any
 have hfd := FindFrom_any m (.slice a t.length c) (.slice none 0 0) t [] limit W1 hV1 (S' := fun _ => True) ⟨none, 0, rfl, Nat.le_refl _, Nat.zero_le _, fun k hk => by simp at hk⟩ (fun _ => .inl rfl)
 obtain ⟨A, hA⟩ : ∃ A, findAns m t [] limit = A := ⟨_, rfl⟩
 rw [hA] at hfd ⊢
 have H := Lib.hid (And.intro hfd hB01); clear hfd hA hV1
 go_enter Tryz.func41, Tryz.ntmps41
 go_wp2_with fail
 rw [← hW1]
 refine H.out.1.mono ?_
 rintro e' w2 ⟨v', rfl, hF, hb⟩
 obtain ⟨ra, rc, rfl, _⟩ := hF.v2.form
 have HF := Lib.hid (And.intro (hF.mono (show W.heap.size ≤ W1.heap.size by omega)) (H.out.2.trans (hb.mono (by omega)))); clear hF hb
 go_wp2_with fail
 go_ret3
 exact ⟨_, rfl, HF.out.1, HF.out.2⟩
set_option maxRecDepth 100000 in
set_option maxHeartbeats 1000000 in
theorem HasDesign_any {S : Nat → Prop} (m : Mk) (u : Value) (t : List (List Int)) (limit : Int) (W : World) (h : V2 S W u t) :
  Calls Tryz.prog 43 #[.agg #[.int .i64 m.c, .int .i64 m.d, .int .i64 m.s, .int .i64 m.e, .int .i64 m.l, u], .int .i64 limit] W fun e' w' => e' = .returned (.tuple #[.bool (hasAns m t limit).1, .int .i64 (hasAns m t limit).2]) ∧ Below W.heap.size W w' := by
 obtain ⟨a, c, rfl, hmx⟩ := h.form
 obtain ⟨W1, hW1, hB01, hz01, HZ01, hc01, hh01⟩ := box_facts W #[.int .i64 m.c, .int .i64 m.d, .int .i64 m.s, .int .i64 m.e, .int .i64 m.l, .slice a t.length c] 33
 have hV1 : V2 (fun _ => True) W1 (.slice a t.length c) t := (h.below hB01).any
 have hfd := FindDesign_any m (.slice a t.length c) t limit W1 hV1
 have hfin : hasAns m t limit = if (findAns m t [] limit).2.2 = 4 then (false, 0) else (decide ((findAns m t [] limit).2.2 = 0), (findAns m t [] limit).2.2) := rfl
 rw [hfin]
 obtain ⟨A, hA⟩ : ∃ A, findAns m t [] limit = A := ⟨_, rfl⟩
 rw [hA] at hfd ⊢
 obtain ⟨a1, a2, a3⟩ := A
 have H := Lib.hid (And.intro hfd hB01); clear hfd hA hV1 hfin
 dsimp only
 by_cases h4 : a3 = 4
 ·subst h4
  rw [if_pos rfl]
  go_enter Tryz.func43, Tryz.ntmps43
  go_wp2_with fail
  rw [← hW1]
  refine H.out.1.mono ?_
  rintro e' w2 ⟨v', rfl, hF, hb⟩
  have HF := Lib.hid (H.out.2.trans (hb.mono (by omega))); clear hF hb
  go_wp2_with fail
  go_ret2
  exact ⟨rfl, HF.out⟩
 ·rw [if_neg h4]
  have h4d : (a3 == 4) = false := by simp [h4]
  obtain ⟨r, hr⟩ : ∃ r, decide (a3 = 0) = r := ⟨_, rfl⟩
  have hr2 : (a3 == 0) = r := by rw [← hr]; simp [Bool.beq_eq_decide_eq]
  rw [hr]
  clear hr
  go_enter Tryz.func43, Tryz.ntmps43
  go_wp2_with fail
  rw [← hW1]
  refine H.out.1.mono ?_
  rintro e' w2 ⟨v', rfl, hF, hb⟩
  have HF := Lib.hid (H.out.2.trans (hb.mono (by omega))); clear hF hb
  go_wp2_with fail
  go_ret2
  exact ⟨rfl, HF.out⟩
/-- What is counted, and where. -/
def CtInv (CB : Nat) (c : Int) (F : Nat → Prop) (w : World) : Prop := (∀ b, F b ↔ b = CB) ∧ w.heap[CB]? = some (.cells #[.int .i64 c] 2 (0, 0))
theorem enters_ct : Enters 161 := fun args w => by kernel_rfl
set_option maxRecDepth 100000 in
theorem ct1_any (v : Value) (CB : Nat) (c : Int) (w : World) (hl : w.heap[CB]? = some (.cells #[.int .i64 c] 2 (0, 0))) :
  Calls Tryz.prog 161 #[v, .pointer (some ⟨CB, 0, none⟩)] w fun e w' => e = .returned (.bool true) ∧ w'.heap[CB]? = some (.cells #[.int .i64 (wrap64 (c + 1))] 2 (0, 0)) ∧ Chg (fun b => b = CB) w w' := by
 have hcl := cell_of_block hl 0
 simp at hcl
 have hfl := frozen_of_block hl 0
 have hs := heap_setCell_self (off := 0) hl (.int .i64 (wrap64 (c + 1)))
 have hch := (Chg.refl (fun b => b = CB) w).setCell (p := ⟨CB, 0, none⟩) (.inl rfl) (.int .i64 (wrap64 (c + 1)))
 obtain ⟨wz, hwz⟩ : ∃ wz, wz = w.setCell ⟨CB, 0, none⟩ (.int .i64 (wrap64 (c + 1))) := ⟨_, rfl⟩
 rw [← hwz] at hs hch
 have H := Lib.hid (And.intro hs (And.intro hch hwz)); clear hs hch hwz hl
 go_enter Tryz.func161, Tryz.ntmps161
 go_wp2_with fail
 rw [← H.out.2.2]
 go_ret
 exact ⟨rfl, by simpa using H.out.1, H.out.2.1⟩
theorem ct_vis (CB : Nat) {m : Mk} {t : List (List Int)} : VisG (fun _ : Int => True) (fun _ => True) 161 #[.pointer (some ⟨CB, 0, none⟩)] visW (CtInv CB) := by
 refine ⟨enters_ct, ?_, ?_, fun _ _ _ _ => trivial, ?_⟩
 ·rintro s F w w' ⟨h1, h2⟩ hz hk
  exact ⟨h1, by rw [hk CB ((h1 CB).2 rfl)]; exact h2⟩
 ·rintro s F w ⟨h1, h2⟩ b hb
  rw [(h1 b).1 hb]
  exact lt_of_heap h2
 ·rintro s F S w v design ⟨h1, h2⟩ hV hS _ _
  refine (ct1_any v CB s w h2).mono ?_
  rintro e w' ⟨rfl, g1, g2⟩
  exact ⟨F, rfl, ⟨h1, g1⟩, g2.mono (fun b hb => (h1 b).2 hb), fun b hb => .inl hb⟩
set_option maxRecDepth 100000 in
set_option maxHeartbeats 1000000 in
theorem searchAll_any {S : Nat → Prop} (m : Mk) (u : Value) (t : List (List Int)) (limit : Nat) (W : World) (h : V2 S W u t) (hs : isSys m t = true) (hlim : limit ≤ 4000) :
  Calls Tryz.prog 104 #[.agg #[.int .i64 m.c, .int .i64 m.d, .int .i64 m.s, .int .i64 m.e, .int .i64 m.l, u], .int .i64 (limit : Int)] W fun e w' => ∃ XB fv, e = .returned (.tuple #[.int .i64 ((cntF m t limit).2.2 : Int), .pointer (some ⟨XB, 0, none⟩)]) ∧
   w'.heap[XB]? = some (.cells (goCells m u limit (cntF m t limit).1 (cntF m t limit).2.1 fv) 124 (0, 0)) ∧ Below W.heap.size W w' := by
 obtain ⟨a, c, rfl, hmx⟩ := h.form
 have hok := PartOk.nil hs
 have hmk := Mk.ok_iff.1 hok.fits.ok
 have hrow := hok.fits.rows
 obtain ⟨hcw, hc4⟩ := cntF_wrap (m := m) (t := t) (limit := limit) hrow.1 hlim
 obtain ⟨WA, hWA⟩ : ∃ WA, WA = ((W.alloc (.cells #[.int .i64 m.c, .int .i64 m.d, .int .i64 m.s, .int .i64 m.e, .int .i64 m.l, .slice a t.length c] 33)).alloc (.cells #[.int .i64 0] 2)).alloc (.cells #[.int .i64 m.c, .int .i64 m.d, .int .i64 m.s, .int .i64 m.e, .int .i64 m.l, .slice a t.length c, .int .i64 (limit : Int), .int .i64 0, .bool false, .func (.func 161) #[] #[.pointer (some ⟨W.heap.size + 1, 0, none⟩)]] 124) := ⟨_, rfl⟩
 have hbA : Below W.heap.size W WA := by rw [hWA]; exact by (repeat (first | (with_reducible refine Below.setCell ?_ ?_ _) | (with_reducible refine Below.alloc ?_ ?_ _) | (with_reducible refine Below.drew ?_) | (with_reducible refine below_drewN ?_ _) | (with_reducible exact Below.refl _ _) | (with_reducible assumption) | (with_reducible refine Below.trans ?_ (Below.mono (by with_reducible assumption) ?_)) | go_size))
 have hzA : WA.heap.size = W.heap.size + 3 := by rw [hWA]; simp
 have hA1 : WA.heap[W.heap.size + 1]? = some (.cells #[.int .i64 0] 2 (0, 0)) := by rw [hWA]; simp only [heap_alloc_at, World.size_alloc]; (repeat rw [if_neg (by omega)]); simp
 have hA4 : WA.heap[W.heap.size + 1 + 1]? = some (.cells (goCells m (.slice a t.length c) limit 0 false (.func (.func 161) #[] #[.pointer (some ⟨W.heap.size + 1, 0, none⟩)])) 124 (0, 0)) := by rw [hWA]; simp only [heap_alloc_at, World.size_alloc]; simp [goCells]
 have hGs : Gs m (.slice a t.length c) limit (.func (.func 161) #[] #[.pointer (some ⟨W.heap.size + 1, 0, none⟩)]) (W.heap.size + 1 + 1) (CtInv (W.heap.size + 1)) (0, false, 0) (fun b => b = W.heap.size + 1) WA :=
  ⟨hA4, ⟨fun b => Iff.rfl, hA1⟩, fun hb => by omega, fun b hb => by omega, ⟨Nat.zero_le _, hlim⟩⟩
 have hno : ∀ b, b < W.heap.size → ¬ GF (W.heap.size + 1 + 1) (fun b => b = W.heap.size + 1) b := fun b hb h => by
  rcases h with e | e <;> omega
 have hgo := go_any (ct_vis (W.heap.size + 1) (m := m) (t := t)) m t m.c.toNat (by omega) (fun ds h1 h2 h3 => trivial) limit (.slice a t.length c) (W.heap.size + 1 + 1) t.length [] (.slice none 0 0) (0, false, 0) _ WA (by simp)
  ⟨hGs, h.old.mono (fun b h1 _ => hno b h1) (fun b _ h2 => hbA.block b h2), ⟨none, 0, rfl, Nat.le_refl _, Nat.zero_le _, fun k hk => by simp at hk⟩, fun _ => .inl rfl, hok, falseL_none, trivial⟩
 obtain ⟨r, hr⟩ : ∃ r, goF limit (stayP m.c.toNat t) visW (keysOf m) t.length [] (0, false, (0 : Int)) = r := ⟨_, rfl⟩
 rw [hr] at hgo hcw
 obtain ⟨q, hq⟩ : ∃ q, cntF m t limit = q := ⟨_, rfl⟩
 rw [hq] at hcw ⊢
 have HWA := Lib.hid (And.intro hWA (And.intro hgo (And.intro hbA hcw))); clear hWA hgo hbA hGs hno hA1 hA4 hok hr hcw hc4 hmk hrow hq
 go_enter Tryz.func104, Tryz.ntmps104
 go_wp2_with fail
 rw [← HWA.out.1]
 refine HWA.out.2.1.mono ?_
 rintro e' w' ⟨F', rfl, hG, hch, hsub⟩
 obtain ⟨f1, f2⟩ := hG.vi
 have hhh := hG.hh
 rw [HWA.out.2.2.2] at f2 hhh
 have hb' : Below W.heap.size W w' := HWA.out.2.2.1.trans (hch.to_below (B := W.heap.size) (fun b hb => by
  rcases hb with e | e <;> omega) (by omega))
 have cD := cell_of_block f2 0
 simp [mapS] at cD
 have HF := Lib.hid (And.intro hhh hb'); clear hG hch hsub f1 f2 hb' hhh
 go_wp2_with fail
 go_ret2
 exact ⟨_, _, rfl, HF.out.1, HF.out.2⟩
set_option maxRecDepth 100000 in
set_option maxHeartbeats 1000000 in
theorem CountTries_any {S : Nat → Prop} (m : Mk) (u : Value) (t : List (List Int)) (limit : Int) (W : World) (h : V2 S W u t) :
  Calls Tryz.prog 42 #[.agg #[.int .i64 m.c, .int .i64 m.d, .int .i64 m.s, .int .i64 m.e, .int .i64 m.l, u], .int .i64 limit] W fun e' w' => e' = .returned (.tuple #[.int .i64 (triesAns m t limit).1, .int .i64 (triesAns m t limit).2]) ∧ Below W.heap.size W w' := by
 obtain ⟨a, c, rfl, hmx⟩ := h.form
 obtain ⟨W1, hW1, hB01, hz01, HZ01, hc01, hh01⟩ := box_facts W #[.int .i64 m.c, .int .i64 m.d, .int .i64 m.s, .int .i64 m.e, .int .i64 m.l, .slice a t.length c] 33
 have hV1 : V2 (fun _ => True) W1 (.slice a t.length c) t := (h.below hB01).any
 have hsc := searchCode_any m (.slice a t.length c) (.slice none 0 0) t [] limit W1 hV1 (S' := fun _ => True) ⟨none, 0, rfl, Nat.le_refl _, Nat.zero_le _, fun k hk => by simp at hk⟩
 by_cases hp : searchC m t [] limit = 0
 ·obtain ⟨hok, hlim, hop⟩ := searchC_ok.1 hp
  rw [hp] at hsc
  obtain ⟨L, rfl⟩ : ∃ L : Nat, limit = (L : Int) := ⟨limit.toNat, by omega⟩
  have hsa := fun w (hb : Below W1.heap.size W1 w) => searchAll_any m (.slice a t.length c) t L w (hV1.below hb) hok.sys (by omega)
  have hfin : triesAns m t (L : Int) = if (cntF m t L).2.1 = true then (0, 3) else ((((cntF m t L).1 : Nat) : Int), 0) := by unfold triesAns; rw [if_neg (by rw [hp]; simp)]; rfl
  rw [hfin]
  clear hfin
  obtain ⟨r, hr⟩ : ∃ r, cntF m t L = r := ⟨_, rfl⟩
  simp only [hr] at hsa ⊢
  obtain ⟨r1, r2, rl⟩ := r
  have H := Lib.hid (And.intro hsc (And.intro hsa hB01)); clear hsc hsa hp hok hlim hop hr
  cases r2
  ·simp only [Bool.false_eq_true, if_false]
   go_enter Tryz.func42, Tryz.ntmps42
   go_wp2_with fail
   rw [← hW1]
   refine H.out.1.mono ?_
   rintro e' w2 ⟨rfl, hb2⟩
   have hz2 := hb2.size
   have hx2 : ∀ o, w2.cell? ⟨W.heap.size, o, none⟩ = (#[.int .i64 m.c, .int .i64 m.d, .int .i64 m.s, .int .i64 m.e, .int .i64 m.l, .slice a t.length c] : Array Value)[o]? := fun o => by rw [(bcell hb2).1 _ _ hz01, hc01]
   clear hc01 hh01
   go_wp2_with fail
   refine (H.out.2.1 _ hb2).mono ?_
   rintro e' w3 ⟨XB, fv, rfl, hX, hb3⟩
   have hbz := Lib.hid (H.out.2.2.trans ((hb2.trans (hb3.mono hz2)).mono (by omega)))
   have cX3 : w3.cell? ⟨XB, 7, none⟩ = some (.int .i64 (r1 : Int)) := by rw [cell_of_block hX]; rfl
   have cX4 : w3.cell? ⟨XB, 8, none⟩ = some (.bool false) := by rw [cell_of_block hX]; rfl
   clear hx2 hb3 hX
   go_wp2_with fail
   go_ret2
   exact ⟨rfl, hbz.out⟩
  ·simp only [if_true]
   go_enter Tryz.func42, Tryz.ntmps42
   go_wp2_with fail
   rw [← hW1]
   refine H.out.1.mono ?_
   rintro e' w2 ⟨rfl, hb2⟩
   have hz2 := hb2.size
   have hx2 : ∀ o, w2.cell? ⟨W.heap.size, o, none⟩ = (#[.int .i64 m.c, .int .i64 m.d, .int .i64 m.s, .int .i64 m.e, .int .i64 m.l, .slice a t.length c] : Array Value)[o]? := fun o => by rw [(bcell hb2).1 _ _ hz01, hc01]
   clear hc01 hh01
   go_wp2_with fail
   refine (H.out.2.1 _ hb2).mono ?_
   rintro e' w3 ⟨XB, fv, rfl, hX, hb3⟩
   have hbz := Lib.hid (H.out.2.2.trans ((hb2.trans (hb3.mono hz2)).mono (by omega)))
   have cX3 : w3.cell? ⟨XB, 7, none⟩ = some (.int .i64 (r1 : Int)) := by rw [cell_of_block hX]; rfl
   have cX4 : w3.cell? ⟨XB, 8, none⟩ = some (.bool true) := by rw [cell_of_block hX]; rfl
   clear hx2 hb3 hX
   go_wp2_with fail
   go_ret2
   exact ⟨rfl, hbz.out⟩
 ·have hfin : triesAns m t limit = (0, searchC m t [] limit) := by unfold triesAns; rw [if_pos hp]
  have e1 : (searchC m t [] limit != 0) = true := by simp [hp]
  rw [hfin]
  have H := Lib.hid (And.intro hsc (And.intro hfin hB01)); clear hsc hfin hp
  generalize searchC m t [] limit = pc at *
  go_enter Tryz.func42, Tryz.ntmps42
  go_wp2_with fail
  rw [← hW1]
  refine H.out.1.mono ?_
  rintro e' w2 ⟨rfl, hb2⟩
  have hz2 := hb2.size
  have hx2 : ∀ o, w2.cell? ⟨W.heap.size, o, none⟩ = (#[.int .i64 m.c, .int .i64 m.d, .int .i64 m.s, .int .i64 m.e, .int .i64 m.l, .slice a t.length c] : Array Value)[o]? := fun o => by rw [(bcell hb2).1 _ _ hz01, hc01]
  clear hc01 hh01
  clear hx2
  go_wp2_with fail
  go_ret2
  exact ⟨rfl, H.out.2.2.trans (hb2.mono (by omega))⟩
end Go.Proofs.YtmjplkbmhdkggaaGreat
