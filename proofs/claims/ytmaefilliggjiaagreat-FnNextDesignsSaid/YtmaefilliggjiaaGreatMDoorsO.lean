/- What the program and the reference answer on the doors that a key opens; on wafers of designs. No conditions. -/
import Derived.Test.YtmaefilliggjiaaGreatMEach5
import Derived.Test.YtmaefilliggjiaaGreatMGoT
import Derived.Test.YtmaefilliggjiaaGreatMRefFirst
import Derived.Test.YtmaefilliggjiaaGreatMKeys
import Derived.Test.YtmaefilliggjiaaGreatMDraw1
namespace Go.Proofs.YtmaefilliggjiaaGreat
open Go.RowKit
set_option linter.unusedVariables false
set_option linter.unusedSimpArgs false
theorem gen_nodup (m : Mk) : ∀ (rem : Nat) (pre : List Int), (gen m rem pre).Nodup
 | 0, pre => by unfold gen; split <;> simp
 | rem + 1, pre => by
   rw [gen_succ]
   unfold List.Nodup
   rw [List.pairwise_flatMap]
   have hbr : ∀ x k, k ∈ branch m rem pre x → ∃ r, k = pre ++ x :: r := fun x k hk => by
    unfold branch at hk
    split at hk
    ·obtain ⟨r, hr⟩ := ((gen_mem rem (pre ++ [x]) k).1 hk).1
     exact ⟨r, by rw [← hr]; simp⟩
    ·cases hk
   refine ⟨fun x _ => ?_, ?_⟩
   ·unfold branch
    split
    ·exact gen_nodup m rem _
    ·exact List.Pairwise.nil
   ·have hd : (depths 0 m.d.toNat).Pairwise (· < ·) := by
     unfold depths
     rw [List.pairwise_map]
     exact List.Pairwise.imp (fun h => by omega) (List.pairwise_lt_range (n := m.d.toNat - 0))
    refine hd.imp fun {x y} hxy a ha b hb e => ?_
    obtain ⟨r, rfl⟩ := hbr x a ha
    obtain ⟨r2, h2⟩ := hbr y b hb
    rw [h2] at e
    have := (List.append_cancel_left e)
    injection this with h3 _
    omega
theorem keysOf_nodup (m : Mk) : (keysOf m).Nodup := gen_nodup m _ _
theorem runL_found {limit : Nat} {Q : List (List Int) → Prop} {stay : List (List Int) → List Int → Bool} {rec : List (List Int) → DSt → DSt × Bool} {cuts : List (List Int)} : ∀ (l : List (List Int)) (s : DSt),
  (∀ k ∈ l, stay cuts k = true → ∀ s : DSt, (∀ x ∈ s.2.2, Q x) → ∀ x ∈ (rec (cuts ++ [k]) s).1.2.2, Q x) → (∀ x ∈ s.2.2, Q x) → ∀ x ∈ (runL (goStep limit stay rec cuts) s l).1.2.2, Q x
 | [], s, _, hs => hs
 | k :: l, s, hr, hs => by
   have h1 : ∀ x ∈ (goStep limit stay rec cuts s k).1.2.2, Q x := by
    unfold goStep
    split
    ·exact hs
    ·split
     ·rename_i hst
      exact hr k (List.mem_cons_self ..) hst _ hs
     ·exact hs
   unfold runL
   split
   ·exact runL_found l _ (fun k hk => hr k (List.mem_cons_of_mem _ hk)) h1
   ·exact h1
theorem goF_foundD {limit n : Nat} {t keys : List (List Int)} {most : Int} {Q : List (List Int) → Prop} {P : Nat → List (List Int) → Prop} (hQ : ∀ c, P 0 c → Q c) (hP : ∀ d c k, k ∈ keys → P (d + 1) c → stayP n t c k = true → P d (c ++ [k])) : ∀ {d : Nat} {cuts : List (List Int)} {s : DSt},
  P d cuts → (∀ x ∈ s.2.2, Q x) → ∀ x ∈ (goF limit (stayP n t) (visK most) keys d cuts s).1.2.2, Q x
 | 0, cuts, s, hc, hs => by
   intro x hx
   simp only [goF, visK, List.mem_append, List.mem_singleton] at hx
   rcases hx with hx | rfl
   ·exact hs x hx
   ·exact hQ _ hc
 | d + 1, cuts, s, hc, hs => runL_found keys s (fun k hk hst s hs => goF_foundD hQ hP (hP d cuts k hk hc hst) hs) hs
/-- x goes on from the first r cuts with a later key. -/
def NextOf (m : Mk) (n : Nat) (t cuts x : List (List Int)) : Prop :=
 ∃ r k, r < cuts.length ∧ k ∈ behind m (getl cuts r) ∧ (cuts.take r ++ [k]) <+: x ∧ x.length = t.length ∧ falseL n t x = []
theorem stay_nil {n : Nat} {t c : List (List Int)} {k : List Int} (h : stayP n t c k = true) : falseL n t (c ++ [k]) = [] := by
 unfold stayP openP at h
 exact List.eq_nil_of_length_eq_zero (of_decide_eq_true h)
theorem backF_next {m : Mk} {n : Nat} {t cuts : List (List Int)} {limit row : Nat} {s : DSt} (hr : row < cuts.length) (hl : cuts.length = t.length) (hs : ∀ x ∈ s.2.2, NextOf m n t cuts x) : ∀ x ∈ (backF m n t cuts limit row s).1.2.2, NextOf m n t cuts x := by
 refine runL_found _ s (fun k hk hst s hs => ?_) hs
 have hrow : (cuts.take row).length = row := by rw [List.length_take]; omega
 refine goF_foundD (P := fun d c => (cuts.take row ++ [k]) <+: c ∧ c.length + d = t.length ∧ falseL n t c = []) (fun c hc => ⟨row, k, hr, hk, hc.1, hc.2.1, hc.2.2⟩) ?_ ?_ hs
 ·rintro d c q _ ⟨h2, h3, _⟩ hst
  exact ⟨h2.trans (List.prefix_append _ _), by rw [List.length_append]; simp only [List.length_cons, List.length_nil]; omega, stay_nil hst⟩
 ·exact ⟨List.prefix_refl _, by rw [List.length_append, hrow]; simp only [List.length_cons, List.length_nil]; omega, stay_nil hst⟩
theorem nextF_next {m : Mk} {n : Nat} {t cuts : List (List Int)} {limit : Nat} (hl : cuts.length = t.length) : ∀ {r : Nat} {s : DSt}, r ≤ cuts.length → (∀ x ∈ s.2.2, NextOf m n t cuts x) → ∀ x ∈ (nextF m n t cuts limit r s).2.2, NextOf m n t cuts x
 | 0, s, _, hs => hs
 | r + 1, s, hr, hs => by
   have h1 := backF_next (m := m) (n := n) (limit := limit) (show r < cuts.length by omega) hl hs
   unfold nextF
   split
   ·exact nextF_next hl (by omega) h1
   ·exact h1
theorem next_law {m : Mk} {t cuts d : List (List Int)} {limit : Int} (h : nextDAns m t cuts limit = (d, 0)) :
  designC m t d = 0 ∧ d.length = t.length ∧ cuts.length = t.length ∧ m.ok = true ∧ ∃ r, r < t.length ∧ (∀ i, i < r → getl d i = getl cuts i) ∧ ∃ L1 L2 L3, keysOf m = L1 ++ getl cuts r :: (L2 ++ getl d r :: L3) := by
 unfold nextDAns at h
 split at h
 ·rename_i h0; exact absurd (congrArg Prod.snd h) h0
 ·rename_i h0
  split at h
  ·cases h
  ·rename_i h1
   have hok := searchC_ok.1 (Decidable.not_not.1 h0)
   have hfit := hok.1.fits
   have hl : cuts.length = t.length := by have := hfit.few; omega
   have hc0 : 0 ≤ m.c := by have := Mk.ok_iff.1 hfit.ok; omega
   have hnx := nextF_next (m := m) (n := m.c.toNat) (t := t) (limit := limit.toNat) hl (Nat.le_refl _) (s := (0, false, [])) (fun x hx => by cases hx)
   have hde := nextF_des (n := m.c.toNat) (limit := limit.toNat) hok.1 (Nat.le_refl _) (s := (0, false, [])) (fun x hx => by cases hx)
   obtain ⟨F, hF⟩ : ∃ F, nextF m m.c.toNat t cuts limit.toNat cuts.length (0, false, []) = F := ⟨_, rfl⟩
   rw [hF] at h hnx hde
   have hd : d ∈ F.2.2 := by
    unfold pickA at h
    split at h
    ·rename_i x xs hx
     have : x = d := congrArg Prod.fst h
     rw [hx, this]; exact List.mem_cons_self ..
    ·split at h <;> cases h
   obtain ⟨r, k, hr, hk, hpre, hlen, hfal⟩ := hnx d hd
   have hdo := (hde d hd).part
   refine ⟨?_, hlen, hl, hfit.ok, r, by omega, ?_⟩
   ·unfold designC
    rw [if_pos (designB_ok.2 ⟨cutC_ok.2 ⟨hdo.sys, hlen, hdo.keys⟩, by rw [hfal]; rfl⟩)]
   ·have htl : (cuts.take r).length = r := by rw [List.length_take]; omega
    have hg : ∀ i, i < r + 1 → getl d i = getl (cuts.take r ++ [k]) i := fun i hi => by
     obtain ⟨u, hu⟩ := hpre
     rw [← hu]
     unfold getl
     rw [List.getD_eq_getElem?_getD, List.getD_eq_getElem?_getD, List.getElem?_append_left (by rw [List.length_append, htl]; show i < r + 1; exact hi)]
    refine ⟨fun i hi => ?_, ?_⟩
    ·rw [hg i (by omega), getl_app1 (by omega), getl_take hi]
    ·have hgr : getl d r = k := by
      rw [hg r (by omega)]
      have := getl_app2 (l := k) (ls := cuts.take r)
      rw [htl] at this; exact this
     have hkc := (mem_keysOf hc0).2 (allKeys_iff.1 hok.1.keys r hr)
     obtain ⟨L1, L, hL⟩ := List.append_of_mem hkc
     rw [keys_behind hc0 hL] at hk
     obtain ⟨L2, L3, hL2⟩ := List.append_of_mem hk
     exact ⟨L1, L2, L3, by rw [hgr, hL, hL2]⟩
theorem find_ne {m : Mk} {t d : List (List Int)} {limit : Int} {k : Int} (h : findAns m t [] limit = (d, k, 0)) : d ≠ [] := by
 unfold findAns at h
 split at h
 ·rename_i h0; exact absurd (congrArg (fun x => x.2.2) h) h0
 ·rename_i h0
  have hok := searchC_ok.1 (Decidable.not_not.1 h0)
  have ht := hok.1.fits.rows.1
  have hall : ∀ x ∈ (firstF m.c.toNat t (keysOf m) [] 1 limit.toNat).2.2, x.length = t.length := by
   unfold firstF
   rw [if_pos (by decide)]
   exact goF_foundD (P := fun d c => c.length + d = t.length) (fun c hc => hc) (fun d c q _ hc _ => by rw [List.length_append]; simp only [List.length_cons, List.length_nil]; omega) (by simp) (fun x hx => by cases hx)
  obtain ⟨F, hF⟩ : ∃ F, firstF m.c.toNat t (keysOf m) [] 1 limit.toNat = F := ⟨_, rfl⟩
  rw [hF] at h hall
  unfold pickA at h
  split at h
  ·rename_i x xs hx
   have : x = d := congrArg Prod.fst h
   intro e
   have h1 := hall x (by rw [hx]; exact List.mem_cons_self ..)
   rw [this, e] at h1
   simp at h1
   omega
  ·split at h <;> cases h
theorem nextD_ne {m : Mk} {t cuts d : List (List Int)} {limit : Int} (h : nextDAns m t cuts limit = (d, 0)) : d ≠ [] := by
 obtain ⟨_, h1, _, _, r, hr, _⟩ := next_law h
 intro e
 rw [e] at h1
 simp at h1
 omega
/-- What a draw of a system, cuts and a number from a code answers. -/
def DrawNd (W : World) (e : Ending) (w' : World) : Prop :=
 ∃ (m : Mk) (u cv : Value) (T cuts : List (List Int)) (n : Int), e = .returned (.tuple #[.agg #[.int .i64 m.c, .int .i64 m.d, .int .i64 m.s, .int .i64 m.e, .int .i64 m.l, u], cv, .int .i64 n]) ∧ (cuts = [] → PV cv) ∧ V2 (fun b => W.heap.size ≤ b) w' u T ∧ V2 (fun b => W.heap.size ≤ b) w' cv cuts ∧ Below W.heap.size W w'
theorem DrawNd.open {W w' : World} {e : Ending} (h : DrawNd W e w') : ∃ (m : Mk) (u cv : Value) (T cuts : List (List Int)) (n : Int), e = .returned (.tuple #[.agg #[.int .i64 m.c, .int .i64 m.d, .int .i64 m.s, .int .i64 m.e, .int .i64 m.l, u], cv, .int .i64 n]) ∧ (cuts = [] → PV cv) ∧ V2 (fun b => W.heap.size ≤ b) w' u T ∧ V2 (fun b => W.heap.size ≤ b) w' cv cuts ∧ Below W.heap.size W w' := h
structure NdAt (W W1 w2 w3 : World) (m : Mk) (tv : Value) (T : List (List Int)) (w : World) : Prop where
 src : Src W1.heap.size W1.heap.size w
 below : Below W.heap.size W w
 hm : w.heap[w3.heap.size]? = some (.cells #[.int .i64 m.c, .int .i64 m.d, .int .i64 m.s, .int .i64 m.e, .int .i64 m.l, tv] 28 (0, 0))
 hr : w.heap[W.heap.size]? = some (.cells #[.int .i64 0, .int .i64 0, .int .i64 0, .int .i64 0, .int .i64 0, .slice none 0 0] 28 (0, 0))
 tab : V2 (fun b => w2.heap.size ≤ b) w tv T
theorem NdAt.step {W W1 w2 w3 w w' : World} {m : Mk} {tv : Value} {T : List (List Int)} (h : NdAt W W1 w2 w3 m tv T w) (hs : Src W1.heap.size W1.heap.size w') (ho : Only W1.heap.size w w') (h1 : W.heap.size < W1.heap.size) (h2 : W1.heap.size < w2.heap.size) (h3 : W1.heap.size < w3.heap.size) : NdAt W W1 w2 w3 m tv T w' :=
 ⟨hs, h.below.trans ((ho.to_below (B := W1.heap.size) (Nat.le_refl _) (by have := h.src.lt; omega)).mono (by omega)), ho.heap h.hm (fun e => by omega), ho.heap h.hr (fun e => by omega), h.tab.mono (fun _ h _ => h) (fun b hb hlt => ho.block b hlt (fun e => by have hb : w2.heap.size ≤ b := hb; omega))⟩
set_option maxRecDepth 100000 in
set_option maxHeartbeats 4000000 in
theorem DrawNextDesign_any {S : Nat → Prop} (v : Value) (l : List Int) (W : World) (h : VB S W v l) :
  Calls Tryz.prog 13 #[v] W (DrawNd W) := by
 obtain ⟨a, c, rfl, hm⟩ := h.form
 obtain ⟨W1, hW1, hB01, hz01, HZ01, _, hh01⟩ := box_facts W #[.int .i64 0, .int .i64 0, .int .i64 0, .int .i64 0, .int .i64 0, .slice none 0 0] 28
 have hz1e := HZ01.out
 have hz1l : W1.heap.size ≤ W.heap.size + 1 := by omega
 have HL := Lib.hid (And.intro (h.below hB01) (And.intro hB01 (And.intro hh01 hW1))); clear h hh01 hB01 hz1e
 go_enter Tryz.func13, Tryz.ntmps13
 go_wp2_with fail
 rw [← HL.out.2.2.2]
 clear hW1
 refine (l01From_any _ l W1 HL.out.1).mono ?_
 rintro e' w2 ⟨rfl, hs2, hb2⟩
 have hz2 := hb2.size
 have hz12 : W1.heap.size < w2.heap.size := hs2.lt
 have H2 := Lib.hid (And.intro hs2 (And.intro hb2 (And.intro ((hb2.block _ hz01).trans HL.out.2.2.1) (HL.out.1.below hb2)))); clear hs2 hb2
 go_wp2_with fail
 refine (DrawFindDesign_any _ l w2 H2.out.2.2.2).mono ?_
 rintro e' w3 ⟨m, u, T, n, rfl, hu, hb3⟩
 have hz3 := hb3.size
 obtain ⟨ta, tc, rfl, _⟩ := hu.form
 obtain ⟨w4, hw4⟩ : ∃ w4, w4 = w3.alloc (.cells #[.int .i64 m.c, .int .i64 m.d, .int .i64 m.s, .int .i64 m.e, .int .i64 m.l, .slice ta T.length tc] 28) := ⟨_, rfl⟩
 have hb34 : Below w3.heap.size w3 w4 := by rw [hw4]; exact (Below.refl _ _).alloc (Nat.le_refl _) _
 have hM4 : w4.heap[w3.heap.size]? = some (.cells #[.int .i64 m.c, .int .i64 m.d, .int .i64 m.s, .int .i64 m.e, .int .i64 m.l, .slice ta T.length tc] 28 (0, 0)) := by rw [hw4]; exact heap_alloc_self _ _
 have hz4 : w3.heap.size < w4.heap.size := lt_of_heap hM4
 have hc4 : ∀ o, w4.cell? ⟨w3.heap.size, o, none⟩ = (#[.int .i64 m.c, .int .i64 m.d, .int .i64 m.s, .int .i64 m.e, .int .i64 m.l, .slice ta T.length tc] : Array Value)[o]? := fun o => by rw [cell_of_block hM4]
 have HD4 := Lib.hid (And.intro (NdAt.mk (W := W) (W1 := W1) (w2 := w2) (w3 := w3) ((H2.out.1.below hb3).below hb34) (HL.out.2.1.trans (((H2.out.2.1.trans (hb3.mono (by omega))).trans (hb34.mono (by omega))).mono (by omega))) hM4 (heap_below (heap_below H2.out.2.2.1 hb3 (by omega)) hb34 (by omega)) (hu.below hb34)) hw4); clear hb3 hb34 hM4 hu hw4
 go_wp2_with fail
 rw [← HD4.out.2]
 refine (FindDesignR_any m _ T 1500 w4 HD4.out.1.tab).mono ?_
 rintro e' w5 ⟨fv, rfl, hF, hb5⟩
 obtain ⟨fd, hfd⟩ : ∃ fd, findAns m T [] 1500 = fd := ⟨_, rfl⟩
 rw [hfd] at hF ⊢
 obtain ⟨f1, f2, f3⟩ := fd
 have hF : F2 w4.heap.size w5 fv f1 := hF
 dsimp only
 obtain ⟨fa, fc, rfl, _⟩ := hF.v2.form
 have hz5 := hb5.size
 have HD5 := Lib.hid (HD4.out.1.step (HD4.out.1.src.below hb5) (Only.of_below hb5) (by omega) (by omega) (by omega))
 have HF := Lib.hid (And.intro (hF.v2.mono (S' := fun b => w2.heap.size ≤ b) (fun b hb _ => by have hb : w4.heap.size ≤ b := hb; omega) (fun _ _ _ => rfl)) hfd); clear hF hfd hb5 hc4
 by_cases hf3 : f3 = 0
 ·subst hf3
  go_wp2_with fail
  refine (l01Next_any _ _ 12 _ HD5.out.src).mono ?_
  rintro e' w6 ⟨x, rfl, ⟨hx0, hx1⟩, hs6, ho6⟩
  have hz6 := ho6.size
  have HF6 := Lib.hid (HF.out.1.mono (S' := fun b => w2.heap.size ≤ b) (fun b hb _ => hb) (fun b hb hlt => ho6.block b hlt (fun e => by have hb : w2.heap.size ≤ b := hb; omega)))
  have HD6 := Lib.hid (HD5.out.step hs6 ho6 (by omega) (by omega) (by omega)); clear hs6 ho6
  by_cases hx : x = 0
  ·subst hx
   clear hx0 hx1
   go_wp2_with fail
   refine (l16Draw_any W1.heap.size W1.heap.size w6 HD6.out.src).mono ?_
   rintro e' w7 ⟨mq, uq, cvq, Tq, cq, rfl, _, huq, hcq, hpq, hs7, ho7⟩
   have hz7 := ho7.size
   obtain ⟨tqa, tqc, rfl, _⟩ := huq.form
   obtain ⟨cqa, cqc, rfl, _⟩ := hcq.form
   have HPq := Lib.hid hpq; clear hpq
   have HD7 := Lib.hid (HD6.out.step hs7 ho7 (by omega) (by omega) (by omega)); clear hs7 ho7
   obtain ⟨w8, hw8⟩ : ∃ w8, w8 = w7.alloc (.cells #[.int .i64 mq.c, .int .i64 mq.d, .int .i64 mq.s, .int .i64 mq.e, .int .i64 mq.l, .slice tqa Tq.length tqc] 28) := ⟨_, rfl⟩
   have hb78 : Below w7.heap.size w7 w8 := by rw [hw8]; exact (Below.refl _ _).alloc (Nat.le_refl _) _
   have hM8 : w8.heap[w7.heap.size]? = some (.cells #[.int .i64 mq.c, .int .i64 mq.d, .int .i64 mq.s, .int .i64 mq.e, .int .i64 mq.l, .slice tqa Tq.length tqc] 28 (0, 0)) := by rw [hw8]; exact heap_alloc_self _ _
   have hR8 := heap_below HD7.out.hr hb78 (lt_of_heap HD7.out.hr)
   have H8 := Lib.hid (And.intro (HD7.out.below.trans (hb78.mono (by omega))) (And.intro hR8 (And.intro ((huq.mono (S' := fun b => w2.heap.size ≤ b) (fun b hb _ => by have hb : w6.heap.size ≤ b := hb; show w2.heap.size ≤ b; omega) (fun _ _ _ => rfl)).below hb78) (And.intro ((hcq.mono (S' := fun b => w2.heap.size ≤ b) (fun b hb _ => by have hb : w6.heap.size ≤ b := hb; show w2.heap.size ≤ b; omega) (fun _ _ _ => rfl)).below hb78) (And.intro hM8 hw8))))); clear hw8 hM8 hR8 hb78 huq hcq
   have hcM8 : ∀ o, (w7.alloc (.cells #[.int .i64 mq.c, .int .i64 mq.d, .int .i64 mq.s, .int .i64 mq.e, .int .i64 mq.l, .slice tqa Tq.length tqc] 28)).cell? ⟨w7.heap.size, o, none⟩ = (#[.int .i64 mq.c, .int .i64 mq.d, .int .i64 mq.s, .int .i64 mq.e, .int .i64 mq.l, .slice tqa Tq.length tqc] : Array Value)[o]? := fun o => by rw [← H8.out.2.2.2.2.2, cell_of_block H8.out.2.2.2.2.1]
   have hcRz : ∀ o, (w7.alloc (.cells #[.int .i64 mq.c, .int .i64 mq.d, .int .i64 mq.s, .int .i64 mq.e, .int .i64 mq.l, .slice tqa Tq.length tqc] 28)).cell? ⟨W.heap.size, o, none⟩ = (#[.int .i64 0, .int .i64 0, .int .i64 0, .int .i64 0, .int .i64 0, .slice none 0 0] : Array Value)[o]? := fun o => by rw [← H8.out.2.2.2.2.2, cell_of_block H8.out.2.1]
   have hfRz : ∀ o, (w7.alloc (.cells #[.int .i64 mq.c, .int .i64 mq.d, .int .i64 mq.s, .int .i64 mq.e, .int .i64 mq.l, .slice tqa Tq.length tqc] 28)).frozen? ⟨W.heap.size, o, none⟩ = false := fun o => by rw [← H8.out.2.2.2.2.2]; exact frozen_of_block H8.out.2.1 o
   have hdone := putS_new H8.out.1 H8.out.2.1 (.int .i64 mq.c) (.int .i64 mq.d) (.int .i64 mq.s) (.int .i64 mq.e) (.int .i64 mq.l) (.slice tqa Tq.length tqc)
   obtain ⟨wz, hwz⟩ : ∃ wz, wz = putS w8 W.heap.size (.int .i64 mq.c) (.int .i64 mq.d) (.int .i64 mq.s) (.int .i64 mq.e) (.int .i64 mq.l) (.slice tqa Tq.length tqc) := ⟨_, rfl⟩
   rw [← hwz] at hdone
   obtain ⟨hd2, hd3, hd4⟩ := hdone
   have hFz : V2 (fun b => W.heap.size ≤ b) wz (.slice tqa Tq.length tqc) Tq := V2.mono (S := fun b => w2.heap.size ≤ b) H8.out.2.2.1 (fun b hb _ => by have hb : w2.heap.size ≤ b := hb; omega) (fun b hb _ => hd4 b (by have hb : w2.heap.size ≤ b := hb; omega))
   have hcz : V2 (fun b => W.heap.size ≤ b) wz (.slice cqa cq.length cqc) cq := V2.mono (S := fun b => w2.heap.size ≤ b) H8.out.2.2.2.1 (fun b hb _ => by have hb : w2.heap.size ≤ b := hb; omega) (fun b hb _ => hd4 b (by have hb : w2.heap.size ≤ b := hb; omega))
   have hz0 : wz.cell? ⟨W.heap.size, 0, none⟩ = some (.int .i64 mq.c) := by rw [cell_of_block hd3]; rfl
   have hz1 : wz.cell? ⟨W.heap.size, 1, none⟩ = some (.int .i64 mq.d) := by rw [cell_of_block hd3]; rfl
   have hz2 : wz.cell? ⟨W.heap.size, 2, none⟩ = some (.int .i64 mq.s) := by rw [cell_of_block hd3]; rfl
   have hz3 : wz.cell? ⟨W.heap.size, 3, none⟩ = some (.int .i64 mq.e) := by rw [cell_of_block hd3]; rfl
   have hz4 : wz.cell? ⟨W.heap.size, 4, none⟩ = some (.int .i64 mq.l) := by rw [cell_of_block hd3]; rfl
   have hz5 : wz.cell? ⟨W.heap.size, 5, none⟩ = some (.slice tqa Tq.length tqc) := by rw [cell_of_block hd3]; rfl
   have HZ := Lib.hid (And.intro hd2 (And.intro hFz (And.intro hcz (And.intro hwz (And.intro hz0 (And.intro hz1 (And.intro hz2 (And.intro hz3 (And.intro hz4 hz5))))))))); clear hd2 hd3 hd4 hFz hcz hwz hz0 hz1 hz2 hz3 hz4 hz5
   go_wp2_with fail
   have hwz := HZ.out.2.2.2.1
   unfold putS putR at hwz
   rw [H8.out.2.2.2.2.2] at hwz
   rw [← hwz]
   clear hwz
   obtain ⟨hd2, hFz, hcz, hwzz, hz0, hz1, hz2, hz3, hz4, hz5⟩ := HZ.out
   clear hwzz
   exact bodyPost_ret (v := .tuple #[.agg #[.int .i64 mq.c, .int .i64 mq.d, .int .i64 mq.s, .int .i64 mq.e, .int .i64 mq.l, (.slice tqa Tq.length tqc)], (.slice cqa cq.length cqc), .int .i64 n]) (by simp [results, Tryz.results13, go_sem, hz0, hz1, hz2, hz3, hz4, hz5]) rfl ⟨mq, _, _, Tq, cq, n, rfl, HPq.out, hFz, hcz, hd2⟩
  ·have hxd : (x == 0) = false := by simp [hx]
   clear hx hx0 hx1
   go_wp2_with fail
   refine (l01Next_any _ _ 3 _ HD6.out.src).mono ?_
   rintro e' w7 ⟨y, rfl, ⟨hy0, hy1⟩, hs7, ho7⟩
   obtain ⟨nn, rfl⟩ : ∃ q : Nat, y = (q : Int) := ⟨y.toNat, by omega⟩
   have hnn : nn ≤ 2 := by omega
   have hz7 := ho7.size
   have HF7 := Lib.hid (HF6.out.mono (S' := fun b => w2.heap.size ≤ b) (fun b hb _ => hb) (fun b hb hlt => ho7.block b hlt (fun e => by have hb : w2.heap.size ≤ b := hb; omega)))
   have HD7 := Lib.hid (HD6.out.step hs7 ho7 (by omega) (by omega) (by omega)); clear hs7 ho7 hy0 hy1
   go_wp2_with fail
   go_loopw [8, 13, 14, 15] (fun cv nv _ _ wr => ∃ (k : Nat) (cu : List (List Int)), k ≤ 2 ∧ nv = .int .i64 (k : Int) ∧ cu ≠ [] ∧ V2 (fun b => w2.heap.size ≤ b) wr cv cu ∧ NdAt W W1 w2 w3 m (.slice ta T.length tc) T wr) (fun _ nv _ _ _ => (intOf nv).toNat)
   case atStart => exact ⟨nn, f1, hnn, rfl, find_ne HF.out.2, HF7.out, HD7.out⟩
   case round =>
    obtain ⟨k, cu, hk2, rfl, hne, hcu, hA⟩ := hrel
    obtain ⟨cua, cuc, rfl, _⟩ := hcu.form
    obtain ⟨wo, rfl⟩ : ∃ x, x = wr := ⟨_, rfl⟩
    have HA := Lib.hid (And.intro hA (And.intro hcu hne)); clear hA hcu hne
    have hcM : ∀ o, wo.cell? ⟨w3.heap.size, o, none⟩ = (#[.int .i64 m.c, .int .i64 m.d, .int .i64 m.s, .int .i64 m.e, .int .i64 m.l, .slice ta T.length tc] : Array Value)[o]? := fun o => by rw [cell_of_block HA.out.1.hm]
    by_cases hk : k = 0
    ·subst hk
     have hcRz : ∀ o, wo.cell? ⟨W.heap.size, o, none⟩ = (#[.int .i64 0, .int .i64 0, .int .i64 0, .int .i64 0, .int .i64 0, .slice none 0 0] : Array Value)[o]? := fun o => by rw [cell_of_block HA.out.1.hr]
     have hfRz := fun o => frozen_of_block HA.out.1.hr o
     have hdone := putS_new HA.out.1.below HA.out.1.hr (.int .i64 m.c) (.int .i64 m.d) (.int .i64 m.s) (.int .i64 m.e) (.int .i64 m.l) (.slice ta T.length tc)
     obtain ⟨wz, hwz⟩ : ∃ wz, wz = putS wo W.heap.size (.int .i64 m.c) (.int .i64 m.d) (.int .i64 m.s) (.int .i64 m.e) (.int .i64 m.l) (.slice ta T.length tc) := ⟨_, rfl⟩
     rw [← hwz] at hdone
     obtain ⟨hd2, hd3, hd4⟩ := hdone
     have hFz : V2 (fun b => W.heap.size ≤ b) wz (.slice ta T.length tc) T := V2.mono (S := fun b => w2.heap.size ≤ b) HA.out.1.tab (fun b hb _ => by have hb : w2.heap.size ≤ b := hb; omega) (fun b hb _ => hd4 b (by have hb : w2.heap.size ≤ b := hb; omega))
     have hcz : V2 (fun b => W.heap.size ≤ b) wz (.slice cua cu.length cuc) cu := V2.mono (S := fun b => w2.heap.size ≤ b) HA.out.2.1 (fun b hb _ => by have hb : w2.heap.size ≤ b := hb; omega) (fun b hb _ => hd4 b (by have hb : w2.heap.size ≤ b := hb; omega))
     have hz0 : wz.cell? ⟨W.heap.size, 0, none⟩ = some (.int .i64 m.c) := by rw [cell_of_block hd3]; rfl
     have hz1 : wz.cell? ⟨W.heap.size, 1, none⟩ = some (.int .i64 m.d) := by rw [cell_of_block hd3]; rfl
     have hz2 : wz.cell? ⟨W.heap.size, 2, none⟩ = some (.int .i64 m.s) := by rw [cell_of_block hd3]; rfl
     have hz3 : wz.cell? ⟨W.heap.size, 3, none⟩ = some (.int .i64 m.e) := by rw [cell_of_block hd3]; rfl
     have hz4 : wz.cell? ⟨W.heap.size, 4, none⟩ = some (.int .i64 m.l) := by rw [cell_of_block hd3]; rfl
     have hz5 : wz.cell? ⟨W.heap.size, 5, none⟩ = some (.slice ta T.length tc) := by rw [cell_of_block hd3]; rfl
     have HZ := Lib.hid (And.intro hd2 (And.intro hFz (And.intro hcz (And.intro hwz (And.intro hz0 (And.intro hz1 (And.intro hz2 (And.intro hz3 (And.intro hz4 hz5))))))))); clear hd2 hd3 hd4 hFz hcz hwz hz0 hz1 hz2 hz3 hz4 hz5
     go_wp2_with fail
     have hwz := HZ.out.2.2.2.1
     unfold putS putR at hwz
     skip
     rw [← hwz]
     clear hwz
     obtain ⟨hd2, hFz, hcz, hwzz, hz0, hz1, hz2, hz3, hz4, hz5⟩ := HZ.out
     clear hwzz
     exact bodyPost_ret (v := .tuple #[.agg #[.int .i64 m.c, .int .i64 m.d, .int .i64 m.s, .int .i64 m.e, .int .i64 m.l, (.slice ta T.length tc)], (.slice cua cu.length cuc), .int .i64 n]) (by simp [results, Tryz.results13, go_sem, hz0, hz1, hz2, hz3, hz4, hz5]) rfl ⟨m, _, _, T, cu, n, rfl, (fun e => absurd e HA.out.2.2), hFz, hcz, hd2⟩
    ·obtain ⟨k, rfl⟩ : ∃ q, k = q + 1 := ⟨k - 1, by omega⟩
     have hnd : decide ((0 : Int) < ((k + 1 : Nat) : Int)) = true := decide_eq_true (by omega)
     have hnd2 : decide ((0 : Int) < (k : Int) + 1) = true := decide_eq_true (by omega)
     have hnd3 : decide (0 < k + 1) = true := decide_eq_true (by omega)
     clear hk
     go_wp2_with fail
     refine (NextDesignRf_any m _ _ T cu 1500 wo HA.out.1.tab HA.out.2.1 (fun e => absurd e HA.out.2.2)).mono ?_
     rintro e' wp ⟨nv, rfl, hN, hbp⟩
     obtain ⟨nd, hnd0⟩ : ∃ nd, nextDAns m T cu 1500 = nd := ⟨_, rfl⟩
     rw [hnd0] at hN ⊢
     obtain ⟨nl, nc⟩ := nd
     have hN : F2 wo.heap.size wp nv nl := hN
     dsimp only
     obtain ⟨na, nac, rfl, _⟩ := hN.v2.form
     have hzo : w2.heap.size ≤ wo.heap.size := by have := lt_of_heap HA.out.1.hm; omega
     have HP := Lib.hid (And.intro (HA.out.1.step (HA.out.1.src.below hbp) (Only.of_below hbp) (by omega) (by omega) (by omega)) (And.intro (HA.out.2.1.below hbp) (And.intro (hN.v2.mono (S' := fun b => w2.heap.size ≤ b) (fun b hb _ => by have hb : wo.heap.size ≤ b := hb; omega) (fun _ _ _ => rfl)) hnd0))); clear hbp hN hnd0 hcM
     by_cases hc : nc = 0
     ·subst hc
      go_wp2_with fail
      go_roundw
      case rel => exact ⟨k, nl, by omega, by go_num, nextD_ne HP.out.2.2.2, HP.out.2.2.1, HP.out.1⟩
      case measure => simp [intOf]
     ·have hcd : (nc == 0) = false := by simp [hc]
      clear hc
      go_wp2_with fail
      go_roundw
      case rel => exact ⟨k, cu, by omega, by go_num, HA.out.2.2, HP.out.2.1, HP.out.1⟩
      case measure => simp [intOf]
 ·have hfd : (f3 != 0) = true := by simp [hf3]
  clear hf3
  go_wp2_with fail
  refine (l16Draw_any W1.heap.size W1.heap.size w5 HD5.out.src).mono ?_
  rintro e' w7 ⟨mq, uq, cvq, Tq, cq, rfl, _, huq, hcq, hpq, hs7, ho7⟩
  have hz7 := ho7.size
  obtain ⟨tqa, tqc, rfl, _⟩ := huq.form
  obtain ⟨cqa, cqc, rfl, _⟩ := hcq.form
  have HPq := Lib.hid hpq; clear hpq
  have HD7 := Lib.hid (HD5.out.step hs7 ho7 (by omega) (by omega) (by omega)); clear hs7 ho7
  obtain ⟨w8, hw8⟩ : ∃ w8, w8 = w7.alloc (.cells #[.int .i64 mq.c, .int .i64 mq.d, .int .i64 mq.s, .int .i64 mq.e, .int .i64 mq.l, .slice tqa Tq.length tqc] 28) := ⟨_, rfl⟩
  have hb78 : Below w7.heap.size w7 w8 := by rw [hw8]; exact (Below.refl _ _).alloc (Nat.le_refl _) _
  have hM8 : w8.heap[w7.heap.size]? = some (.cells #[.int .i64 mq.c, .int .i64 mq.d, .int .i64 mq.s, .int .i64 mq.e, .int .i64 mq.l, .slice tqa Tq.length tqc] 28 (0, 0)) := by rw [hw8]; exact heap_alloc_self _ _
  have hR8 := heap_below HD7.out.hr hb78 (lt_of_heap HD7.out.hr)
  have H8 := Lib.hid (And.intro (HD7.out.below.trans (hb78.mono (by omega))) (And.intro hR8 (And.intro ((huq.mono (S' := fun b => w2.heap.size ≤ b) (fun b hb _ => by have hb : w5.heap.size ≤ b := hb; show w2.heap.size ≤ b; omega) (fun _ _ _ => rfl)).below hb78) (And.intro ((hcq.mono (S' := fun b => w2.heap.size ≤ b) (fun b hb _ => by have hb : w5.heap.size ≤ b := hb; show w2.heap.size ≤ b; omega) (fun _ _ _ => rfl)).below hb78) (And.intro hM8 hw8))))); clear hw8 hM8 hR8 hb78 huq hcq
  have hcM8 : ∀ o, (w7.alloc (.cells #[.int .i64 mq.c, .int .i64 mq.d, .int .i64 mq.s, .int .i64 mq.e, .int .i64 mq.l, .slice tqa Tq.length tqc] 28)).cell? ⟨w7.heap.size, o, none⟩ = (#[.int .i64 mq.c, .int .i64 mq.d, .int .i64 mq.s, .int .i64 mq.e, .int .i64 mq.l, .slice tqa Tq.length tqc] : Array Value)[o]? := fun o => by rw [← H8.out.2.2.2.2.2, cell_of_block H8.out.2.2.2.2.1]
  have hcRz : ∀ o, (w7.alloc (.cells #[.int .i64 mq.c, .int .i64 mq.d, .int .i64 mq.s, .int .i64 mq.e, .int .i64 mq.l, .slice tqa Tq.length tqc] 28)).cell? ⟨W.heap.size, o, none⟩ = (#[.int .i64 0, .int .i64 0, .int .i64 0, .int .i64 0, .int .i64 0, .slice none 0 0] : Array Value)[o]? := fun o => by rw [← H8.out.2.2.2.2.2, cell_of_block H8.out.2.1]
  have hfRz : ∀ o, (w7.alloc (.cells #[.int .i64 mq.c, .int .i64 mq.d, .int .i64 mq.s, .int .i64 mq.e, .int .i64 mq.l, .slice tqa Tq.length tqc] 28)).frozen? ⟨W.heap.size, o, none⟩ = false := fun o => by rw [← H8.out.2.2.2.2.2]; exact frozen_of_block H8.out.2.1 o
  have hdone := putS_new H8.out.1 H8.out.2.1 (.int .i64 mq.c) (.int .i64 mq.d) (.int .i64 mq.s) (.int .i64 mq.e) (.int .i64 mq.l) (.slice tqa Tq.length tqc)
  obtain ⟨wz, hwz⟩ : ∃ wz, wz = putS w8 W.heap.size (.int .i64 mq.c) (.int .i64 mq.d) (.int .i64 mq.s) (.int .i64 mq.e) (.int .i64 mq.l) (.slice tqa Tq.length tqc) := ⟨_, rfl⟩
  rw [← hwz] at hdone
  obtain ⟨hd2, hd3, hd4⟩ := hdone
  have hFz : V2 (fun b => W.heap.size ≤ b) wz (.slice tqa Tq.length tqc) Tq := V2.mono (S := fun b => w2.heap.size ≤ b) H8.out.2.2.1 (fun b hb _ => by have hb : w2.heap.size ≤ b := hb; omega) (fun b hb _ => hd4 b (by have hb : w2.heap.size ≤ b := hb; omega))
  have hcz : V2 (fun b => W.heap.size ≤ b) wz (.slice cqa cq.length cqc) cq := V2.mono (S := fun b => w2.heap.size ≤ b) H8.out.2.2.2.1 (fun b hb _ => by have hb : w2.heap.size ≤ b := hb; omega) (fun b hb _ => hd4 b (by have hb : w2.heap.size ≤ b := hb; omega))
  have hz0 : wz.cell? ⟨W.heap.size, 0, none⟩ = some (.int .i64 mq.c) := by rw [cell_of_block hd3]; rfl
  have hz1 : wz.cell? ⟨W.heap.size, 1, none⟩ = some (.int .i64 mq.d) := by rw [cell_of_block hd3]; rfl
  have hz2 : wz.cell? ⟨W.heap.size, 2, none⟩ = some (.int .i64 mq.s) := by rw [cell_of_block hd3]; rfl
  have hz3 : wz.cell? ⟨W.heap.size, 3, none⟩ = some (.int .i64 mq.e) := by rw [cell_of_block hd3]; rfl
  have hz4 : wz.cell? ⟨W.heap.size, 4, none⟩ = some (.int .i64 mq.l) := by rw [cell_of_block hd3]; rfl
  have hz5 : wz.cell? ⟨W.heap.size, 5, none⟩ = some (.slice tqa Tq.length tqc) := by rw [cell_of_block hd3]; rfl
  have HZ := Lib.hid (And.intro hd2 (And.intro hFz (And.intro hcz (And.intro hwz (And.intro hz0 (And.intro hz1 (And.intro hz2 (And.intro hz3 (And.intro hz4 hz5))))))))); clear hd2 hd3 hd4 hFz hcz hwz hz0 hz1 hz2 hz3 hz4 hz5
  go_wp2_with fail
  have hwz := HZ.out.2.2.2.1
  unfold putS putR at hwz
  rw [H8.out.2.2.2.2.2] at hwz
  rw [← hwz]
  clear hwz
  obtain ⟨hd2, hFz, hcz, hwzz, hz0, hz1, hz2, hz3, hz4, hz5⟩ := HZ.out
  clear hwzz
  exact bodyPost_ret (v := .tuple #[.agg #[.int .i64 mq.c, .int .i64 mq.d, .int .i64 mq.s, .int .i64 mq.e, .int .i64 mq.l, (.slice tqa Tq.length tqc)], (.slice cqa cq.length cqc), .int .i64 n]) (by simp [results, Tryz.results13, go_sem, hz0, hz1, hz2, hz3, hz4, hz5]) rfl ⟨mq, _, _, Tq, cq, n, rfl, HPq.out, hFz, hcz, hd2⟩
/-- A row of one key. -/
theorem V2.one {S : Nat → Prop} {w : World} {b : Nat} {v : Value} {T : TypeId} {l : List Int} (h : w.heap[b]? = some (.cells #[v] T (0, 0))) (hv : V1 S w v l) (hb : S b) : V2 S w (.slice (some ⟨b, 0, none⟩) 1 1) [l] :=
 ⟨some ⟨b, 0, none⟩, 1, rfl, Nat.le_refl _, by unfold maxLen; omega, fun k hk => by
  obtain rfl : k = 0 := by simp at hk; exact hk
  exact ⟨b, 0, v, rfl, hb, cell_of_block h 0, hv⟩⟩
theorem V3.one {S : Nat → Prop} {w : World} {b : Nat} {v : Value} {T : TypeId} {l : List (List Int)} (h : w.heap[b]? = some (.cells #[v] T (0, 0))) (hv : V2 S w v l) (hb : S b) : V3 S w (.slice (some ⟨b, 0, none⟩) 1 1) [l] :=
 ⟨some ⟨b, 0, none⟩, 1, rfl, Nat.le_refl _, by unfold maxLen; omega, fun k hk => by
  obtain rfl : k = 0 := by simp at hk; exact hk
  exact ⟨b, 0, v, rfl, hb, cell_of_block h 0, hv⟩⟩
set_option maxRecDepth 100000 in
theorem keysCode_any {S : Nat → Prop} (m : Mk) (hm : m.ok = true) (v : Value) (key : List Int) (W : World) (h : V2 S W v [key]) :
  Calls Tryz.prog 110 #[.agg #[.int .i64 m.c, .int .i64 m.d, .int .i64 m.s, .int .i64 m.e, .int .i64 m.l], v] W fun e w' => e = .returned (.int .i64 (if isKeyB m key = true then 0 else 2)) ∧ Below W.heap.size W w' := by
 obtain ⟨a, c, rfl, hmx⟩ := h.form
 obtain ⟨W1, hW1, hB1, hz1, HZ1, hc1, hh1⟩ := box_facts W #[.int .i64 m.c, .int .i64 m.d, .int .i64 m.s, .int .i64 m.e, .int .i64 m.l] 25
 have h1 := h.below hB1
 have hmk := isMaker_any m.c m.d m.s m.e m.l W1
 rw [show isMk m.c m.d m.s m.e m.l = true from hm] at hmk
 obtain ⟨r, hr⟩ : ∃ r, isKeyB m key = r := ⟨_, rfl⟩
 rw [hr]
 have Hl := Lib.hid (And.intro hr (And.intro hmk hm)); clear hr hmk hm hh1
 go_enter Tryz.func110, Tryz.ntmps110
 go_wp2_with fail
 rw [← hW1]
 refine Hl.out.2.1.mono ?_
 rintro e' w2 ⟨rfl, hb2⟩
 have hz2 := hb2.size
 have Hc1 := Lib.hid hc1; clear hc1
 go_wp2_with fail
 go_loopw [6, 12] (fun _ i wr => ∃ k : Nat, k ≤ 1 ∧ (k = 1 → r = true) ∧ i = .int .i64 (k : Int) ∧ Below W1.heap.size W1 wr) (fun _ i _ => (1 - (intOf i).toNat))
 case atStart => exact ⟨0, Nat.zero_le _, fun h => by omega, rfl, hb2⟩
 case round =>
  obtain ⟨k, hk, hkr, rfl, hB⟩ := hrel
  have hzr := hB.size
  by_cases hkk : k = 0
  ·subst hkk
   obtain ⟨b2, off2, a2, c2, rfl, _, hc2, hr2⟩ := (h1.below hB).cell (k := 0) (by simp)
   have hr2' : V1 S wr (.slice a2 key.length c2) key := hr2
   have hc2' : wr.cell? ⟨b2, off2, none⟩ = some (.slice a2 key.length c2) := hc2
   have hxr : ∀ o, wr.cell? ⟨W.heap.size, o, none⟩ = (#[.int .i64 m.c, .int .i64 m.d, .int .i64 m.s, .int .i64 m.e, .int .i64 m.l] : Array Value)[o]? := fun o => by rw [(bcell hB).1 _ _ hz1, Hc1.out]
   have hlk := isKey_b m _ key wr r Hl.out.1 Hl.out.2.2 hr2'
   have Hlk := Lib.hid hlk; clear hlk hc2 hr2 hkr
   cases r
   ·go_wp2_with fail
    refine Hlk.out.mono ?_
    rintro e' w5 ⟨rfl, hb6⟩
    clear hxr
    go_wp2_with fail
    go_ret
    exact ⟨rfl, hB1.trans ((hB.trans (hb6.mono hzr)).mono (by omega))⟩
   ·go_wp2_with fail
    refine Hlk.out.mono ?_
    rintro e' w5 ⟨rfl, hb6⟩
    clear hxr
    go_wp2_with fail
    go_roundw
    case rel => exact ⟨1, Nat.le_refl _, by simp, by go_num, hB.trans (hb6.mono hzr)⟩
    case measure => simp [intOf]
  ·obtain rfl : k = 1 := by omega
   have hrt := hkr rfl
   subst hrt
   go_wp2_with fail
   go_ret
   exact ⟨rfl, hB1.trans (hB.mono (by omega))⟩
def rkStep (key : List Int) (n : Nat) (k : List Int) : Nat × Bool := if k = key then (n, false) else (n + 1, true)
theorem rk_le {key : List Int} : ∀ (l : List (List Int)) (n : Nat), (runL (rkStep key) n l).1 ≤ n + l.length
 | [], n => by simp [runL]
 | k :: l, n => by
   unfold runL
   by_cases h : k = key
   ·have e : rkStep key n k = (n, false) := by unfold rkStep; rw [if_pos h]
    rw [e]; simp
   ·have e : rkStep key n k = (n + 1, true) := by unfold rkStep; rw [if_neg h]
    rw [e, if_pos rfl]
    have := rk_le (key := key) l (n + 1)
    simp only [List.length_cons]; omega
theorem rk_run {key : List Int} {rest : List (List Int)} : ∀ (l : List (List Int)) (n : Nat), key ∉ l → runL (rkStep key) n (l ++ key :: rest) = (n + l.length, false)
 | [], n, _ => by
   have e : rkStep key n key = (n, false) := by unfold rkStep; rw [if_pos rfl]
   rw [List.nil_append, runL, e]; rfl
 | k :: l, n, h => by
   have hk : k ≠ key := fun e => h (by rw [e]; exact List.mem_cons_self ..)
   have e : rkStep key n k = (n + 1, true) := by unfold rkStep; rw [if_neg hk]
   rw [List.cons_append, runL, e, if_pos rfl]
   show runL (rkStep key) (n + 1) (l ++ key :: rest) = _
   rw [rk_run l (n + 1) (fun hm => h (List.mem_cons_of_mem _ hm))]
   simp only [List.length_cons]; congr 1; omega
theorem enters_rank : Enters 112 := fun args w => by kernel_rfl
set_option maxRecDepth 100000 in
theorem rank1_any {S S' : Nat → Prop} (v kv : Value) (k key : List Int) (KB B : Nat) (n : Nat) (T T2 : TypeId) (w : World) (hn : n ≤ 1000000) (hc : w.heap[B]? = some (.cells #[.int .i64 n] T (0, 0))) (hK : w.heap[KB]? = some (.cells #[kv] T2 (0, 0)))
  (hv : V1 S w v k) (hk : V1 S' w kv key) :
  Calls Tryz.prog 112 #[v, .pointer (some ⟨KB, 0, none⟩), .pointer (some ⟨B, 0, none⟩)] w fun e w' => e = .returned (.bool (rkStep key n k).2) ∧ w'.heap[B]? = some (.cells #[.int .i64 ((rkStep key n k).1 : Nat)] T (0, 0)) ∧ Chg (fun b => b = B) w w' := by
 have hc1 := cell_of_block hc 0
 have hf1 := frozen_of_block hc 0
 have hk1 := cell_of_block hK 0
 simp at hc1 hk1
 have Hc := Lib.hid hc; clear hc
 have Hv := Lib.hid (And.intro hv hk); clear hv hk
 obtain ⟨r, hr⟩ : ∃ r, decide (k = key) = r := ⟨_, rfl⟩
 have hst : rkStep key n k = if r = true then (n, false) else (n + 1, true) := by
  unfold rkStep; rw [← hr]; simp only [decide_eq_true_iff]
 rw [hst]
 have Hr := Lib.hid hr; clear hr hst hK
 have hdN : ∀ q : Nat, (w.drewN q).cell? ⟨B, 0, none⟩ = some (.int .i64 n) ∧ (w.drewN q).frozen? ⟨B, 0, none⟩ = false ∧ (w.drewN q).heap = w.heap := fun q => ⟨by simpa using hc1, by simpa using hf1, by simp⟩
 go_enter Tryz.func112, Tryz.ntmps112
 go_wp2_with fail
 refine (slEqual_b _ _ k key _ r Hr.out Hv.out.1 Hv.out.2).mono ?_
 rintro e' w' ⟨rfl, nq, rfl⟩
 obtain ⟨h1, h2, h3⟩ := hdN nq
 clear hdN
 have hch : Chg (fun b => b = B) w (w.drewN nq) := Chg.of_below (below_drewN (Below.refl _ _) nq)
 have HX := Lib.hid (And.intro h3 hch); clear h3 hch
 cases r
 ·go_wp2_with fail
  go_ret
  exact ⟨rfl, by rw [heap_setCell_self (by rw [HX.out.1]; exact Hc.out)]; simp, HX.out.2.setCell (p := ⟨B, 0, none⟩) (.inl rfl) _⟩
 ·go_wp2_with fail
  go_ret
  exact ⟨rfl, by rw [HX.out.1]; exact Hc.out, HX.out.2⟩
theorem rk_ok {S' : Nat → Prop} (m : Mk) (hm : m.ok = true) (w : World) (kv : Value) (key : List Int) (KB B : Nat) (T2 : TypeId) (hK : w.heap[KB]? = some (.cells #[kv] T2 (0, 0))) (hne : KB ≠ B) (hk : V1 S' w kv key) (hS' : ∀ b, S' b → b ≠ B) :
  VisOk m.c.toNat w (fun b => b = B) 112 #[.pointer (some ⟨KB, 0, none⟩), .pointer (some ⟨B, 0, none⟩)] (rkStep key) 0 (keysA m (fun _ _ => true)) (CntInv B) := by
 refine ⟨enters_rank, ?_, ?_, ?_⟩
 ·rintro s F w w' ⟨h1, T, h2⟩ _ h3
  exact ⟨h1, T, by rw [h3 B ((h1 B).2 rfl), h2]⟩
 ·rintro s F w ⟨h1, T, h2⟩ b hb
  rw [(h1 b).1 hb]; exact lt_of_heap h2
 ·rintro s F S w2 v k done rest hL hr ⟨h1, T, h2⟩ hchg hsub hV hS hlen
  have hle := keysA_length (A := fun _ _ => true) hm
  rw [hL] at hle
  have hs := rk_le (key := key) done 0
  rw [hr] at hs
  simp at hle hs
  refine (rank1_any v kv k key KB B s T T2 w2 (by omega) h2 ((hchg.block KB (lt_of_heap hK) hne).trans hK) hV (hk.mono (S' := fun _ => True) (fun _ _ _ => trivial) (fun b hb hlt => hchg.block b hlt (hS' b hb)))).mono ?_
  rintro e w' ⟨rfl, h3, h4⟩
  refine ⟨F, rfl, ⟨h1, T, h3⟩, ?_, fun b hb => .inl hb⟩
  have e : F = fun b => b = B := funext fun b => propext (h1 b)
  rw [e]; exact h4
set_option maxRecDepth 100000 in
set_option maxHeartbeats 1000000 in
theorem RankOf_any {S : Nat → Prop} (m : Mk) (hm : m.ok = true) (v : Value) (key : List Int) (done rest : List (List Int)) (hK : keysOf m = done ++ key :: rest) (W : World) (h : V1 S W v key) :
  Calls Tryz.prog 19 #[.agg #[.int .i64 m.c, .int .i64 m.d, .int .i64 m.s, .int .i64 m.e, .int .i64 m.l], v] W fun e w' => e = .returned (.tuple #[.int .i64 (done.length : Int), .int .i64 0]) ∧ Below W.heap.size W w' := by
 obtain ⟨ka, kc, rfl, hkm⟩ := h.form
 obtain ⟨W1, hW1, hB01, hz01, HZ01, hc01, hh01⟩ := box_facts W #[.int .i64 m.c, .int .i64 m.d, .int .i64 m.s, .int .i64 m.e, .int .i64 m.l] 25
 have hV1 := (h.below hB01).any
 have hmk := Mk.ok_iff.1 hm
 have hkey : isKeyB m key = true := (mem_keysOf (by omega)).1 (by rw [hK]; simp)
 clear hmk
 obtain ⟨W2, hW2⟩ : ∃ W2, W2 = W1.alloc (.cells #[.slice ka key.length kc] 35) := ⟨_, rfl⟩
 have hb12 : Below W1.heap.size W1 W2 := by rw [hW2]; exact (Below.refl _ _).alloc (Nat.le_refl _) _
 have hK2 : W2.heap[W1.heap.size]? = some (.cells #[.slice ka key.length kc] 35 (0, 0)) := by rw [hW2]; exact heap_alloc_self _ _
 have hz2 : W1.heap.size < W2.heap.size := lt_of_heap hK2
 obtain ⟨W3, hW3⟩ : ∃ W3, W3 = W2.alloc (.cells #[.slice ka key.length kc] 35) := ⟨_, rfl⟩
 have hb23 : Below W2.heap.size W2 W3 := by rw [hW3]; exact (Below.refl _ _).alloc (Nat.le_refl _) _
 have hK3 : W3.heap[W2.heap.size]? = some (.cells #[.slice ka key.length kc] 35 (0, 0)) := by rw [hW3]; exact heap_alloc_self _ _
 have hz3 : W2.heap.size < W3.heap.size := lt_of_heap hK3
 have hV3 := ((hV1.below hb12).below hb23).any
 have hR := V2.one (S := fun _ => True) hK3 hV3 trivial
 have hM2 : W2.heap[W.heap.size]? = some (.cells #[.int .i64 m.c, .int .i64 m.d, .int .i64 m.s, .int .i64 m.e, .int .i64 m.l] 25 (0, 0)) := heap_below hh01 hb12 hz01
 have he1 : W1.heap.size = W.heap.size + 1 := HZ01.out
 have he2 : W2.heap.size = W.heap.size + 1 + 1 := by rw [hW2]; simp [he1]
 have H3 := Lib.hid (And.intro hR (And.intro (heap_below hM2 hb23 (by omega)) (And.intro (heap_below hK2 hb23 hz2) (And.intro hW1 (And.intro hW2 (And.intro hW3 (And.intro hkey (And.intro hm hK)))))))); clear hR hM2 hK2 hK3 hW2 hW3 hkey hm hK hh01 hV1 hV3
 have Hb := Lib.hid (hB01.trans ((hb12.trans (hb23.mono (by omega))).mono (by omega))); clear hb12 hb23
 go_enter Tryz.func19, Tryz.ntmps19
 go_wp2_with fail
 rw [← H3.out.2.2.2.1, ← H3.out.2.2.2.2.1, ← H3.out.2.2.2.2.2.1, ← he2, ← he1]
 have He := Lib.hid (And.intro he1 he2); clear he1 he2 hW1
 refine (keysCode_any m H3.out.2.2.2.2.2.2.2.1 _ key W3 H3.out.1).mono ?_
 rintro e' w4 ⟨rfl, hb4⟩
 rw [if_pos H3.out.2.2.2.2.2.2.1]
 have hz4 := hb4.size
 have hM4 := heap_below H3.out.2.1 hb4 (by omega)
 have hK4 := heap_below H3.out.2.2.1 hb4 (by omega)
 have hcM4 : ∀ o, w4.cell? ⟨W.heap.size, o, none⟩ = (#[.int .i64 m.c, .int .i64 m.d, .int .i64 m.s, .int .i64 m.e, .int .i64 m.l] : Array Value)[o]? := fun o => by rw [cell_of_block hM4]
 obtain ⟨w5, hw5⟩ : ∃ w5, w5 = w4.alloc (.cells #[.int .i64 0] 2) := ⟨_, rfl⟩
 have hb45 : Below w4.heap.size w4 w5 := by rw [hw5]; exact (Below.refl _ _).alloc (Nat.le_refl _) _
 have hR5 : w5.heap[w4.heap.size]? = some (.cells #[.int .i64 0] 2 (0, 0)) := by rw [hw5]; exact heap_alloc_self _ _
 have hcM5 : ∀ o, w5.cell? ⟨W.heap.size, o, none⟩ = (#[.int .i64 m.c, .int .i64 m.d, .int .i64 m.s, .int .i64 m.e, .int .i64 m.l] : Array Value)[o]? := fun o => by rw [cell_of_block (heap_below hM4 hb45 (by omega))]
 have hV5 := ((((h.mono (S' := fun b => b < W.heap.size) (fun b _ hlt => hlt) (fun _ _ _ => rfl)).below hB01).below (w' := W2) (by rw [H3.out.2.2.2.2.1]; exact (Below.refl _ _).alloc (Nat.le_refl _) _)).below (w' := W3) (by rw [H3.out.2.2.2.2.2.1]; exact (Below.refl _ _).alloc (Nat.le_refl _) _)).below hb4 |>.below hb45
 have hz5 := hb45.size
 have H5 := Lib.hid (And.intro (rk_ok m H3.out.2.2.2.2.2.2.2.1 w5 _ key W1.heap.size w4.heap.size 35 (heap_below hK4 hb45 (by omega)) (by omega) hV5 (fun b hb => by have hb : b < W.heap.size := hb; omega)) (And.intro hR5 (And.intro (Hb.out.trans ((hb4.trans (hb45.mono hz4)).mono (by omega))) hw5)))
 have hcM6 : ∀ o, (w4.alloc (.cells #[.int .i64 0] 2)).cell? ⟨W.heap.size, o, none⟩ = (#[.int .i64 m.c, .int .i64 m.d, .int .i64 m.s, .int .i64 m.e, .int .i64 m.l] : Array Value)[o]? := fun o => by rw [← hw5]; exact hcM5 o
 clear hw5 hb45 hR5 hV5 hM4 hK4 hb4
 go_wp2_with fail
 rw [← H5.out.2.2.2]
 refine (eachKey_any H3.out.2.2.2.2.2.2.2.1 w5 H5.out.1 (.inl ⟨rfl, fun _ _ => rfl⟩) ⟨fun b => Iff.rfl, 2, H5.out.2.1⟩).mono ?_
 rintro e w6 ⟨F', ⟨hF, T, hc⟩, hchg, hsub, rfl⟩
 have hrun : (runL (rkStep key) 0 (genF m (fun _ _ => true) [] false m.c.toNat [])).1 = done.length := by
  show (runL (rkStep key) 0 (keysA m (fun _ _ => true))).1 = _
  have hn : key ∉ done := fun hm => by
   have h1 := keysOf_nodup m
   rw [H3.out.2.2.2.2.2.2.2.2, List.nodup_append] at h1
   exact h1.2.2 key hm key (List.mem_cons_self ..) rfl
  rw [keysA_all, H3.out.2.2.2.2.2.2.2.2, rk_run done 0 hn]
  simp
 rw [hrun] at hc
 have hc1 := cell_of_block hc 0
 simp at hc1
 have Hchg := Lib.hid hchg; clear hchg hc hrun hsub hF hcM4 hcM5 hcM6
 go_wp2_with fail
 go_ret2
 exact ⟨rfl, H5.out.2.2.1.trans (Hchg.out.to_below (fun i hi => by omega) (by omega))⟩
end Go.Proofs.YtmaefilliggjiaaGreat
