/- The first false opening of partial cuts: both answers. No conditions. -/
import Derived.OwnWalk
import Derived.Test.YtmjplkbmhdkggaaGreatMRowsR
import Derived.Test.YtmjplkbmhdkggaaGreatMDraw17
import Derived.Test.YtmjplkbmhdkggaaGreatMRefFirst
import Derived.Test.YtmjplkbmhdkggaaGreatMTable
namespace Go.Proofs.YtmjplkbmhdkggaaGreat
open Go.RowKit
set_option linter.unusedVariables false
set_option linter.unusedSimpArgs false
set_option maxRecDepth 100000 in
set_option maxHeartbeats 1000000 in
theorem PartFault_any {S S' : Nat → Prop} (m : Mk) (u v : Value) (t cuts : List (List Int)) (W : World) (h : V2 S W u t) (hc : V2 S' W v cuts) :
  Calls Tryz.prog 70 #[.agg #[.int .i64 m.c, .int .i64 m.d, .int .i64 m.s, .int .i64 m.e, .int .i64 m.l, u], v] W fun e' w' => e' = .returned (.tuple #[.int .i64 (pfAns m t cuts).1, .int .i64 (pfAns m t cuts).2.1, .int .i64 (pfAns m t cuts).2.2]) ∧ Below W.heap.size W w' := by
 obtain ⟨a, c, rfl, hmx⟩ := h.form
 obtain ⟨a', c', rfl, hmx'⟩ := hc.form
 obtain ⟨W1, hW1, hB01, hz01, HZ01, hc01, hh01⟩ := box_facts W #[.int .i64 m.c, .int .i64 m.d, .int .i64 m.s, .int .i64 m.e, .int .i64 m.l, .slice a t.length c] 33
 have hV1 : V2 (fun _ => True) W1 (.slice a t.length c) t := (h.below hB01).mono (fun _ _ _ => trivial) (fun _ _ _ => rfl)
 have hC1 : V2 (fun _ => True) W1 (.slice a' cuts.length c') cuts := (hc.below hB01).mono (fun _ _ _ => trivial) (fun _ _ _ => rfl)
 have hpart := partCode_any m _ _ t cuts W1 hV1 hC1
 by_cases hp : partC m t cuts = 0
 ·rw [hp] at hpart
  have hf := fits_of hp
  have hmk := Mk.ok_iff.1 hf.ok
  have hpf := fun w (hb : Below W1.heap.size W1 w) => partFaults_any m _ _ t cuts m.c.toNat w hf (by omega) (hV1.below hb) (hC1.below hb)
  have hget := fun (hk : 0 < (falseL m.c.toNat t cuts).length) => falseL_get hk
  have hfin : pfAns m t cuts = firstPair (falseL m.c.toNat t cuts) := by unfold pfAns; rw [if_neg (by rw [hp]; decide)]
  rw [hfin]
  obtain ⟨L, hL⟩ : ∃ L, falseL m.c.toNat t cuts = L := ⟨_, rfl⟩
  rw [hL] at hget ⊢
  simp only [hL] at hpf
  by_cases hL0 : L.length = 0
  ·have hfp : firstPair L = (0, 0, 4) := by unfold firstPair; rw [if_pos hL0]
   rw [hfp]
   have hd : ((L.length : Int) == 0) = true := by simp [hL0]
   have Hd := Lib.hid hd
   have H := Lib.hid (And.intro hpart (And.intro hpf (And.intro hfp (And.intro hf hL)))); clear hpart hpf hfp hf hL hL0 hd hfin hget hp hmk
   go_enter Tryz.func70, Tryz.ntmps70
   go_wp2_with fail
   rw [← hW1]
   refine H.out.1.mono ?_
   rintro e' w2 ⟨rfl, hb2⟩
   have hx2 : ∀ o, w2.cell? ⟨W.heap.size, o, none⟩ = (#[.int .i64 m.c, .int .i64 m.d, .int .i64 m.s, .int .i64 m.e, .int .i64 m.l, .slice a t.length c] : Array Value)[o]? := fun o => by rw [(bcell hb2).1 _ _ hz01, hc01]
   have hz2 : W.heap.size < w2.heap.size := by have := hb2.size; omega
   clear hc01 hh01
   have HW1 := Lib.hid hW1; clear hW1
   go_wp2_with fail
   refine (H.out.2.1 _ hb2).mono ?_
   rintro e' w3 ⟨v3, rfl, hF3, hb3⟩
   obtain ⟨a3, c3, rfl, _⟩ := hF3.v2.form
   have hd := Hd.out
   clear hx2 hF3
   go_wp2_with fail
   go_ret3
   exact ⟨rfl, hB01.trans ((hb2.trans (hb3.mono hb2.size)).mono (by omega))⟩
  ·obtain ⟨i, d, hi, hdd, hge, _, _⟩ := hget (by omega)
   have hfp : firstPair L = ((i : Int), (d : Int), 0) := by unfold firstPair; rw [if_neg hL0, hge]; rfl
   rw [hfp]
   have hL1 : 0 < L.length := by omega
   have hd : ((L.length : Int) == 0) = false := by rw [beq_eq_false_iff_ne]; omega
   have Hd := Lib.hid hd
   have H := Lib.hid (And.intro hpart (And.intro hpf (And.intro hfp (And.intro hf (And.intro hL hge))))); clear hpart hpf hfp hf hL hL0 hd hfin hget hp hmk hge hdd hi
   go_enter Tryz.func70, Tryz.ntmps70
   go_wp2_with fail
   rw [← hW1]
   refine H.out.1.mono ?_
   rintro e' w2 ⟨rfl, hb2⟩
   have hx2 : ∀ o, w2.cell? ⟨W.heap.size, o, none⟩ = (#[.int .i64 m.c, .int .i64 m.d, .int .i64 m.s, .int .i64 m.e, .int .i64 m.l, .slice a t.length c] : Array Value)[o]? := fun o => by rw [(bcell hb2).1 _ _ hz01, hc01]
   have hz2 : W.heap.size < w2.heap.size := by have := hb2.size; omega
   clear hc01 hh01
   have HW1 := Lib.hid hW1; clear hW1
   go_wp2_with fail
   refine (H.out.2.1 _ hb2).mono ?_
   rintro e' w3 ⟨v3, rfl, hF3, hb3⟩
   obtain ⟨a3, c3, rfl, _⟩ := hF3.v2.form
   obtain ⟨b4, off4, a4, c4, rfl, _, hc4, hr4⟩ := hF3.v2.cell hL1
   rw [H.out.2.2.2.2.2] at hc4 hr4
   obtain ⟨b5, off5, rfl, _, hc5⟩ := hr4.cell (k := 0) (by simp)
   obtain ⟨b6, off6, e6, _, hc6⟩ := hr4.cell (k := 1) (by simp)
   obtain ⟨rfl, rfl⟩ : b5 = b6 ∧ off5 = off6 := by simpa using e6
   simp only [geti, List.getD_cons_zero, List.getD_cons_succ, List.length_cons, List.length_nil, Nat.add_zero, Nat.zero_add] at hc4 hc5 hc6
   have hd := Hd.out
   clear hx2 hF3 hr4 e6
   go_wp2_with fail
   go_region
   all_goals
    go_wp2_with fail
    go_ret3
    exact ⟨rfl, hB01.trans ((hb2.trans ((hb3.trans ((Below.refl _ _).drew.mono hb3.size)).mono hb2.size)).mono (by omega))⟩
 ·have hfin : pfAns m t cuts = (0, 0, partC m t cuts) := by unfold pfAns; rw [if_pos hp]
  have e1 : (partC m t cuts != 0) = true := by simp [hp]
  rw [hfin]
  have Hp := Lib.hid hp; clear hp hfin
  generalize partC m t cuts = pc at *
  go_enter Tryz.func70, Tryz.ntmps70
  go_wp2_with fail
  rw [← hW1]
  refine hpart.mono ?_
  rintro e' w2 ⟨rfl, hb2⟩
  clear hc01 hh01
  go_wp2_with fail
  go_ret3
  exact ⟨rfl, hB01.trans (hb2.mono (by omega))⟩
set_option maxRecDepth 100000 in
set_option maxHeartbeats 1000000 in
theorem PartFaultR_any {S S' : Nat → Prop} (m : Mk) (u v : Value) (t cuts : List (List Int)) (W : World) (h : V2 S W u t) (hc : V2 S' W v cuts) :
  Calls Tryz.prog 73 #[.agg #[.int .i64 m.c, .int .i64 m.d, .int .i64 m.s, .int .i64 m.e, .int .i64 m.l, u], v] W fun e' w' => e' = .returned (.tuple #[.int .i64 (pfAns m t cuts).1, .int .i64 (pfAns m t cuts).2.1, .int .i64 (pfAns m t cuts).2.2]) ∧ Below W.heap.size W w' := by
 obtain ⟨a, c, rfl, hmx⟩ := h.form
 obtain ⟨a', c', rfl, hmx'⟩ := hc.form
 obtain ⟨W1, hW1, hB01, hz01, HZ01, hc01, hh01⟩ := box_facts W #[.int .i64 m.c, .int .i64 m.d, .int .i64 m.s, .int .i64 m.e, .int .i64 m.l, .slice a t.length c] 33
 have hV1 : V2 (fun _ => True) W1 (.slice a t.length c) t := (h.below hB01).mono (fun _ _ _ => trivial) (fun _ _ _ => rfl)
 have hC1 : V2 (fun _ => True) W1 (.slice a' cuts.length c') cuts := (hc.below hB01).mono (fun _ _ _ => trivial) (fun _ _ _ => rfl)
 have hpart := l16Code_any m _ _ t cuts W1 hV1 hC1
 by_cases hp : partC m t cuts = 0
 ·rw [hp] at hpart
  have hf := fits_of hp
  have hmk := Mk.ok_iff.1 hf.ok
  have hpf := fun w (hb : Below W1.heap.size W1 w) => l15False_any m _ _ t cuts m.c.toNat w hf (by omega) (hV1.below hb) (hC1.below hb)
  have hget := fun (hk : 0 < (falseL m.c.toNat t cuts).length) => falseL_get hk
  have hfin : pfAns m t cuts = firstPair (falseL m.c.toNat t cuts) := by unfold pfAns; rw [if_neg (by rw [hp]; decide)]
  rw [hfin]
  obtain ⟨L, hL⟩ : ∃ L, falseL m.c.toNat t cuts = L := ⟨_, rfl⟩
  rw [hL] at hget ⊢
  simp only [hL] at hpf
  by_cases hL0 : L.length = 0
  ·have hfp : firstPair L = (0, 0, 4) := by unfold firstPair; rw [if_pos hL0]
   rw [hfp]
   have hd : ((L.length : Int) == 0) = true := by simp [hL0]
   have Hd := Lib.hid hd
   have H := Lib.hid (And.intro hpart (And.intro hpf (And.intro hfp (And.intro hf hL)))); clear hpart hpf hfp hf hL hL0 hd hfin hget hp hmk
   go_enter Tryz.func73, Tryz.ntmps73
   go_wp2_with fail
   rw [← hW1]
   refine H.out.1.mono ?_
   rintro e' w2 ⟨rfl, hb2⟩
   have hx2 : ∀ o, w2.cell? ⟨W.heap.size, o, none⟩ = (#[.int .i64 m.c, .int .i64 m.d, .int .i64 m.s, .int .i64 m.e, .int .i64 m.l, .slice a t.length c] : Array Value)[o]? := fun o => by rw [(bcell hb2).1 _ _ hz01, hc01]
   have hz2 : W.heap.size < w2.heap.size := by have := hb2.size; omega
   clear hc01 hh01
   have HW1 := Lib.hid hW1; clear hW1
   go_wp2_with fail
   refine (H.out.2.1 _ hb2).mono ?_
   rintro e' w3 ⟨v3, rfl, hF3, hb3⟩
   obtain ⟨a3, c3, rfl, _⟩ := hF3.v2.form
   have hd := Hd.out
   clear hx2 hF3
   go_wp2_with fail
   go_ret3
   exact ⟨rfl, hB01.trans ((hb2.trans (hb3.mono hb2.size)).mono (by omega))⟩
  ·obtain ⟨i, d, hi, hdd, hge, _, _⟩ := hget (by omega)
   have hfp : firstPair L = ((i : Int), (d : Int), 0) := by unfold firstPair; rw [if_neg hL0, hge]; rfl
   rw [hfp]
   have hL1 : 0 < L.length := by omega
   have hd : ((L.length : Int) == 0) = false := by rw [beq_eq_false_iff_ne]; omega
   have Hd := Lib.hid hd
   have H := Lib.hid (And.intro hpart (And.intro hpf (And.intro hfp (And.intro hf (And.intro hL hge))))); clear hpart hpf hfp hf hL hL0 hd hfin hget hp hmk hge hdd hi
   go_enter Tryz.func73, Tryz.ntmps73
   go_wp2_with fail
   rw [← hW1]
   refine H.out.1.mono ?_
   rintro e' w2 ⟨rfl, hb2⟩
   have hx2 : ∀ o, w2.cell? ⟨W.heap.size, o, none⟩ = (#[.int .i64 m.c, .int .i64 m.d, .int .i64 m.s, .int .i64 m.e, .int .i64 m.l, .slice a t.length c] : Array Value)[o]? := fun o => by rw [(bcell hb2).1 _ _ hz01, hc01]
   have hz2 : W.heap.size < w2.heap.size := by have := hb2.size; omega
   clear hc01 hh01
   have HW1 := Lib.hid hW1; clear hW1
   go_wp2_with fail
   refine (H.out.2.1 _ hb2).mono ?_
   rintro e' w3 ⟨v3, rfl, hF3, hb3⟩
   obtain ⟨a3, c3, rfl, _⟩ := hF3.v2.form
   obtain ⟨b4, off4, a4, c4, rfl, _, hc4, hr4⟩ := hF3.v2.cell hL1
   rw [H.out.2.2.2.2.2] at hc4 hr4
   obtain ⟨b5, off5, rfl, _, hc5⟩ := hr4.cell (k := 0) (by simp)
   obtain ⟨b6, off6, e6, _, hc6⟩ := hr4.cell (k := 1) (by simp)
   obtain ⟨rfl, rfl⟩ : b5 = b6 ∧ off5 = off6 := by simpa using e6
   simp only [geti, List.getD_cons_zero, List.getD_cons_succ, List.length_cons, List.length_nil, Nat.add_zero, Nat.zero_add] at hc4 hc5 hc6
   have hd := Hd.out
   clear hx2 hF3 hr4 e6
   go_wp2_with fail
   go_region
   all_goals
    go_wp2_with fail
    go_ret3
    exact ⟨rfl, hB01.trans ((hb2.trans ((hb3.trans ((Below.refl _ _).drew.mono hb3.size)).mono hb2.size)).mono (by omega))⟩
 ·have hfin : pfAns m t cuts = (0, 0, partC m t cuts) := by unfold pfAns; rw [if_pos hp]
  have e1 : (partC m t cuts != 0) = true := by simp [hp]
  rw [hfin]
  have Hp := Lib.hid hp; clear hp hfin
  generalize partC m t cuts = pc at *
  go_enter Tryz.func73, Tryz.ntmps73
  go_wp2_with fail
  rw [← hW1]
  refine hpart.mono ?_
  rintro e' w2 ⟨rfl, hb2⟩
  clear hc01 hh01
  go_wp2_with fail
  go_ret3
  exact ⟨rfl, hB01.trans (hb2.mono (by omega))⟩
theorem filter_ne_len {x : Int} : ∀ {L : List Int}, L.Pairwise (· < ·) → x ∈ L → (L.filter fun y => decide (y ≠ x)).length + 1 = L.length
 | [], _, h => by cases h
 | y :: ys, hp, h => by
   rw [List.pairwise_cons] at hp
   by_cases e : y = x
   ·subst e
    have : ys.filter (fun z => decide (z ≠ y)) = ys := List.filter_eq_self.2 fun z hz => by have := hp.1 z hz; simp; omega
    rw [List.filter_cons, if_neg (by simp), this, List.length_cons]
   ·have hx : x ∈ ys := by rcases List.mem_cons.1 h with h | h; exact absurd h.symm e; exact h
    rw [List.filter_cons, if_pos (by simp [e]), List.length_cons, List.length_cons, filter_ne_len hp.2 hx]
theorem diff_snoc (a : List Int) (x : Int) : (diffI (a ++ [x])).length = (diffI a).length + if x ∈ a then 0 else 1 := by
 obtain ⟨s1, m1⟩ := diffI_sort (a ++ [x])
 obtain ⟨s2, m2⟩ := diffI_sort a
 by_cases h : x ∈ a
 ·rw [if_pos h, Nat.add_zero]
  congr 1
  refine sorted_ext s1 s2 fun y => ?_
  rw [m1, m2, List.mem_append, List.mem_singleton]
  exact ⟨fun hh => by rcases hh with hh | hh; exact hh; rw [hh]; exact h, .inl⟩
 ·rw [if_neg h]
  have e : (diffI (a ++ [x])).filter (fun y => decide (y ≠ x)) = diffI a := by
   refine sorted_ext (s1.filter _) s2 fun y => ?_
   rw [List.mem_filter, m1, m2, List.mem_append, List.mem_singleton, decide_eq_true_eq]
   exact ⟨fun ⟨h1, h2⟩ => by rcases h1 with h1 | h1; exact h1; exact absurd h1 h2, fun hy => ⟨.inl hy, fun e => h (by rw [← e]; exact hy)⟩⟩
  rw [← e]
  exact (filter_ne_len s1 ((m1 x).2 (by simp))).symm
theorem kindsTo_diff (l : List Int) : ∀ k, k ≤ l.length → kindsTo l k = (diffI (l.take k)).length
 | 0, _ => by
   have : diffI (l.take 0) = [] := List.eq_nil_iff_forall_not_mem.2 fun y hy => by rw [(diffI_sort _).2, List.take_zero] at hy; cases hy
   rw [this]; rfl
 | k + 1, h => by
   rw [kindsTo, kindsTo_diff l k (by omega), take_geti h, diff_snoc]
   congr 1
   by_cases e : geti l k ∈ l.take k
   ·rw [if_pos e, if_pos (hasI_iff.2 e)]
   ·rw [if_neg e, if_neg (fun hh => e (hasI_iff.1 hh))]
theorem kinds_diff (l : List Int) : kinds l = (diffI l).length := by
 unfold kinds; rw [kindsTo_diff l _ (Nat.le_refl _), List.take_length]
/-- The better of two best choices. -/
def comb (n : Nat) (o p : Option (List Int)) : Option (List Int) := match p with
 | none => o
 | some l => better n o l
theorem comb_better (n : Nat) (o p : Option (List Int)) (x : List Int) : comb n o (better n p x) = better n (comb n o p) x := by
 cases o with
 | none => cases p with
   | none => rfl
   | some l =>
     by_cases h : wt n x < wt n l
     ·simp [comb, better, h]
     ·simp [comb, better, h]
 | some a => cases p with
   | none => rfl
   | some l =>
     by_cases h1 : wt n x < wt n l <;> by_cases h2 : wt n l < wt n a <;> by_cases h3 : wt n x < wt n a <;> simp [comb, better, h1, h2, h3] <;> omega
theorem foldl_comb (n : Nat) (o : Option (List Int)) : ∀ (L : List (List Int)), L.foldl (better n) o = comb n o (bestW n L) := by
 have key : ∀ (L : List (List Int)) (p : Option (List Int)), L.foldl (better n) (comb n o p) = comb n o (L.foldl (better n) p) := by
  intro L
  induction L with
  | nil => intro p; rfl
  | cons x L ih => intro p; rw [List.foldl_cons, List.foldl_cons, ← comb_better, ih]
 intro L
 exact key L none
theorem bestW_append (n : Nat) (L1 L2 : List (List Int)) : bestW n (L1 ++ L2) = comb n (bestW n L1) (bestW n L2) := by
 unfold bestW; rw [List.foldl_append]; exact foldl_comb n _ L2
/-- The choices that begin with beg. -/
def extR (rows : List (List Int)) (beg : List Int) : List (List Int) := (allR (rows.drop beg.length)).map fun l => beg ++ l
def extTo (rows : List (List Int)) (beg : List Int) (x : Nat) : List (List Int) := ((getl rows beg.length).take x).flatMap fun y => extR rows (beg ++ [y])
theorem extR_end {rows : List (List Int)} {beg : List Int} (h : beg.length = rows.length) : extR rows beg = [beg] := by
 unfold extR; rw [h, List.drop_length]; simp [allR]
theorem extR_all {rows : List (List Int)} {beg : List Int} (h : beg.length < rows.length) : extR rows beg = extTo rows beg (getl rows beg.length).length := by
 unfold extTo extR
 rw [List.take_length, List.drop_eq_getElem_cons h, allR, List.map_flatMap, getl_eq h]
 congr 1
 funext x
 rw [List.map_map, List.length_append, List.length_singleton]
 congr 1
 funext l
 simp
theorem extTo_succ (rows : List (List Int)) (beg : List Int) {x : Nat} (h : x < (getl rows beg.length).length) : extTo rows beg (x + 1) = extTo rows beg x ++ extR rows (beg ++ [geti (getl rows beg.length) x]) := by
 unfold extTo; rw [take_geti h, List.flatMap_append]; simp
theorem mem_extR {rows : List (List Int)} {beg l : List Int} (h : l ∈ extR rows beg) : ∃ t, l = beg ++ t ∧ t.length = (rows.drop beg.length).length ∧ ∀ k, k < (rows.drop beg.length).length → geti t k ∈ getl (rows.drop beg.length) k := by
 unfold extR at h
 rw [List.mem_map] at h
 obtain ⟨t, ht, rfl⟩ := h
 obtain ⟨h1, h2⟩ := mem_allR.1 ht
 exact ⟨t, rfl, h1, h2⟩
theorem codeL_pre {p a b : List Int} (hl : a.length = b.length) (h : codeL a < codeL b) : codeL (p ++ a) < codeL (p ++ b) := by
 induction p with
 | nil => exact h
 | cons x p ih =>
   show codeL (x :: (p ++ a)) < codeL (x :: (p ++ b))
   rw [codeL, codeL, List.length_append, List.length_append, hl]
   omega
theorem extR_dig {n : Nat} {rows : List (List Int)} (hR : RowsOk n rows) {beg l : List Int} (hb : Dig beg) (hbl : beg.length ≤ rows.length) (h : l ∈ extR rows beg) : Dig l ∧ l.length = rows.length := by
 obtain ⟨t, rfl, h1, h2⟩ := mem_extR h
 rw [List.length_drop] at h1
 refine ⟨fun x hx => ?_, by rw [List.length_append]; omega⟩
 rcases List.mem_append.1 hx with hx | hx
 ·exact hb x hx
 ·obtain ⟨k, hk, rfl⟩ := List.getElem_of_mem hx
  have h3 := h2 k (by rw [List.length_drop]; omega)
  rw [show getl (rows.drop beg.length) k = getl rows (beg.length + k) from by simp [getl]] at h3
  have := hR.low _ _ h3
  rw [geti_eq hk] at this
  have := hR.few
  omega
/-- A later branch holds greater choices. -/
theorem ext_lt {n : Nat} {rows : List (List Int)} (hR : RowsOk n rows) {beg b l : List Int} {x : Nat} (hx : x < (getl rows beg.length).length) (hbl : beg.length < rows.length) (h1 : b ∈ extTo rows beg x) (h2 : l ∈ extR rows (beg ++ [geti (getl rows beg.length) x])) : codeL b < codeL l := by
 unfold extTo at h1
 rw [List.mem_flatMap] at h1
 obtain ⟨y, hy, hby⟩ := h1
 obtain ⟨i, hi, rfl⟩ := List.getElem_of_mem hy
 rw [List.length_take] at hi
 rw [List.getElem_take] at hby
 have hlt := List.pairwise_iff_getElem.1 (hR.up beg.length) i x (by omega) hx (by omega)
 obtain ⟨t1, rfl, e1, g1⟩ := mem_extR hby
 obtain ⟨t2, rfl, e2, g2⟩ := mem_extR h2
 rw [geti_eq hx] at *
 have d1 : ∀ {z : Int} {t : List Int}, z ∈ getl rows beg.length → t.length = (rows.drop (beg ++ [z]).length).length → (∀ k, k < (rows.drop (beg ++ [z]).length).length → geti t k ∈ getl (rows.drop (beg ++ [z]).length) k) → Dig (z :: t) := by
  intro z t hz ht hg w hw
  rcases List.mem_cons.1 hw with e | hw
  ·rw [e]; have := hR.low _ _ hz; have := hR.few; omega
  ·obtain ⟨k, hk, rfl⟩ := List.getElem_of_mem hw
   have h3 := hg k (by omega)
   rw [show getl (rows.drop (beg ++ [z]).length) k = getl rows ((beg ++ [z]).length + k) from by simp [getl]] at h3
   have := hR.low _ _ h3
   rw [geti_eq hk] at this
   have := hR.few
   omega
 have hl : t1.length = t2.length := by rw [e1, e2]; simp
 rw [List.append_assoc, List.append_assoc]
 refine codeL_pre (by simp [hl]) ?_
 exact codeL_cons (d1 (List.getElem_mem _) e1 g1) (d1 (List.getElem_mem _) e2 g2) hl hlt
theorem extTo_dig {n : Nat} {rows : List (List Int)} (hR : RowsOk n rows) {beg b : List Int} {x : Nat} (hb : Dig beg) (hbl : beg.length < rows.length) (h : b ∈ extTo rows beg x) : Dig b ∧ b.length = rows.length := by
 unfold extTo at h
 rw [List.mem_flatMap] at h
 obtain ⟨y, hy, hby⟩ := h
 have hy2 := hR.low _ _ (List.mem_of_mem_take hy)
 refine extR_dig hR (fun z hz => ?_) (by simp; omega) hby
 rcases List.mem_append.1 hz with hz | hz
 ·exact hb z hz
 ·obtain rfl := List.mem_singleton.1 hz
  have := hR.few; omega
/-- The best choice grows branch by branch: a later branch's best one is taken if it has fewer different rows. -/
theorem ext_best {n : Nat} {rows : List (List Int)} (hR : RowsOk n rows) {beg : List Int} {x : Nat} (hb : Dig beg) (hx : x < (getl rows beg.length).length) (hbl : beg.length < rows.length) :
  bestW rows.length (extTo rows beg (x + 1)) = match bestW rows.length (extR rows (beg ++ [geti (getl rows beg.length) x])) with
   | none => bestW rows.length (extTo rows beg x)
   | some l => match bestW rows.length (extTo rows beg x) with
     | none => some l
     | some b => if kinds l < kinds b then some l else some b := by
 rw [extTo_succ rows beg hx, bestW_append]
 cases hl : bestW rows.length (extR rows (beg ++ [geti (getl rows beg.length) x])) with
 | none => rfl
 | some l =>
   cases hbo : bestW rows.length (extTo rows beg x) with
   | none => rfl
   | some b =>
     have m1 := (bestW_some hl).1
     have m2 := (bestW_some hbo).1
     have hlt := ext_lt hR hx hbl m2 m1
     have hy2 := hR.low _ _ (geti_mem hx)
     have d1 := extR_dig hR (beg := beg ++ [geti (getl rows beg.length) x]) (fun z hz => by
      rcases List.mem_append.1 hz with hz | hz
      ·exact hb z hz
      ·obtain rfl := List.mem_singleton.1 hz
       have := hR.few; omega) (by simp; omega) m1
     have d2 := extTo_dig hR hb hbl m2
     have hw := wt_lt d1.1 d2.1 d1.2 d2.2
     show better rows.length (some b) l = _
     unfold better
     simp only
     rw [kinds_diff, kinds_diff]
     by_cases h : (diffI l).length < (diffI b).length
     ·rw [if_pos h, if_pos (hw.2 (.inl h))]
     ·rw [if_neg h, if_neg (fun hh => by rcases hw.1 hh with h3 | h3 <;> omega)]
def ShPost (S : Nat → Prop) (W : World) (o : Option (List Int)) (e' : Ending) (w' : World) : Prop :=
 ∃ v', e' = .returned (.tuple #[v', .bool o.isSome]) ∧ V1 (fun b => S b ∨ W.heap.size ≤ b) w' v' (o.getD []) ∧ Below W.heap.size W w'
theorem sh_at {b2 o2 : Nat} {c6 : Value} {wr w' : World} (h : wr.cell? ⟨b2, o2, none⟩ = some c6) (hc : Below wr.heap.size wr w') : w'.cell? ⟨b2, o2, none⟩ = some c6 ∧ Below wr.heap.size wr w' := ⟨cell_keep h (hc.block _ (lt_of_cell h)), hc⟩
theorem sh_b {b2 o2 : Nat} {c6 : Value} {wr w : World} (h : w.cell? ⟨b2, o2, none⟩ = some c6 ∧ Below wr.heap.size wr w) : Below wr.heap.size wr w := h.2
theorem V1.nil0 {S : Nat → Prop} {w : World} {b : Nat} (hb : S b) : V1 S w (.slice (some ⟨b, 0, none⟩) 0 0) [] := ⟨_, 0, rfl, Nat.le_refl _, Nat.zero_le _, fun k hk => by simp at hk⟩
set_option maxRecDepth 100000 in
set_option maxHeartbeats 4000000 in
theorem l18Short_any {n : Nat} (rows : List (List Int)) (hR : RowsOk n rows) (hl : 2 ≤ rows.length ∧ rows.length ≤ 6) :
  ∀ (rem : Nat) (S S2 : Nat → Prop) (rv v : Value) (beg : List Int) (W : World), V2 S2 W rv rows → V1 S W v beg → (beg = [] → PV v) → beg.length + rem = rows.length → Dig beg →
  Calls Tryz.prog 74 #[rv, v] W (ShPost S W (bestW rows.length (extR rows beg))) := by
 obtain ⟨i0, hi, hz0, hz1, hz2⟩ := info_parts inf_int
 intro rem
 induction rem with
 | zero =>
   intro S S2 rv v beg W h2 h hp hlr hdig
   obtain ⟨ra, rc, rfl, hrx⟩ := h2.form
   obtain ⟨a, c, rfl, hmx⟩ := h.form
   have hbl : beg.length = rows.length := by omega
   have hfin : bestW rows.length (extR rows beg) = some beg := by rw [extR_end hbl]; rfl
   rw [hfin]
   have e2 : ((beg.length : Int) == (rows.length : Int)) = true := by simp [hbl]
   have H := Lib.hid (And.intro hbl (And.intro hfin h)); clear hbl hfin hlr h h2
   go_enter Tryz.func74, Tryz.ntmps74
   go_wp2_with fail
   go_ret2
   exact ⟨_, rfl, H.out.2.2.mono (fun b hb _ => .inl hb) (fun _ _ _ => rfl), Below.refl _ _⟩
 | succ rem ih =>
   intro S S2 rv v beg W h2 h hp hlr hdig
   obtain ⟨ra, rc, rfl, hrx⟩ := h2.form
   obtain ⟨a, c, rfl, hmx⟩ := h.form
   have hbl : beg.length < rows.length := by omega
   have hbl2 : (beg.length : Int) < (rows.length : Int) := by omega
   have hbl6 : beg.length ≤ 6 := by omega
   have e2 : ((beg.length : Int) == (rows.length : Int)) = false := by simp; omega
   have hfin := extR_all hbl
   rw [hfin]
   obtain ⟨s, hs⟩ : ∃ s, getl rows beg.length = s := ⟨_, rfl⟩
   rw [hs]
   have heb := fun x (hx : x < (getl rows beg.length).length) => ext_best hR (beg := beg) hdig hx hbl
   rw [hs] at heb
   have hsl := hR.low beg.length
   rw [hs] at hsl
   obtain ⟨b2, off2, a2, c2, rfl, _, hc2, hr2⟩ := h2.cell hbl
   obtain ⟨oF, hoF⟩ : ∃ oF, bestW rows.length (extTo rows beg s.length) = oF := ⟨_, rfl⟩
   rw [hoF]
   have HoF := Lib.hid hoF; clear hoF
   rw [hs] at hc2 hr2
   have hsm : s.length ≤ 9223372036854775807 := by obtain ⟨_, _, _, hsm⟩ := hr2.form; exact hsm
   have hV := h.any
   have hRV := h2.any
   have IH := Lib.hid ih; clear ih
   have Hp := Lib.hid hp; clear hp
   have Hlr := Lib.hid hlr; clear hlr
   have HS := Lib.hid (And.intro heb (And.intro hsl (And.intro hfin (And.intro hs (And.intro hdig h))))); clear heb hsl hfin hs hdig h h2
   have hnew : ∀ o1, (W.alloc o1).cell? ⟨b2, off2 + beg.length, none⟩ = some (.slice a2 s.length c2) := fun o1 => cell_keep hc2 (((Below.refl W.heap.size W).alloc (Nat.le_refl _) o1).block _ (lt_of_cell hc2))
   go_enter Tryz.func74, Tryz.ntmps74
   go_wp2_with fail
   have hz1w : W.heap.size ≤ (W.alloc (.cells #[] 2)).heap.size := by simp
   clear hnew
   go_loopw [6, 8, 9, 10] (fun bv ix _ _ wr => ∃ x : Nat, x ≤ s.length ∧ ix = .int .i64 (x : Int) ∧ V1 (fun b => W.heap.size ≤ b) wr bv ((bestW rows.length (extTo rows beg x)).getD []) ∧ Below W.heap.size W wr) (fun _ ix _ _ _ => s.length - (intOf ix).toNat)
   case atStart => exact ⟨0, Nat.zero_le _, rfl, V1.nil0 (Nat.le_refl _), (Below.refl _ _).alloc (Nat.le_refl _) _⟩
   case round =>
    obtain ⟨x, hx, rfl, hbv, hB⟩ := hrel
    have hzr := hB.size
    obtain ⟨ba, bc, rfl, hbm⟩ := hbv.form
    by_cases hxx : x < s.length
    ·obtain ⟨bs, offs, rfl, _, hcx⟩ := (hr2.below hB).cell hxx
     have hst := HS.out.1 x hxx
     have hyb := HS.out.2.1 _ (geti_mem hxx)
     obtain ⟨y, hye⟩ : ∃ y, geti s x = y := ⟨_, rfl⟩
     rw [hye] at hst hcx hyb
     have hdg : Dig (beg ++ [y]) := fun z hz => by
      rcases List.mem_append.1 hz with hz | hz
      ·exact HS.out.2.2.2.2.1 z hz
      ·obtain rfl := List.mem_singleton.1 hz
       have := hR.few; omega
     have Hdig := Lib.hid hdg
     have hVr := hV.below hB
     have hRr := hRV.below hB
     have hx0 : (0 : Int) ≤ (x : Int) := by omega
     have hxs : (x : Int) < (s.length : Int) := by omega
     obtain ⟨o, ho⟩ : ∃ o, bestW rows.length (extR rows (beg ++ [y])) = o := ⟨_, rfl⟩
     rw [ho] at hst
     have Hcand := Lib.hid ho
     cases o with
     | none =>
       have Hst := Lib.hid (And.intro hst hbv); clear hst hbv ho hdg hye
       go_wp2_with fail
       go_region_held3 (fun w' => w'.cell? ⟨bs, offs + x, none⟩ = some (.int .i64 y) ∧ Below wr.heap.size wr w')
        (first | exact sh_at hcx (Below.refl _ _).drew | exact sh_at hcx ((sh_b (by assumption)).trans (Below.mono (by assumption) (sh_b (by assumption)).size)) | exact sh_at hcx ((sh_b (by assumption)).alloc (sh_b (by assumption)).size _) | exact sh_at hcx ((sh_b (by assumption)).grown hgrow (sh_b (by assumption)).size (own_lo hown1 (Nat.le_refl _))) | assumption)
        (first | (go_at_call 77; refine (l01Own_any _ beg _ (hVr.below (sh_b (by assumption))) Hp.out (by omega)).mono ?_; rintro e' w' ⟨v1, rfl, hown0, hb⟩; have hzz := Nat.le_trans (sh_b (by assumption)).size hb.size; have hown1 := own_base hown0 (sh_b (by assumption)).size; clear hown0) | (refine step_append_lies _ (by rfl) _ _ _ (by rfl) wr.heap.size 2 i0 _ 1 8 Tryz.underlying44 hi hz0 hz1 hz2 rfl (by omega) _ beg.length _ (by rfl) (hown1.alloc _) ⟨_, 0, none⟩ 1 1 [.int .i64 y] (by rfl) (by rfl) (World.news_of_block (heap_alloc_new _ _)) (by simp [Value.oneCell']) (by omega) (by unfold maxLen; omega) (by omega) (by simp; omega) _ rfl ?_; intro gg cap w1 hown2 hgrow hat hlt) | (refine step_append_lies _ (by rfl) _ _ _ (by rfl) wr.heap.size 2 i0 _ 1 8 Tryz.underlying44 hi hz0 hz1 hz2 rfl (by omega) _ beg.length _ (by rfl) hown1 ⟨_, 0, none⟩ 1 1 [.int .i64 y] (by rfl) (by rfl) (news_old hb) (by simp [Value.oneCell']) (by omega) (by unfold maxLen; omega) (by omega) (by omega) _ rfl ?_; intro gg cap w1 hown2 hgrow hat hlt) | (go_at_call 74; refine (IH.out (fun b => wr.heap.size ≤ b) (fun _ => True) _ _ (beg ++ [y]) _ (hRr.below (sh_b (by assumption))) (own_V1B hown2 (by simp)) (fun h => by simp at h) (by have := Hlr.out; simp; omega) Hdig.out).mono ?_; rintro e' wq ⟨v3, he3, hv3, hb⟩; rw [Hcand.out] at he3 hv3; (try simp only [Option.isSome_none, Option.isSome_some, Option.getD_none, Option.getD_some] at he3 hv3); subst he3; obtain ⟨a3, c3, rfl, h3m⟩ := hv3.form))
       all_goals
        have hBw := hB.trans ((sh_b (wr := wr) (by assumption)).mono hzr)
        have Hfin := Lib.hid (And.intro hBw (Hst.out.2.below (sh_b (wr := wr) (by assumption)))); clear hBw hv3
        go_wp2_with fail
        go_roundw
        case rel => exact ⟨x + 1, by omega, by go_num, by rw [Hst.out.1]; exact Hfin.out.2, Hfin.out.1⟩
        case measure => simp [intOf]; omega
     | some l =>
       cases hbo : bestW rows.length (extTo rows beg x) with
       | none =>
         rw [hbo] at hst hbv
         have Hst := Lib.hid (And.intro hst (And.intro hbo ho)); clear hst hbo ho hdg hye
         simp only [Option.getD_none] at hbv
         have hb0 : (([] : List Int).length : Int) = 0 := rfl
         clear hbv
         go_wp2_with fail
         go_region_held3 (fun w' => w'.cell? ⟨bs, offs + x, none⟩ = some (.int .i64 y) ∧ Below wr.heap.size wr w')
          (first | exact sh_at hcx (Below.refl _ _).drew | exact sh_at hcx ((sh_b (by assumption)).trans (Below.mono (by assumption) (sh_b (by assumption)).size)) | exact sh_at hcx ((sh_b (by assumption)).alloc (sh_b (by assumption)).size _) | exact sh_at hcx ((sh_b (by assumption)).grown hgrow (sh_b (by assumption)).size (own_lo hown1 (Nat.le_refl _))) | assumption)
          (first | (go_at_call 77; refine (l01Own_any _ beg _ (hVr.below (sh_b (by assumption))) Hp.out (by omega)).mono ?_; rintro e' w' ⟨v1, rfl, hown0, hb⟩; have hzz := Nat.le_trans (sh_b (by assumption)).size hb.size; have hown1 := own_base hown0 (sh_b (by assumption)).size; clear hown0) | (refine step_append_lies _ (by rfl) _ _ _ (by rfl) wr.heap.size 2 i0 _ 1 8 Tryz.underlying44 hi hz0 hz1 hz2 rfl (by omega) _ beg.length _ (by rfl) (hown1.alloc _) ⟨_, 0, none⟩ 1 1 [.int .i64 y] (by rfl) (by rfl) (World.news_of_block (heap_alloc_new _ _)) (by simp [Value.oneCell']) (by omega) (by unfold maxLen; omega) (by omega) (by simp; omega) _ rfl ?_; intro gg cap w1 hown2 hgrow hat hlt) | (refine step_append_lies _ (by rfl) _ _ _ (by rfl) wr.heap.size 2 i0 _ 1 8 Tryz.underlying44 hi hz0 hz1 hz2 rfl (by omega) _ beg.length _ (by rfl) hown1 ⟨_, 0, none⟩ 1 1 [.int .i64 y] (by rfl) (by rfl) (news_old hb) (by simp [Value.oneCell']) (by omega) (by unfold maxLen; omega) (by omega) (by omega) _ rfl ?_; intro gg cap w1 hown2 hgrow hat hlt) | (go_at_call 74; refine (IH.out (fun b => wr.heap.size ≤ b) (fun _ => True) _ _ (beg ++ [y]) _ (hRr.below (sh_b (by assumption))) (own_V1B hown2 (by simp)) (fun h => by simp at h) (by have := Hlr.out; simp; omega) Hdig.out).mono ?_; rintro e' wq ⟨v3, he3, hv3, hb⟩; rw [Hcand.out] at he3 hv3; (try simp only [Option.isSome_none, Option.isSome_some, Option.getD_none, Option.getD_some] at he3 hv3); subst he3; obtain ⟨a3, c3, rfl, h3m⟩ := hv3.form))
         all_goals
          have hBw := hB.trans ((sh_b (wr := wr) (by assumption)).mono hzr)
          have hv4 := hv3.mono (S' := fun b => W.heap.size ≤ b) (fun b0 h0 _ => by have g1 := (hown2.lt _ rfl).1; have g2 := (hown2.lt _ rfl).2; rcases h0 with h0 | h0 <;> exact Nat.le_trans (by omega) h0) (fun _ _ _ => rfl)
          have Hfin := Lib.hid (And.intro hBw hv4); clear hBw hv3 hv4
          go_wp2_with fail
          go_roundw
          case rel => exact ⟨x + 1, by omega, by go_num, by rw [Hst.out.1]; exact Hfin.out.2, Hfin.out.1⟩
          case measure => simp [intOf]; omega
       | some b =>
         rw [hbo] at hst hbv
         simp only at hst
         simp only [Option.getD_some] at hbv
         have hbne : ¬ b.length = 0 := by
          have := extTo_dig hR HS.out.2.2.2.2.1 hbl (bestW_some hbo).1
          omega
         have hbe : ((b.length : Int) == 0) = false := by rw [beq_eq_false_iff_ne]; omega
         by_cases hkl : kinds l < kinds b
         ·rw [if_pos hkl] at hst
          have hki : ((kinds l : Nat) : Int) < ((kinds b : Nat) : Int) := by omega
          have Hst := Lib.hid (And.intro hst (And.intro hbo ho)); clear hst hbo ho hdg hye
          go_wp2_with fail
          go_region_held3 (fun w' => w'.cell? ⟨bs, offs + x, none⟩ = some (.int .i64 y) ∧ Below wr.heap.size wr w')
           (first | exact sh_at hcx (Below.refl _ _).drew | exact sh_at hcx ((sh_b (by assumption)).trans (Below.mono (by assumption) (sh_b (by assumption)).size)) | exact sh_at hcx ((sh_b (by assumption)).alloc (sh_b (by assumption)).size _) | exact sh_at hcx ((sh_b (by assumption)).grown hgrow (sh_b (by assumption)).size (own_lo hown1 (Nat.le_refl _))) | assumption)
           (first | (go_at_call 77; refine (l01Own_any _ beg _ (hVr.below (sh_b (by assumption))) Hp.out (by omega)).mono ?_; rintro e' w' ⟨v1, rfl, hown0, hb⟩; have hzz := Nat.le_trans (sh_b (by assumption)).size hb.size; have hown1 := own_base hown0 (sh_b (by assumption)).size; clear hown0) | (refine step_append_lies _ (by rfl) _ _ _ (by rfl) wr.heap.size 2 i0 _ 1 8 Tryz.underlying44 hi hz0 hz1 hz2 rfl (by omega) _ beg.length _ (by rfl) (hown1.alloc _) ⟨_, 0, none⟩ 1 1 [.int .i64 y] (by rfl) (by rfl) (World.news_of_block (heap_alloc_new _ _)) (by simp [Value.oneCell']) (by omega) (by unfold maxLen; omega) (by omega) (by simp; omega) _ rfl ?_; intro gg cap w1 hown2 hgrow hat hlt) | (refine step_append_lies _ (by rfl) _ _ _ (by rfl) wr.heap.size 2 i0 _ 1 8 Tryz.underlying44 hi hz0 hz1 hz2 rfl (by omega) _ beg.length _ (by rfl) hown1 ⟨_, 0, none⟩ 1 1 [.int .i64 y] (by rfl) (by rfl) (news_old hb) (by simp [Value.oneCell']) (by omega) (by unfold maxLen; omega) (by omega) (by omega) _ rfl ?_; intro gg cap w1 hown2 hgrow hat hlt) | (go_at_call 74; refine (IH.out (fun b => wr.heap.size ≤ b) (fun _ => True) _ _ (beg ++ [y]) _ (hRr.below (sh_b (by assumption))) (own_V1B hown2 (by simp)) (fun h => by simp at h) (by have := Hlr.out; simp; omega) Hdig.out).mono ?_; rintro e' wq ⟨v3, he3, hv3, hb⟩; rw [Hcand.out] at he3 hv3; (try simp only [Option.isSome_none, Option.isSome_some, Option.getD_none, Option.getD_some] at he3 hv3); subst he3; obtain ⟨a3, c3, rfl, h3m⟩ := hv3.form))
          all_goals
           have hBc := sh_b (wr := wr) (by assumption)
           have hBw := hB.trans (hBc.mono hzr)
           have hbv2 := hbv.below hBc
           have hv4 := hv3.mono (S' := fun b => W.heap.size ≤ b) (fun b0 h0 _ => by have g1 := (hown2.lt _ rfl).1; have g2 := (hown2.lt _ rfl).2; rcases h0 with h0 | h0 <;> exact Nat.le_trans (by omega) h0) (fun _ _ _ => rfl)
           go_wp2_with fail
           refine (l02Kinds_q _ _ _ hv4).mono ?_
           rintro e' w5 ⟨rfl, n5, rfl⟩
           go_wp2_with fail
           refine (l02Kinds_q _ _ _ (V1.drewN hbv2)).mono ?_
           rintro e' w6 ⟨rfl, n6, rfl⟩
           have Hfin := Lib.hid (And.intro (below_drewN hBw (n5 + n6)) (V1.drewN (n := n5 + n6) hv4)); clear hBw hv3 hv4
           go_wp2_with fail
           go_roundw
           case rel => exact ⟨x + 1, by omega, by go_num, by rw [Hst.out.1]; exact Hfin.out.2, Hfin.out.1⟩
           case measure => simp [intOf]; omega
         ·rw [if_neg hkl] at hst
          have hki : ¬ ((kinds l : Nat) : Int) < ((kinds b : Nat) : Int) := by omega
          have Hst := Lib.hid (And.intro hst (And.intro hbo ho)); clear hst hbo ho hdg hye
          go_wp2_with fail
          go_region_held3 (fun w' => w'.cell? ⟨bs, offs + x, none⟩ = some (.int .i64 y) ∧ Below wr.heap.size wr w')
           (first | exact sh_at hcx (Below.refl _ _).drew | exact sh_at hcx ((sh_b (by assumption)).trans (Below.mono (by assumption) (sh_b (by assumption)).size)) | exact sh_at hcx ((sh_b (by assumption)).alloc (sh_b (by assumption)).size _) | exact sh_at hcx ((sh_b (by assumption)).grown hgrow (sh_b (by assumption)).size (own_lo hown1 (Nat.le_refl _))) | assumption)
           (first | (go_at_call 77; refine (l01Own_any _ beg _ (hVr.below (sh_b (by assumption))) Hp.out (by omega)).mono ?_; rintro e' w' ⟨v1, rfl, hown0, hb⟩; have hzz := Nat.le_trans (sh_b (by assumption)).size hb.size; have hown1 := own_base hown0 (sh_b (by assumption)).size; clear hown0) | (refine step_append_lies _ (by rfl) _ _ _ (by rfl) wr.heap.size 2 i0 _ 1 8 Tryz.underlying44 hi hz0 hz1 hz2 rfl (by omega) _ beg.length _ (by rfl) (hown1.alloc _) ⟨_, 0, none⟩ 1 1 [.int .i64 y] (by rfl) (by rfl) (World.news_of_block (heap_alloc_new _ _)) (by simp [Value.oneCell']) (by omega) (by unfold maxLen; omega) (by omega) (by simp; omega) _ rfl ?_; intro gg cap w1 hown2 hgrow hat hlt) | (refine step_append_lies _ (by rfl) _ _ _ (by rfl) wr.heap.size 2 i0 _ 1 8 Tryz.underlying44 hi hz0 hz1 hz2 rfl (by omega) _ beg.length _ (by rfl) hown1 ⟨_, 0, none⟩ 1 1 [.int .i64 y] (by rfl) (by rfl) (news_old hb) (by simp [Value.oneCell']) (by omega) (by unfold maxLen; omega) (by omega) (by omega) _ rfl ?_; intro gg cap w1 hown2 hgrow hat hlt) | (go_at_call 74; refine (IH.out (fun b => wr.heap.size ≤ b) (fun _ => True) _ _ (beg ++ [y]) _ (hRr.below (sh_b (by assumption))) (own_V1B hown2 (by simp)) (fun h => by simp at h) (by have := Hlr.out; simp; omega) Hdig.out).mono ?_; rintro e' wq ⟨v3, he3, hv3, hb⟩; rw [Hcand.out] at he3 hv3; (try simp only [Option.isSome_none, Option.isSome_some, Option.getD_none, Option.getD_some] at he3 hv3); subst he3; obtain ⟨a3, c3, rfl, h3m⟩ := hv3.form))
          all_goals
           have hBc := sh_b (wr := wr) (by assumption)
           have hBw := hB.trans (hBc.mono hzr)
           have hbv2 := hbv.below hBc
           go_wp2_with fail
           refine (l02Kinds_q _ _ _ hv3).mono ?_
           rintro e' w5 ⟨rfl, n5, rfl⟩
           go_wp2_with fail
           refine (l02Kinds_q _ _ _ (V1.drewN hbv2)).mono ?_
           rintro e' w6 ⟨rfl, n6, rfl⟩
           have Hfin := Lib.hid (And.intro (below_drewN hBw (n5 + n6)) (V1.drewN (n := n5 + n6) hbv2)); clear hBw hv3
           go_wp2_with fail
           go_roundw
           case rel => exact ⟨x + 1, by omega, by go_num, by rw [Hst.out.1]; exact Hfin.out.2, Hfin.out.1⟩
           case measure => simp [intOf]; omega
    ·obtain rfl : x = s.length := by omega
     rw [HoF.out] at hbv ⊢
     cases oF with
     | none =>
       simp only [Option.getD_none, List.length_nil] at hbv ⊢
       have Hbv := Lib.hid hbv; clear hbv
       go_wp2_with fail
       go_ret2
       exact ⟨_, rfl, Hbv.out.mono (S' := fun b => S b ∨ W.heap.size ≤ b) (fun b0 h0 _ => Or.inr h0) (fun _ _ _ => rfl), hB⟩
     | some b =>
       simp only [Option.getD_some] at hbv ⊢
       have hbne : ¬ b.length = 0 := by
        have := extTo_dig hR HS.out.2.2.2.2.1 hbl (bestW_some HoF.out).1
        omega
       have hbn : 0 < b.length := by omega
       have hbd : decide (0 < b.length) = true := decide_eq_true hbn
       have Hbv := Lib.hid hbv; clear hbv
       go_wp2_with fail
       go_ret2
       exact ⟨_, rfl, Hbv.out.mono (S' := fun b => S b ∨ W.heap.size ≤ b) (fun b0 h0 _ => Or.inr h0) (fun _ _ _ => rfl), hB⟩
set_option maxRecDepth 100000 in
set_option maxHeartbeats 1000000 in
theorem BlamedRows_any {S S' : Nat → Prop} (m : Mk) (u v : Value) (t cuts : List (List Int)) (W : World) (h : V2 S W u t) (hc : V2 S' W v cuts) :
  Calls Tryz.prog 20 #[.agg #[.int .i64 m.c, .int .i64 m.d, .int .i64 m.s, .int .i64 m.e, .int .i64 m.l, u], v] W fun e' w' => ∃ v', e' = .returned (.tuple #[v', .int .i64 (blameAns m t cuts).2]) ∧ F1 W.heap.size w' v' (blameAns m t cuts).1 ∧ Below W.heap.size W w' := by
 obtain ⟨a, c, rfl, hmx⟩ := h.form
 obtain ⟨a', c', rfl, hmx'⟩ := hc.form
 obtain ⟨W1, hW1, hB01, hz01, HZ01, hc01, hh01⟩ := box_facts W #[.int .i64 m.c, .int .i64 m.d, .int .i64 m.s, .int .i64 m.e, .int .i64 m.l, .slice a t.length c] 33
 have hV1 : V2 (fun _ => True) W1 (.slice a t.length c) t := (h.below hB01).mono (fun _ _ _ => trivial) (fun _ _ _ => rfl)
 have hC1 : V2 (fun _ => True) W1 (.slice a' cuts.length c') cuts := (hc.below hB01).mono (fun _ _ _ => trivial) (fun _ _ _ => rfl)
 have hpf := PartFault_any m _ _ t cuts W1 hV1 hC1
 by_cases hp : (pfAns m t cuts).2.2 = 0
 ·obtain ⟨hpc, i, d, hi, hd, he, ho⟩ := pf_ok hp
  rw [he] at hpf
  have hf := fits_of hpc
  have hmk := Mk.ok_iff.1 hf.ok
  obtain ⟨n, hn, hn6, hn0⟩ : ∃ n : Nat, m.c.toNat = n ∧ n ≤ 6 ∧ (n : Int) = m.c := ⟨_, rfl, by omega, by omega⟩
  rw [hn] at ho
  have hlen := reasRows_len t cuts i d n
  have hi16 : cuts.length ≤ 16 := by have := hf.few; have := hf.rows; omega
  have hRok := reasRows_ok (t := t) (cuts := cuts) (key := i) (door := d) (n := n) hi16
  obtain ⟨b, hb⟩ := false_best (N := (reasRows t cuts i d n).length) (by have := hf.lens i hi; omega) ho
  have hfin : blameAns m t cuts = (diffI (b ++ [(i : Int)]), 0) := by unfold blameAns; rw [he, if_neg (fun h => h rfl)]; simp only [Int.toNat_natCast, hn, hb, Option.getD_some]
  rw [hfin]
  obtain ⟨hdig, hbl⟩ := allR_dig hRok (bestW_some hb).1
  have hb6 : b.length ≤ 6 := by omega
  have hbne : b ≠ [] := by intro e; rw [e] at hbl; simp at hbl; omega
  have hnb : numB (b ++ [(i : Int)]) = true := numB_iff.2 ⟨by simp; omega, fun x hx => by
   rcases List.mem_append.1 hx with hx | hx
   ·have := hdig x hx; omega
   ·obtain rfl := List.mem_singleton.1 hx; omega⟩
  have hlb : (b ++ [(i : Int)]).length ≤ 1048576 := by simp; omega
  have hibs : i ≤ 1000 := by omega
  have hsr := fun w (hbw : Below W1.heap.size W1 w) => shortReason_any m (.slice a t.length c) (.slice a' cuts.length c') t cuts i d n w hf hi hd hn0 hRok (hV1.below hbw) (hC1.below hbw)
  simp only [hb] at hsr
  have H := Lib.hid (And.intro hpf (And.intro hsr (And.intro hb (And.intro hf (And.intro hRok (And.intro hlen (And.intro hbne (And.intro hlb (And.intro hfin (And.intro hnb he)))))))))); clear hpf hsr hb hf hRok hlen hfin hp hpc hmk hbl hdig hbne hlb hnb he ho hd hi hi16
  go_enter Tryz.func20, Tryz.ntmps20
  go_wp2_with fail
  rw [← hW1]
  refine H.out.1.mono ?_
  rintro e' w2 ⟨rfl, hb2⟩
  have hx2 : ∀ o, w2.cell? ⟨W.heap.size, o, none⟩ = (#[.int .i64 m.c, .int .i64 m.d, .int .i64 m.s, .int .i64 m.e, .int .i64 m.l, .slice a t.length c] : Array Value)[o]? := fun o => by rw [(bcell hb2).1 _ _ hz01, hc01]
  have hz2 := hb2.size
  clear hc01 hh01
  have HW1 := Lib.hid hW1; clear hW1
  go_wp2_with fail
  refine (H.out.2.1 _ hb2).mono ?_
  rintro e' w3 ⟨v3, l3, rfl, ⟨hF, _⟩, hb3⟩
  have hown := hF.2 H.out.2.2.2.2.2.2.1
  obtain ⟨a3, c3, rfl, h31, h32⟩ := own_form hown
  have hz3 := hb3.size
  have hBz3 := hB01.trans ((hb2.trans (hb3.mono hz2)).mono (by omega))
  unfold maxLen at h32
  clear hx2 hF
  have hown := own_base hown hz2
  go_wp2_with (at_builtin; refine wp_app1 _ rfl _ _ 44 rfl W1.heap.size 2 (.int .i64 0) 8 Tryz.underlying44 inf_int rfl _ _ _ rfl hown (.int .i64 (i : Int)) _ rfl rfl (by omega) (by omega) (by omega) ?_; intro v1 w1 hown1 hgrow1 hblk1 hB1)
  have hV4 := own_V1 (l := b ++ [(i : Int)]) (by simpa using hown1)
  obtain ⟨a4, c4, rfl, _, _⟩ := own_form hown1
  have hBz4 := hBz3.trans (hB1.mono (by omega))
  have HG := Lib.hid (And.intro hV4 hBz4); clear hV4 hBz4 hown hown1 hgrow1 hblk1 hB1
  refine (rowsOf_any _ (b ++ [(i : Int)]) _ HG.out.1 H.out.2.2.2.2.2.2.2.1).mono ?_
  rintro e' w5 ⟨v5, rfl, hF5, hb5⟩
  have hz5 := HG.out.2.size
  have HF5 := Lib.hid (And.intro (hF5.mono hz5) (HG.out.2.trans (hb5.mono hz5))); clear hF5
  go_wp2_with fail
  go_ret2
  exact ⟨_, rfl, HF5.out.1, HF5.out.2⟩
 ·have hfin : blameAns m t cuts = ([], (pfAns m t cuts).2.2) := by unfold blameAns; rw [if_pos hp]
  have e1 : ((pfAns m t cuts).2.2 != 0) = true := by simp [hp]
  rw [hfin]
  have Hp := Lib.hid hp; clear hp hfin
  generalize (pfAns m t cuts).2.2 = pc at *
  generalize (pfAns m t cuts).2.1 = pd at *
  generalize (pfAns m t cuts).1 = pk at *
  go_enter Tryz.func20, Tryz.ntmps20
  go_wp2_with fail
  rw [← hW1]
  refine hpf.mono ?_
  rintro e' w2 ⟨rfl, hb2⟩
  clear hc01 hh01
  go_wp2_with fail
  go_ret2
  exact ⟨_, rfl, F1.nil4, hB01.trans (hb2.mono (by omega))⟩
set_option maxRecDepth 100000 in
set_option maxHeartbeats 1000000 in
theorem BlamedRowsR_any {S S' : Nat → Prop} (m : Mk) (u v : Value) (t cuts : List (List Int)) (W : World) (h : V2 S W u t) (hc : V2 S' W v cuts) :
  Calls Tryz.prog 21 #[.agg #[.int .i64 m.c, .int .i64 m.d, .int .i64 m.s, .int .i64 m.e, .int .i64 m.l, u], v] W fun e' w' => ∃ v', e' = .returned (.tuple #[v', .int .i64 (blameAns m t cuts).2]) ∧ V1 (fun b => b < w'.heap.size) w' v' (blameAns m t cuts).1 ∧ Below W.heap.size W w' := by
 obtain ⟨a, c, rfl, hmx⟩ := h.form
 obtain ⟨a', c', rfl, hmx'⟩ := hc.form
 obtain ⟨W1, hW1, hB01, hz01, HZ01, hc01, hh01⟩ := box_facts W #[.int .i64 m.c, .int .i64 m.d, .int .i64 m.s, .int .i64 m.e, .int .i64 m.l, .slice a t.length c] 33
 have hV1 : V2 (fun _ => True) W1 (.slice a t.length c) t := (h.below hB01).mono (fun _ _ _ => trivial) (fun _ _ _ => rfl)
 have hC1 : V2 (fun _ => True) W1 (.slice a' cuts.length c') cuts := (hc.below hB01).mono (fun _ _ _ => trivial) (fun _ _ _ => rfl)
 have hpf := PartFaultR_any m _ _ t cuts W1 hV1 hC1
 by_cases hp : (pfAns m t cuts).2.2 = 0
 ·obtain ⟨hpc, i, d, hi, hd, he, ho⟩ := pf_ok hp
  rw [he] at hpf
  have hf := fits_of hpc
  have hmk := Mk.ok_iff.1 hf.ok
  obtain ⟨n, hn, hn6, hn0⟩ : ∃ n : Nat, m.c.toNat = n ∧ n ≤ 6 ∧ (n : Int) = m.c := ⟨_, rfl, by omega, by omega⟩
  rw [hn] at ho
  have hlen := reasRows_len t cuts i d n
  have hi16 : cuts.length ≤ 16 := by have := hf.few; have := hf.rows; omega
  have hRok := reasRows_ok (t := t) (cuts := cuts) (key := i) (door := d) (n := n) hi16
  obtain ⟨b, hb⟩ := false_best (N := (reasRows t cuts i d n).length) (by have := hf.lens i hi; omega) ho
  have hfin : blameAns m t cuts = (diffI (b ++ [(i : Int)]), 0) := by unfold blameAns; rw [he, if_neg (fun h => h rfl)]; simp only [Int.toNat_natCast, hn, hb, Option.getD_some]
  rw [hfin]
  obtain ⟨hdig, hbl⟩ := allR_dig hRok (bestW_some hb).1
  have hb6 : b.length ≤ 6 := by omega
  have hbne : b ≠ [] := by intro e; rw [e] at hbl; simp at hbl; omega
  have hnb : numB (b ++ [(i : Int)]) = true := numB_iff.2 ⟨by simp; omega, fun x hx => by
   rcases List.mem_append.1 hx with hx | hx
   ·have := hdig x hx; omega
   ·obtain rfl := List.mem_singleton.1 hx; omega⟩
  have hlb : (b ++ [(i : Int)]).length ≤ 1048576 := by simp; omega
  have hibs : i ≤ 1000 := by omega
  have hrw := fun w (hbw : Below W1.heap.size W1 w) => l18Rows_any m (.slice a t.length c) (.slice a' cuts.length c') t cuts i d n w hf hi hd hn0 (hV1.below hbw) (hC1.below hbw)
  obtain ⟨rows, hrows⟩ : ∃ r, reasRows t cuts i d n = r := ⟨_, rfl⟩
  rw [hrows] at hRok hlen hb
  simp only [hrows] at hrw
  have hls := l18Short_any rows hRok (by omega) rows.length
  have hext : extR rows [] = allR rows := by unfold extR; simp
  have H := Lib.hid (And.intro hpf (And.intro hrw (And.intro hb (And.intro hf (And.intro hRok (And.intro hlen (And.intro hbne (And.intro hnb (And.intro hls (And.intro hext (And.intro hrows (And.intro hfin he)))))))))))); clear hpf hrw hb hf hRok hlen hfin hp hpc hmk hbl hdig hbne hlb hnb he ho hd hi hi16 hls hext hrows
  go_enter Tryz.func21, Tryz.ntmps21
  go_wp2_with fail
  rw [← hW1]
  refine H.out.1.mono ?_
  rintro e' w2 ⟨rfl, hb2⟩
  have hx2 : ∀ o, w2.cell? ⟨W.heap.size, o, none⟩ = (#[.int .i64 m.c, .int .i64 m.d, .int .i64 m.s, .int .i64 m.e, .int .i64 m.l, .slice a t.length c] : Array Value)[o]? := fun o => by rw [(bcell hb2).1 _ _ hz01, hc01]
  have hz2 := hb2.size
  clear hc01 hh01
  have HW1 := Lib.hid hW1; clear hW1
  go_wp2_with fail
  refine (H.out.2.1 _ hb2).mono ?_
  rintro e' w3 ⟨v3, rfl, hF3, hb3⟩
  obtain ⟨a3, c3, rfl, _⟩ := hF3.v2.form
  clear hx2
  go_wp2_with fail
  refine (H.out.2.2.2.2.2.2.2.2.1 (fun _ => True) _ _ (.slice none 0 0) [] w3 hF3.v2 ⟨none, 0, rfl, Nat.le_refl _, Nat.zero_le _, fun k hk => by simp at hk⟩ (fun _ => .inl rfl) (by simp) (fun z hz => by cases hz)).mono ?_
  rintro e' w4 ⟨v4, he4, hv4, hb4⟩
  rw [H.out.2.2.2.2.2.2.2.2.2.1, H.out.2.2.1] at he4 hv4
  simp only [Option.isSome_none, Option.isSome_some, Option.getD_none, Option.getD_some] at he4 hv4
  subst he4
  obtain ⟨a4, c4, rfl, _⟩ := hv4.form
  have hBz := hB01.trans ((hb2.trans ((hb3.trans (hb4.mono hb3.size)).mono hz2)).mono (by omega))
  have hzz := hBz.size
  have Hv4 := Lib.hid hv4.any; clear hv4 hF3
  go_wp2_with fail
  refine (l01Own_any _ b _ Hv4.out (fun e => absurd e H.out.2.2.2.2.2.2.1) (by omega)).mono ?_
  rintro e' w5 ⟨v5, rfl, hown, hb5⟩
  have hBz5 := hBz.trans (hb5.mono hzz)
  obtain ⟨a5, c5, rfl, h51, h52⟩ := own_form hown
  have hz5 := hb5.size
  go_wp2_with (at_builtin; refine wp_app1 _ rfl _ _ 44 rfl w4.heap.size 2 (.int .i64 0) 8 Tryz.underlying44 inf_int rfl _ _ _ rfl hown (.int .i64 (i : Int)) _ rfl rfl (by omega) (by omega) (by omega) ?_; intro v1 w1 hown1 hgrow1 hblk1 hB1)
  have hV6 := own_V1 (l := b ++ [(i : Int)]) (by simpa using hown1)
  obtain ⟨a6, c6, rfl, _, _⟩ := own_form hown1
  have hBz6 := hBz5.trans (hB1.mono (by omega))
  have HG := Lib.hid (And.intro hV6 hBz6); clear hV6 hBz6 hown hown1 hgrow1 hblk1 hB1
  refine (l18Different_any _ (b ++ [(i : Int)]) _ HG.out.1 H.out.2.2.2.2.2.2.2.1).mono ?_
  rintro e' w7 ⟨v7, rfl, hF7, hb7⟩
  have HF7 := Lib.hid (And.intro hF7.v1.old (HG.out.2.trans (hb7.mono HG.out.2.size))); clear hF7
  go_wp2_with fail
  go_ret2
  exact ⟨_, rfl, HF7.out.1, HF7.out.2⟩
 ·have hfin : blameAns m t cuts = ([], (pfAns m t cuts).2.2) := by unfold blameAns; rw [if_pos hp]
  have e1 : ((pfAns m t cuts).2.2 != 0) = true := by simp [hp]
  rw [hfin]
  have Hp := Lib.hid hp; clear hp hfin
  generalize (pfAns m t cuts).2.2 = pc at *
  generalize (pfAns m t cuts).2.1 = pd at *
  generalize (pfAns m t cuts).1 = pk at *
  go_enter Tryz.func21, Tryz.ntmps21
  go_wp2_with fail
  rw [← hW1]
  refine hpf.mono ?_
  rintro e' w2 ⟨rfl, hb2⟩
  clear hc01 hh01
  go_wp2_with fail
  go_ret2
  exact ⟨_, rfl, (F1.nil4 (B := 0)).v1.old, hB01.trans (hb2.mono (by omega))⟩
/-- The first k numbers lie from 0 to below n, each greater than the one before it. -/
def riseTo (l : List Int) (n : Int) : Nat → Bool
 | 0 => true
 | k + 1 => riseTo l n k && (decide (0 ≤ geti l k) && decide (geti l k < n) && (decide (k = 0) || decide (geti l (k - 1) < geti l k)))
def riseB (l : List Int) (n : Int) : Bool := riseTo l n l.length
theorem riseTo_false {l : List Int} {n : Int} {k : Nat} (h : riseTo l n (k + 1) = false) : ∀ {m}, k < m → riseTo l n m = false
 | 0, hk => by omega
 | m + 1, hk => by
   by_cases e : k = m
   ·subst e; exact h
   ·unfold riseTo; rw [riseTo_false h (by omega), Bool.false_and]
theorem IsRising_any {S : Nat → Prop} (v : Value) (l : List Int) (n : Int) (W : World) (h : V1 S W v l) :
  Calls Tryz.prog 80 #[v, .int .i64 n] W fun e' w' => e' = .returned (.bool (riseB l n)) ∧ W = w' := by
 have hV := h
 obtain ⟨a, c, rfl, hm⟩ := h.form
 obtain ⟨r, hr⟩ : ∃ r, riseB l n = r := ⟨_, rfl⟩
 rw [hr]
 have Hr := Lib.hid hr; clear hr
 go_enter Tryz.func80, Tryz.ntmps80
 go_wp2_with fail
 go_loop [5, 6, 9] (fun _ _ i => ∃ k : Nat, k ≤ l.length ∧ i = .int .i64 k ∧ riseTo l n k = true) (fun _ _ i => l.length - (intOf i).toNat)
 case atStart => exact ⟨0, Nat.zero_le _, rfl, rfl⟩
 case round =>
  obtain ⟨k, hk, rfl, hal⟩ := hrel
  have Hal := Lib.hid hal; clear hal
  by_cases hkk : k < l.length
  ·obtain ⟨b1, off1, rfl, _, hc1⟩ := hV.cell hkk
   have hk1 : k ≠ 0 → ∃ b2 off2, some (⟨b1, off1, none⟩ : Addr) = some ⟨b2, off2, none⟩ ∧ True ∧ W.cell? ⟨b2, off2 + (k - 1), none⟩ = some (.int .i64 (geti l (k - 1))) := fun hk0 => by
    obtain ⟨b2, off2, e, _, hc⟩ := hV.cell (k := k - 1) (by omega)
    exact ⟨b2, off2, e, trivial, hc⟩
   by_cases h1 : geti l k < 0
   ·skip
    have hfin : r = false := by rw [← Hr.out]; exact riseTo_false (k := k) (by unfold riseTo; simp; intros; omega) hkk
    subst hfin
    go_wp2_with fail
    go_ret
    exact ⟨rfl, rfl⟩
   ·by_cases h2 : n ≤ geti l k
    ·skip
     have hfin : r = false := by rw [← Hr.out]; exact riseTo_false (k := k) (by unfold riseTo; simp; intros; omega) hkk
     subst hfin
     go_wp2_with fail
     go_ret
     exact ⟨rfl, rfl⟩
    ·by_cases hk0 : k = 0
     ·subst hk0
      rw [Nat.add_zero] at hc1
      clear hk1
      go_wp2_with fail
      go_round
      case rel => exact ⟨1, by omega, by go_num, by simp [riseTo]; omega⟩
      case measure => simp [intOf]; omega
     ·obtain ⟨b2, off2, e, _, hc2⟩ := hk1 hk0
      simp only [Option.some.injEq, Addr.mk.injEq, and_true] at e
      obtain ⟨rfl, rfl⟩ := e
      have hpos : 0 < k := by omega
      have hlen := hV.len
      unfold maxLen at hlen
      by_cases h3 : geti l k ≤ geti l (k - 1)
      ·skip
       have hfin : r = false := by rw [← Hr.out]; exact riseTo_false (k := k) (by unfold riseTo; simp; intros; omega) hkk
       subst hfin
       go_wp2_with fail
       go_ret
       exact ⟨rfl, rfl⟩
      ·go_wp2_with fail
       go_round
       case rel => exact ⟨k + 1, by omega, by go_num, by unfold riseTo; rw [Hal.out]; simp; omega⟩
       case measure => simp [intOf]; omega
  ·obtain rfl : k = l.length := by omega
   have hfin : r = true := by rw [← Hr.out]; exact Hal.out
   subst hfin
   go_wp2_with fail
   go_ret
   exact ⟨rfl, rfl⟩
set_option maxHeartbeats 400000 in
theorem l01Rises_q {S : Nat → Prop} (v : Value) (l : List Int) (n : Int) (W : World) (h : V1 S W v l) :
  Calls Tryz.prog 84 #[v, .int .i64 n] W fun e' w' => e' = .returned (.bool (riseB l n)) ∧ ∃ m, w' = W.drewN m := by
 have hV := h
 obtain ⟨a, c, rfl, hm⟩ := h.form
 obtain ⟨r, hr⟩ : ∃ r, riseB l n = r := ⟨_, rfl⟩
 rw [hr]
 have Hr := Lib.hid hr; clear hr
 go_enter Tryz.func84, Tryz.ntmps84
 go_wp2_with fail
 go_loopw [5] (fun i wr => ∃ k q : Nat, k ≤ l.length ∧ i = .int .i64 k ∧ riseTo l n k = true ∧ wr = W.drewN q) (fun i _ => l.length - (intOf i).toNat)
 case atStart => exact ⟨0, 0, Nat.zero_le _, rfl, rfl, rfl⟩
 case round =>
  obtain ⟨k, q, hk, rfl, hal, rfl⟩ := hrel
  have Hal := Lib.hid hal; clear hal
  by_cases hkk : k < l.length
  ·obtain ⟨b1, off1, rfl, _, hc1⟩ := hV.cell hkk
   by_cases h1 : geti l k < 0
   ·have d1 : decide (geti l k < 0) = true := decide_eq_true h1
    have hfin : r = false := by rw [← Hr.out]; exact riseTo_false (k := k) (by unfold riseTo; simp; intros; omega) hkk
    subst hfin
    go_wp2_with fail
    go_quiet (fail)
    go_wp2_with fail
    go_ret
    exact ⟨rfl, _, by first | rfl | rw [World.drewN_drewN]⟩
   ·have d1 : decide (geti l k < 0) = false := decide_eq_false h1
    by_cases h2 : n ≤ geti l k
    ·have d2 : decide (n ≤ geti l k) = true := decide_eq_true h2
     have hfin : r = false := by rw [← Hr.out]; exact riseTo_false (k := k) (by unfold riseTo; simp; intros; omega) hkk
     subst hfin
     go_wp2_with fail
     go_quiet (fail)
     go_wp2_with fail
     go_ret
     exact ⟨rfl, _, by first | rfl | rw [World.drewN_drewN]⟩
    ·have d2 : decide (n ≤ geti l k) = false := decide_eq_false h2
     by_cases hk0 : k = 0
     ·subst hk0
      rw [Nat.add_zero] at hc1
      go_wp2_with fail
      go_quiet (fail)
      go_wp2_with fail
      go_roundw
      case rel => exact ⟨1, _, by omega, by go_num, by simp [riseTo]; omega, by first | rfl | rw [World.drewN_drewN]⟩
      case measure => simp [intOf]; omega
     ·obtain ⟨b2, off2, e, _, hc2⟩ := hV.cell (k := k - 1) (by omega)
      simp only [Option.some.injEq, Addr.mk.injEq, and_true] at e
      obtain ⟨rfl, rfl⟩ := e
      have hpos : 0 < k := by omega
      have hlen := hV.len
      unfold maxLen at hlen
      by_cases h3 : geti l k ≤ geti l (k - 1)
      ·have d3 : decide (geti l k ≤ geti l (k - 1)) = true := decide_eq_true h3
       have hfin : r = false := by rw [← Hr.out]; exact riseTo_false (k := k) (by unfold riseTo; simp; intros; omega) hkk
       subst hfin
       go_wp2_with fail
       go_quiet (fail)
       go_wp2_with fail
       go_ret
       exact ⟨rfl, _, by first | rfl | rw [World.drewN_drewN]⟩
      ·have d3 : decide (geti l k ≤ geti l (k - 1)) = false := decide_eq_false h3
       have h4 := riseTo l n k
       go_wp2_with fail
       go_quiet (fail)
       go_wp2_with fail
       go_roundw
       case rel => exact ⟨k + 1, _, by omega, by go_num, by unfold riseTo; rw [Hal.out]; simp; omega, by first | rfl | rw [World.drewN_drewN]⟩
       case measure => simp [intOf]; omega
  ·obtain rfl : k = l.length := by omega
   have hfin : r = true := by rw [← Hr.out]; exact Hal.out
   subst hfin
   go_wp2_with fail
   go_ret
   exact ⟨rfl, _, rfl⟩
end Go.Proofs.YtmjplkbmhdkggaaGreat
