/- The profile of a system, and its worst severity. No conditions. -/
import Derived.Test.YtmjplkbmhdkggaaGreatMGhosts
import Derived.Test.YtmjplkbmhdkggaaGreatMDraw36
import Derived.Test.YtmjplkbmhdkggaaGreatMShelf0
import Derived.Test.YtmjplkbmhdkggaaGreatMLib
import Derived.Test.YtmjplkbmhdkggaaGreatMEach5
namespace Go.Proofs.YtmjplkbmhdkggaaGreat
open Go.RowKit
set_option linter.unusedVariables false
set_option linter.unusedSimpArgs false
/-- The last place of a count above 0 among the first k, counted from 1; 0 if there is none. -/
def worst (l : List Int) : Nat → Int
 | 0 => 0
 | k + 1 => if 0 < geti l k then (k : Int) + 1 else worst l k
/-- The profile of a system. -/
def profAns (m : Mk) (t cuts : List (List Int)) : List Int × Int :=
 if designC m t cuts ≠ 0 then ([], designC m t cuts) else (cntL (locksTo m.c.toNat t cuts (getl t 0).length) (outsOf cuts (keysOf m)) 1 (getl t 0).length, 0)
theorem profAns_few (m : Mk) (t cuts : List (List Int)) : Few (profAns m t cuts).1 := by
 unfold profAns
 split
 ·exact ⟨by simp, fun x hx => by simp at hx⟩
 ·rename_i hp
  have hf := (design_fits (Classical.not_not.1 hp)).1
  have hkl := keysOf_length hf.ok
  have hdoors := hf.doors
  have := outsOf_length cuts (keysOf m)
  exact cntL_few (by omega) (by omega)
def worstAns (m : Mk) (t cuts : List (List Int)) : Int × Int := (worst (profAns m t cuts).1 (profAns m t cuts).1.length, (profAns m t cuts).2)
theorem F1.nil0 {B : Nat} {w : World} : F1 B w (.slice none 0 0) [] := ⟨0, ⟨none, 0, rfl, Nat.le_refl _, Nat.zero_le _, fun hn => absurd rfl hn⟩, fun hn => absurd rfl hn⟩
theorem ProfileOf_any {S S' : Nat → Prop} (m : Mk) (u v : Value) (t cuts : List (List Int)) (W : World) (h : V2 S W u t) (hc : V2 S' W v cuts) :
  Calls Tryz.prog 113 #[.agg #[.int .i64 m.c, .int .i64 m.d, .int .i64 m.s, .int .i64 m.e, .int .i64 m.l, u], v] W fun e' w' => ∃ v', e' = .returned (.tuple #[v', .int .i64 (profAns m t cuts).2]) ∧ F1 W.heap.size w' v' (profAns m t cuts).1 ∧ Below W.heap.size W w' := by
 obtain ⟨a, c, rfl, hmx⟩ := h.form
 obtain ⟨a', c', rfl, hmx'⟩ := hc.form
 obtain ⟨W1, hW1, hB01, hz01, HZ01, hc01, hh01⟩ := box_facts W #[.int .i64 m.c, .int .i64 m.d, .int .i64 m.s, .int .i64 m.e, .int .i64 m.l, .slice a t.length c] 33
 have hV1 := (h.below hB01).any
 have hC1 := (hc.below hB01).any
 have hcode := designCode_any m _ _ t cuts W1 hV1 hC1
 by_cases hp : designC m t cuts = 0
 ·rw [hp] at hcode
  have hf := (design_fits hp).1
  have hmc := mc_nat hf.ok
  have hdoors := hf.doors
  have hkl := keysOf_length hf.ok
  have hol := outsOf_length cuts (keysOf m)
  obtain ⟨locks, hlocks⟩ : ∃ x, x = locksTo m.c.toNat t cuts (getl t 0).length := ⟨_, rfl⟩
  obtain ⟨D, hD⟩ : ∃ D, (getl t 0).length = D := ⟨_, rfl⟩
  have hll : locks.length = D := by rw [hlocks, locksTo_len, hD]
  have hfin : profAns m t cuts = (cntL locks (outsOf cuts (keysOf m)) 1 D, 0) := by unfold profAns; rw [if_neg (by rw [hp]; decide), ← hlocks, hD]
  have hpr := profileOf_any (S := fun _ => True) (S' := fun _ => True) m (.slice a t.length c) (.slice a' cuts.length c') t cuts m.c.toNat
  rw [← hlocks, hD] at hpr
  rw [hfin]
  rw [hD] at hdoors
  have Hf := Lib.hid (And.intro hf (And.intro hmc hpr)); clear hf hmc hpr hol hkl
  have Hp := Lib.hid (And.intro hp (And.intro hfin (And.intro hlocks (And.intro hD hll)))); clear hp hfin hlocks hD hll
  have Hcode := Lib.hid hcode; clear hcode
  go_enter Tryz.func113, Tryz.ntmps113
  go_wp2_with fail
  rw [← hW1]
  refine Hcode.out.mono ?_
  rintro e' w2 ⟨rfl, hb2⟩
  have hx2 : ∀ o, w2.cell? ⟨W.heap.size, o, none⟩ = (#[.int .i64 m.c, .int .i64 m.d, .int .i64 m.s, .int .i64 m.e, .int .i64 m.l, .slice a t.length c] : Array Value)[o]? := fun o => by rw [(bcell hb2).1 _ _ hz01, hc01]
  have hz2 : W.heap.size < w2.heap.size := by have := hb2.size; omega
  clear hc01 hh01
  go_wp2_with fail
  refine (Hf.out.2.2 _ Hf.out.1 Hf.out.2.1 (hV1.below hb2) (hC1.below hb2)).mono ?_
  rintro e' w3 ⟨G, rfl, hG, hblk, hb3⟩
  have hx := hblk.x1 (off := 1) (by rw [cntL_len]; omega) (by rw [cntL_len]; omega)
  rw [cntL_drop, cntL_len] at hx
  have Hx := Lib.hid hx; clear hx hblk hx2
  have h1D : (1 : Int) ≤ ((D : Int) + 1) := by omega
  go_wp2_with fail
  go_ret2
  exact ⟨_, rfl, ⟨G, Hx.out, fun _ => by have := hb2.size; omega⟩, hB01.trans ((hb2.trans (hb3.mono hb2.size)).mono (by omega))⟩
 ·have hfin : profAns m t cuts = ([], designC m t cuts) := by unfold profAns; rw [if_pos hp]; (try rfl)
  have e1 : (designC m t cuts != 0) = true := by simp [hp]
  rw [hfin]
  have Hp := Lib.hid (And.intro hp hfin); clear hp hfin
  generalize designC m t cuts = pc at *
  go_enter Tryz.func113, Tryz.ntmps113
  go_wp2_with fail
  rw [← hW1]
  refine hcode.mono ?_
  rintro e' w2 ⟨rfl, hb2⟩
  clear hc01 hh01
  go_wp2_with fail
  go_ret2
  exact ⟨_, rfl, F1.nil0, hB01.trans (hb2.mono (by omega))⟩
theorem WorstSeverity_any {S S' : Nat → Prop} (m : Mk) (u v : Value) (t cuts : List (List Int)) (W : World) (h : V2 S W u t) (hc : V2 S' W v cuts) :
  Calls Tryz.prog 48 #[.agg #[.int .i64 m.c, .int .i64 m.d, .int .i64 m.s, .int .i64 m.e, .int .i64 m.l, u], v] W fun e' w' => e' = .returned (.tuple #[.int .i64 (worstAns m t cuts).1, .int .i64 (worstAns m t cuts).2]) ∧ Below W.heap.size W w' := by
 obtain ⟨a, c, rfl, hmx⟩ := h.form
 obtain ⟨a', c', rfl, hmx'⟩ := hc.form
 obtain ⟨W1, hW1, hB01, hz01, HZ01, hc01, hh01⟩ := box_facts W #[.int .i64 m.c, .int .i64 m.d, .int .i64 m.s, .int .i64 m.e, .int .i64 m.l, .slice a t.length c] 33
 have hV1 := (h.below hB01).any
 have hC1 := (hc.below hB01).any
 have hpr := ProfileOf_any m _ _ t cuts W1 hV1 hC1
 have hfew := profAns_few m t cuts
 unfold worstAns
 obtain ⟨l, hl⟩ : ∃ x, (profAns m t cuts).1 = x := ⟨_, rfl⟩
 obtain ⟨z, hz⟩ : ∃ x, (profAns m t cuts).2 = x := ⟨_, rfl⟩
 rw [hl] at hpr hfew ⊢
 rw [hz] at hpr ⊢
 obtain ⟨r, hr⟩ : ∃ x, worst l l.length = x := ⟨_, rfl⟩
 rw [hr]
 have hlen := hfew.1
 have Hpr := Lib.hid (And.intro hpr (And.intro hl (And.intro hz hr))); clear hpr hl hz hr hfew
 go_enter Tryz.func48, Tryz.ntmps48
 go_wp2_with fail
 rw [← hW1]
 refine Hpr.out.1.mono ?_
 rintro e' w2 ⟨v', rfl, hF, hb2⟩
 have hV := hF.v1
 obtain ⟨la, lc, rfl, hlm⟩ := hV.form
 clear hc01 hh01 hF
 go_wp2_with fail
 go_loop [8, 9, 10, 19] (fun s _ _ i => ∃ k : Nat, k ≤ l.length ∧ i = .int .i64 (k : Int) ∧ s = .int .i64 (worst l k)) (fun _ _ _ i => l.length - (intOf i).toNat)
 case atStart => exact ⟨0, Nat.zero_le _, rfl, rfl⟩
 case round =>
  obtain ⟨k, hk, rfl, rfl⟩ := hrel
  have hst : worst l (k + 1) = if 0 < geti l k then (k : Int) + 1 else worst l k := rfl
  obtain ⟨q, hq⟩ : ∃ q, worst l k = q := ⟨_, rfl⟩
  rw [hq] at hst ⊢
  by_cases hkk : k < l.length
  ·obtain ⟨b2, off2, rfl, _, hc2⟩ := hV.cell hkk
   obtain ⟨x, hx⟩ : ∃ x, geti l k = x := ⟨_, rfl⟩
   rw [hx] at hst hc2
   have Hq := Lib.hid (And.intro hq hx); clear hq hx
   by_cases hx0 : 0 < x
   ·rw [if_pos hx0] at hst
    have Hst := Lib.hid hst; clear hst
    go_wp2_with fail
    go_round
    case rel => exact ⟨k + 1, by omega, by go_num, by rw [Hst.out]⟩
    case measure => simp [intOf]; omega
   ·rw [if_neg hx0] at hst
    have Hst := Lib.hid hst; clear hst
    go_wp2_with fail
    go_round
    case rel => exact ⟨k + 1, by omega, by go_num, by rw [Hst.out]⟩
    case measure => simp [intOf]; omega
  ·obtain rfl : k = l.length := by omega
   have Hst := Lib.hid hst; clear hst
   have Hq := Lib.hid hq; clear hq
   go_wp2_with fail
   go_ret2
   obtain rfl : q = r := Hq.out.symm.trans Hpr.out.2.2.2
   exact ⟨rfl, hB01.trans (hb2.mono (by omega))⟩
set_option maxRecDepth 100000 in
theorem l22Worst_any {S : Nat → Prop} (v : Value) (l : List Int) (W : World) (r : Int) (hr : worst l l.length = r) (h : V1 S W v l) (hlen : l.length ≤ 1000) :
  Calls Tryz.prog 114 #[v] W fun e' w' => e' = .returned (.int .i64 r) ∧ W = w' := by
 have hV := h
 obtain ⟨a, c, rfl, hm⟩ := h.form
 have Hr := Lib.hid hr; clear hr
 obtain ⟨z0, hz0⟩ : ∃ z, z = (l.length : Int) - 1 := ⟨_, rfl⟩
 go_enter Tryz.func114, Tryz.ntmps114
 go_wp2_with fail
 go_loop [3] (fun i => ∃ (k : Nat) (z : Int), k ≤ l.length ∧ z = (k : Int) - 1 ∧ i = .int .i64 z ∧ worst l k = r) (fun i => (intOf i + 1).toNat)
 case atStart => exact ⟨l.length, z0, Nat.le_refl _, hz0, by go_num, Hr.out⟩
 case round =>
  obtain ⟨k, z, hk, hz, rfl, hq⟩ := hrel
  cases k with
  | zero =>
    have hzn : z < 0 := by omega
    clear hz
    have Hq := Lib.hid hq; clear hq
    go_wp2_with fail
    go_ret
    exact ⟨ret_int Hq.out, rfl⟩
  | succ k =>
    have hst : worst l (k + 1) = if 0 < geti l k then (k : Int) + 1 else worst l k := rfl
    rw [hq] at hst
    obtain rfl : z = (k : Int) := by omega
    clear hz
    obtain ⟨b2, off2, rfl, _, hc2⟩ := hV.cell (show k < l.length by omega)
    obtain ⟨x, hx⟩ : ∃ x, geti l k = x := ⟨_, rfl⟩
    rw [hx] at hst hc2
    have Hq := Lib.hid (And.intro hq hx); clear hq hx
    obtain ⟨z2, hz2⟩ : ∃ z2, z2 = (k : Int) - 1 := ⟨_, rfl⟩
    by_cases hx0 : 0 < x
    ·rw [if_pos hx0] at hst
     have Hst := Lib.hid hst; clear hst
     go_wp2_with fail
     go_ret
     exact ⟨ret_int Hst.out.symm, rfl⟩
    ·rw [if_neg hx0] at hst
     have Hst := Lib.hid hst; clear hst
     go_wp2_with fail
     go_round
     case rel => exact ⟨k, z2, by omega, hz2, by go_num, Hst.out.symm⟩
     case measure => simp [intOf]
theorem WorstSeverityR_any {S S' : Nat → Prop} (m : Mk) (u v : Value) (t cuts : List (List Int)) (W : World) (h : V2 S W u t) (hc : V2 S' W v cuts) :
  Calls Tryz.prog 49 #[.agg #[.int .i64 m.c, .int .i64 m.d, .int .i64 m.s, .int .i64 m.e, .int .i64 m.l, u], v] W fun e' w' => e' = .returned (.tuple #[.int .i64 (worstAns m t cuts).1, .int .i64 (worstAns m t cuts).2]) ∧ Below W.heap.size W w' := by
 obtain ⟨a, c, rfl, hmx⟩ := h.form
 obtain ⟨a', c', rfl, hmx'⟩ := hc.form
 obtain ⟨W1, hW1, hB01, hz01, HZ01, hc01, hh01⟩ := box_facts W #[.int .i64 m.c, .int .i64 m.d, .int .i64 m.s, .int .i64 m.e, .int .i64 m.l, .slice a t.length c] 33
 have hV1 := (h.below hB01).any
 have hC1 := (hc.below hB01).any
 have hcode := l21Code_any m _ _ t cuts W1 hV1 hC1
 by_cases hp : designC m t cuts = 0
 ·rw [hp] at hcode
  have hf := (design_fits hp).1
  have hmc := mc_nat hf.ok
  have hdoors := hf.doors
  have hkl := keysOf_length hf.ok
  have hol := outsOf_length cuts (keysOf m)
  obtain ⟨locks, hlocks⟩ : ∃ x, x = locksTo m.c.toNat t cuts (getl t 0).length := ⟨_, rfl⟩
  obtain ⟨D, hD⟩ : ∃ D, (getl t 0).length = D := ⟨_, rfl⟩
  have hll : locks.length = D := by rw [hlocks, locksTo_len, hD]
  have hfin : worstAns m t cuts = (worst (cntL locks (outsOf cuts (keysOf m)) 1 D) D, 0) := by unfold worstAns profAns; rw [if_neg (by rw [hp]; decide), ← hlocks, hD]; show (worst _ _, (0 : Int)) = _; rw [cntL_len]
  have hpr := l22Profile_any (S := fun _ => True) (S' := fun _ => True) m (.slice a t.length c) (.slice a' cuts.length c') t cuts m.c.toNat
  rw [← hlocks, hD] at hpr
  rw [hfin]
  rw [hD] at hdoors
  obtain ⟨r, hr⟩ : ∃ x, worst (cntL locks (outsOf cuts (keysOf m)) 1 D) D = x := ⟨_, rfl⟩
  rw [hr]
  have Hf := Lib.hid (And.intro hf (And.intro hmc hpr)); clear hf hmc hpr hol hkl
  have Hp := Lib.hid (And.intro hp (And.intro hfin (And.intro hlocks (And.intro hD (And.intro hll hr))))); clear hp hfin hlocks hD hll hr
  have Hcode := Lib.hid hcode; clear hcode
  go_enter Tryz.func49, Tryz.ntmps49
  go_wp2_with fail
  rw [← hW1]
  refine Hcode.out.mono ?_
  rintro e' w2 ⟨rfl, hb2⟩
  have hx2 : ∀ o, w2.cell? ⟨W.heap.size, o, none⟩ = (#[.int .i64 m.c, .int .i64 m.d, .int .i64 m.s, .int .i64 m.e, .int .i64 m.l, .slice a t.length c] : Array Value)[o]? := fun o => by rw [(bcell hb2).1 _ _ hz01, hc01]
  have hz2 : W.heap.size < w2.heap.size := by have := hb2.size; omega
  clear hc01 hh01
  go_wp2_with fail
  refine (Hf.out.2.2 _ Hf.out.1 Hf.out.2.1 (hV1.below hb2) (hC1.below hb2)).mono ?_
  rintro e' w3 ⟨G, rfl, hblk, hb3⟩
  have hx := hblk.x1 (off := 0) (by omega) (by rw [cntL_len]; omega)
  rw [List.drop_zero, cntL_len] at hx
  have Hx := Lib.hid (hx.v1 (S := fun _ => True) (fun _ => trivial)); clear hx hblk hx2
  go_wp2_with fail
  refine (l22Worst_any _ (cntL locks (outsOf cuts (keysOf m)) 1 D) _ r (by rw [cntL_len]; exact Hp.out.2.2.2.2.2) Hx.out (by rw [cntL_len]; omega)).mono ?_
  rintro e' w4 ⟨rfl, rfl⟩
  go_wp2_with fail
  go_ret2
  exact ⟨rfl, hB01.trans ((hb2.trans (hb3.mono hb2.size)).mono (by omega))⟩
 ·have hfin : worstAns m t cuts = (0, designC m t cuts) := by unfold worstAns profAns; rw [if_pos hp]; (try rfl)
  have e1 : (designC m t cuts != 0) = true := by simp [hp]
  rw [hfin]
  have Hp := Lib.hid (And.intro hp hfin); clear hp hfin
  generalize designC m t cuts = pc at *
  go_enter Tryz.func49, Tryz.ntmps49
  go_wp2_with fail
  rw [← hW1]
  refine hcode.mono ?_
  rintro e' w2 ⟨rfl, hb2⟩
  clear hc01 hh01
  go_wp2_with fail
  go_ret2
  exact ⟨rfl, hB01.trans (hb2.mono (by omega))⟩
theorem F1.nil {B : Nat} {w : World} : F1 B w (.slice none 0 0) [] := ⟨0, ⟨none, 0, rfl, Nat.le_refl _, Nat.zero_le _, fun hn => absurd rfl hn⟩, fun hn => absurd rfl hn⟩
def doorsAns (m : Mk) (t cuts : List (List Int)) (key : List Int) : List Int × Int :=
 if keyC m t cuts key ≠ 0 then ([], keyC m t cuts key) else (doorsOf (locksTo m.c.toNat t cuts (getl t 0).length) key, 0)
theorem keyC_ok {m : Mk} {t cuts : List (List Int)} {key : List Int} : keyC m t cuts key = 0 ↔ designC m t cuts = 0 ∧ isKeyB m key = true := by
 unfold keyC
 by_cases h : designC m t cuts = 0
 ·rw [if_neg (by rw [h]; decide)]
  cases isKeyB m key <;> simp [h]
 ·rw [if_pos h]; simp [h]
theorem keyC_no {m : Mk} {t cuts : List (List Int)} {key : List Int} (h : designC m t cuts ≠ 0) : keyC m t cuts key = designC m t cuts := by unfold keyC; rw [if_pos h]
set_option maxRecDepth 100000 in
theorem DoorsOpened_any {S S' S2 : Nat → Prop} (m : Mk) (u v kv : Value) (t cuts : List (List Int)) (key : List Int) (W : World) (h : V2 S W u t) (hc : V2 S' W v cuts) (hk : V1 S2 W kv key) :
  Calls Tryz.prog 109 #[.agg #[.int .i64 m.c, .int .i64 m.d, .int .i64 m.s, .int .i64 m.e, .int .i64 m.l, u], v, kv] W fun e' w' => ∃ v', e' = .returned (.tuple #[v', .int .i64 (doorsAns m t cuts key).2]) ∧ F1 W.heap.size w' v' (doorsAns m t cuts key).1 ∧ Below W.heap.size W w' := by
 obtain ⟨a, c, rfl, hmx⟩ := h.form
 obtain ⟨a', c', rfl, hmx'⟩ := hc.form
 obtain ⟨ka, kc, rfl, hmk⟩ := hk.form
 obtain ⟨W1, hW1, hB01, hz01, HZ01, hc01, hh01⟩ := box_facts W #[.int .i64 m.c, .int .i64 m.d, .int .i64 m.s, .int .i64 m.e, .int .i64 m.l, .slice a t.length c] 33
 have hV1 := (h.below hB01).any
 have hC1 := (hc.below hB01).any
 have hK1 := (hk.below hB01).any
 have hcode := designCode_any m _ _ t cuts W1 hV1 hC1
 by_cases hp : designC m t cuts = 0
 ·rw [hp] at hcode
  have hf := (design_fits hp).1
  have hmc := mc_nat hf.ok
  have hdoors := hf.doors
  have hz1 : W.heap.size < W1.heap.size := hz01
  have Hf := Lib.hid (And.intro hf hmc); clear hf hmc
  cases hk2 : isKeyB m key
  ·have hfin : doorsAns m t cuts key = ([], 2) := by
    have : keyC m t cuts key = 2 := by unfold keyC; rw [if_neg (by rw [hp]; decide), if_pos hk2]
    unfold doorsAns; rw [if_pos (by rw [this]; decide), this]
   rw [hfin]
   have Hcode := Lib.hid hcode; clear hcode
   have Hk := Lib.hid hk2; clear hk2
   have Hp := Lib.hid (And.intro hp hfin); clear hp hfin
   go_enter Tryz.func109, Tryz.ntmps109
   go_wp2_with fail
   rw [← hW1]
   refine Hcode.out.mono ?_
   rintro e' w2 ⟨rfl, hb2⟩
   have hx2 : ∀ o, w2.cell? ⟨W.heap.size, o, none⟩ = (#[.int .i64 m.c, .int .i64 m.d, .int .i64 m.s, .int .i64 m.e, .int .i64 m.l, .slice a t.length c] : Array Value)[o]? := fun o => by rw [(bcell hb2).1 _ _ hz01, hc01]
   have hz2 : W.heap.size < w2.heap.size := by have := hb2.size; omega
   clear hc01 hh01
   go_wp2_with fail
   refine (isKey_b m _ key _ _ Hk.out Hf.out.1.ok (hK1.below hb2)).mono ?_
   rintro e' w3 ⟨rfl, hb3⟩
   clear hx2
   go_wp2_with fail
   go_ret2
   exact ⟨_, rfl, F1.nil, hB01.trans ((hb2.trans (hb3.mono hb2.size)).mono (by omega))⟩
  ·have hfin : doorsAns m t cuts key = (doorsOf (locksTo m.c.toNat t cuts (getl t 0).length) key, 0) := by
    unfold doorsAns; rw [if_neg (by rw [keyC_ok.2 ⟨hp, hk2⟩]; decide)]
   rw [hfin]
   have hlen : ∀ k, k < (locksTo m.c.toNat t cuts (getl t 0).length).length → key.length ≤ (getll (locksTo m.c.toNat t cuts (getl t 0).length) k).length := fun k hk => by
    rw [locksTo_len] at hk
    rw [lock_len hk]
    have := (isKey_iff.1 hk2).1
    have := Hf.out.2
    omega
   have Hlen := Lib.hid hlen; clear hlen
   have Hcode := Lib.hid hcode; clear hcode
   have Hk := Lib.hid hk2; clear hk2
   have Hp := Lib.hid (And.intro hp hfin); clear hp hfin
   go_enter Tryz.func109, Tryz.ntmps109
   go_wp2_with fail
   rw [← hW1]
   refine Hcode.out.mono ?_
   rintro e' w2 ⟨rfl, hb2⟩
   have hx2 : ∀ o, w2.cell? ⟨W.heap.size, o, none⟩ = (#[.int .i64 m.c, .int .i64 m.d, .int .i64 m.s, .int .i64 m.e, .int .i64 m.l, .slice a t.length c] : Array Value)[o]? := fun o => by rw [(bcell hb2).1 _ _ hz01, hc01]
   have hz2 : W.heap.size < w2.heap.size := by have := hb2.size; omega
   have Hc01 := Lib.hid hc01; clear hc01 hh01
   go_wp2_with fail
   refine (isKey_b m _ key _ _ Hk.out Hf.out.1.ok (hK1.below hb2)).mono ?_
   rintro e' w3 ⟨rfl, hb3⟩
   have hb13 := hb2.trans (hb3.mono hb2.size)
   have hx3 : ∀ o, w3.cell? ⟨W.heap.size, o, none⟩ = (#[.int .i64 m.c, .int .i64 m.d, .int .i64 m.s, .int .i64 m.e, .int .i64 m.l, .slice a t.length c] : Array Value)[o]? := fun o => by rw [(bcell hb13).1 _ _ hz01, Hc01.out]
   have hz3 : W.heap.size < w3.heap.size := by have := hb3.size; omega
   clear hx2
   go_wp2_with fail
   refine (partLocks_any m _ _ t cuts m.c.toNat _ Hf.out.1 Hf.out.2 (hV1.below hb13) (hC1.below hb13)).mono ?_
   rintro e' w4 ⟨v4, rfl, hL4, hb4⟩
   clear hx3
   have hb14 := hb13.trans (hb4.mono hb13.size)
   go_wp2_with fail
   refine (doorsOpened_any _ _ _ key _ hL4 (hK1.below hb14) (by rw [locksTo_len]; omega) Hlen.out).mono ?_
   rintro e' w5 ⟨v5, rfl, hF5, hb5⟩
   have HF5 := Lib.hid hF5; clear hF5
   have hz5 : W.heap.size ≤ w4.heap.size := by have := hb14.size; omega
   go_wp2_with fail
   go_ret2
   exact ⟨_, rfl, F1.mono HF5.out hz5, hB01.trans ((hb14.trans (hb5.mono hb14.size)).mono (by omega))⟩
 ·have hfin : doorsAns m t cuts key = ([], designC m t cuts) := by
   unfold doorsAns; rw [keyC_no hp, if_pos hp]
  have e1 : (designC m t cuts != 0) = true := by simp [hp]
  rw [hfin]
  have Hp := Lib.hid (And.intro hp hfin); clear hp hfin
  generalize designC m t cuts = pc at *
  go_enter Tryz.func109, Tryz.ntmps109
  go_wp2_with fail
  rw [← hW1]
  refine hcode.mono ?_
  rintro e' w2 ⟨rfl, hb2⟩
  clear hc01 hh01
  go_wp2_with fail
  go_ret2
  exact ⟨_, rfl, F1.nil, hB01.trans (hb2.mono (by omega))⟩
def sevAns (m : Mk) (t cuts : List (List Int)) (key : List Int) : Int × Int :=
 if keyC m t cuts key ≠ 0 then (0, keyC m t cuts key) else if hasL cuts key = true then (0, 0) else (((doorsOf (locksTo m.c.toNat t cuts (getl t 0).length) key).length : Nat), 0)
theorem doors_few {m : Mk} {t cuts : List (List Int)} (hf : Fits m t cuts) (n : Nat) (key : List Int) : (doorsOf (locksTo n t cuts (getl t 0).length) key).length ≤ 12 := by
 have := doorsOf_len (locksTo n t cuts (getl t 0).length) key
 rw [locksTo_len] at this
 have := hf.doors
 omega
set_option maxRecDepth 100000 in
theorem SeverityOf_any {S S' S2 : Nat → Prop} (m : Mk) (u v kv : Value) (t cuts : List (List Int)) (key : List Int) (W : World) (h : V2 S W u t) (hc : V2 S' W v cuts) (hk : V1 S2 W kv key) :
  Calls Tryz.prog 46 #[.agg #[.int .i64 m.c, .int .i64 m.d, .int .i64 m.s, .int .i64 m.e, .int .i64 m.l, u], v, kv] W fun e' w' => e' = .returned (.tuple #[.int .i64 (sevAns m t cuts key).1, .int .i64 (sevAns m t cuts key).2]) ∧ Below W.heap.size W w' := by
 obtain ⟨a, c, rfl, hmx⟩ := h.form
 obtain ⟨a', c', rfl, hmx'⟩ := hc.form
 obtain ⟨ka, kc, rfl, hmk⟩ := hk.form
 obtain ⟨W1, hW1, hB01, hz01, HZ01, hc01, hh01⟩ := box_facts W #[.int .i64 m.c, .int .i64 m.d, .int .i64 m.s, .int .i64 m.e, .int .i64 m.l, .slice a t.length c] 33
 have hV1 := (h.below hB01).any
 have hC1 := (hc.below hB01).any
 have hK1 := (hk.below hB01).any
 have hdo := DoorsOpened_any m _ _ _ t cuts key W1 hV1 hC1 hK1
 by_cases hp : keyC m t cuts key = 0
 ·have hda : doorsAns m t cuts key = (doorsOf (locksTo m.c.toNat t cuts (getl t 0).length) key, 0) := by unfold doorsAns; rw [if_neg (by rw [hp]; decide)]
  rw [hda] at hdo
  have hfew := doors_few (design_fits (keyC_ok.1 hp).1).1 m.c.toNat key
  obtain ⟨ds, hds⟩ : ∃ x, x = doorsOf (locksTo m.c.toNat t cuts (getl t 0).length) key := ⟨_, rfl⟩
  rw [← hds] at hdo hfew
  cases hh : hasL cuts key
  all_goals
   first | (have hfin : sevAns m t cuts key = (((ds.length : Nat) : Int), 0) := (by unfold sevAns; rw [if_neg (by rw [hp]; decide), if_neg (by rw [hh]; decide), ← hds])) | (have hfin : sevAns m t cuts key = (0, 0) := (by unfold sevAns; rw [if_neg (by rw [hp]; decide), if_pos hh]))
   rw [hfin]
   have Hdo := Lib.hid hdo; clear hdo
   have Hh := Lib.hid hh; clear hh
   have Hp := Lib.hid (And.intro hp (And.intro hfin (And.intro hda hds))); clear hp hfin hda hds
   go_enter Tryz.func46, Tryz.ntmps46
   go_wp2_with fail
   rw [← hW1]
   refine Hdo.out.mono ?_
   rintro e' w2 ⟨v2, rfl, hF2, hb2⟩
   obtain ⟨a2, c2, rfl, _⟩ := hF2.v1.form
   clear hc01 hh01 hF2
   go_wp2_with fail
   refine (contains_b _ _ cuts key _ _ Hh.out (hC1.below hb2) (hK1.below hb2)).mono ?_
   rintro e' w3 ⟨rfl, hb3⟩
   go_wp2_with fail
   go_ret2
   exact ⟨rfl, hB01.trans ((hb2.trans (hb3.mono hb2.size)).mono (by omega))⟩
 ·have hda : doorsAns m t cuts key = ([], keyC m t cuts key) := by unfold doorsAns; rw [if_pos hp]
  rw [hda] at hdo
  have hfin : sevAns m t cuts key = (0, keyC m t cuts key) := by unfold sevAns; rw [if_pos hp]
  have e1 : (keyC m t cuts key != 0) = true := by simp [hp]
  rw [hfin]
  have Hp := Lib.hid (And.intro hp (And.intro hfin hda)); clear hp hfin hda
  generalize keyC m t cuts key = pc at *
  go_enter Tryz.func46, Tryz.ntmps46
  go_wp2_with fail
  rw [← hW1]
  refine hdo.mono ?_
  rintro e' w2 ⟨v2, rfl, hF2, hb2⟩
  clear hc01 hh01 hF2 hdo
  go_wp2_with fail
  go_ret2
  exact ⟨rfl, hB01.trans (hb2.mono (by omega))⟩
set_option maxRecDepth 100000 in
theorem SeverityOfR_any {S S' S2 : Nat → Prop} (m : Mk) (u v kv : Value) (t cuts : List (List Int)) (key : List Int) (W : World) (h : V2 S W u t) (hc : V2 S' W v cuts) (hk : V1 S2 W kv key) :
  Calls Tryz.prog 47 #[.agg #[.int .i64 m.c, .int .i64 m.d, .int .i64 m.s, .int .i64 m.e, .int .i64 m.l, u], v, kv] W fun e' w' => e' = .returned (.tuple #[.int .i64 (sevAns m t cuts key).1, .int .i64 (sevAns m t cuts key).2]) ∧ Below W.heap.size W w' := by
 obtain ⟨a, c, rfl, hmx⟩ := h.form
 obtain ⟨a', c', rfl, hmx'⟩ := hc.form
 obtain ⟨ka, kc, rfl, hmk⟩ := hk.form
 obtain ⟨W1, hW1, hB01, hz01, HZ01, hc01, hh01⟩ := box_facts W #[.int .i64 m.c, .int .i64 m.d, .int .i64 m.s, .int .i64 m.e, .int .i64 m.l, .slice a t.length c] 33
 have hV1 := (h.below hB01).any
 have hC1 := (hc.below hB01).any
 have hK1 := (hk.below hB01).any
 have hcode := l21Key_any m _ _ _ t cuts key W1 hV1 hC1 hK1
 by_cases hp : keyC m t cuts key = 0
 ·rw [hp] at hcode
  obtain ⟨hd, hk2⟩ := keyC_ok.1 hp
  have hf := (design_fits hd).1
  have hmc := mc_nat hf.ok
  have hkl : key.length ≤ m.c.toNat := by have := (isKey_iff.1 hk2).1; omega
  have hfew := doors_few hf m.c.toNat key
  have hld := l16Doors_any (S := fun _ => True) (S' := fun _ => True) (S2 := fun _ => True) m (.slice a t.length c) (.slice a' cuts.length c') (.slice ka key.length kc) t cuts key m.c.toNat
  have Hf := Lib.hid (And.intro hf (And.intro hmc hkl)); clear hf hmc hkl
  obtain ⟨ds, hds⟩ : ∃ x, x = doorsOf (locksTo m.c.toNat t cuts (getl t 0).length) key := ⟨_, rfl⟩
  rw [← hds] at hld hfew
  cases hh : hasL cuts key
  ·have hfin : sevAns m t cuts key = (((ds.length : Nat) : Int), 0) := by unfold sevAns; rw [if_neg (by rw [hp]; decide), if_neg (by rw [hh]; decide), ← hds]
   rw [hfin]
   have Hcode := Lib.hid (And.intro hcode hld); clear hcode hld
   have Hh := Lib.hid hh; clear hh
   have Hp := Lib.hid (And.intro hp (And.intro hfin (And.intro hd (And.intro hk2 hds)))); clear hp hfin hd hk2 hds
   go_enter Tryz.func47, Tryz.ntmps47
   go_wp2_with fail
   rw [← hW1]
   refine Hcode.out.1.mono ?_
   rintro e' w2 ⟨rfl, hb2⟩
   go_wp2_with fail
   refine (l14Has_b _ _ cuts key _ _ Hh.out (hC1.below hb2) (hK1.below hb2)).mono ?_
   rintro e' w3 ⟨rfl, nq, hw3⟩
   have hb3 : Below w2.heap.size w2 w3 := by rw [hw3]; exact below_drewN (Below.refl _ _) _
   clear hw3
   have hb13 := hb2.trans (hb3.mono hb2.size)
   have hx3 : ∀ o, w3.cell? ⟨W.heap.size, o, none⟩ = (#[.int .i64 m.c, .int .i64 m.d, .int .i64 m.s, .int .i64 m.e, .int .i64 m.l, .slice a t.length c] : Array Value)[o]? := fun o => by rw [(bcell hb13).1 _ _ hz01, hc01]
   have hz3 : W.heap.size < w3.heap.size := by have := hb13.size; omega
   clear hc01 hh01
   go_wp2_with fail
   refine (Hcode.out.2 _ Hf.out.1 Hf.out.2.1 Hf.out.2.2 (hV1.below hb13) (hC1.below hb13) (hK1.below hb13)).mono ?_
   rintro e' w4 ⟨v4, rfl, hF4, hb4⟩
   obtain ⟨a4, c4, rfl, _⟩ := hF4.v1.form
   clear hx3 hF4
   go_wp2_with fail
   go_ret2
   exact ⟨rfl, hB01.trans ((hb13.trans (hb4.mono hb13.size)).mono (by omega))⟩
  ·have hfin : sevAns m t cuts key = (0, 0) := by unfold sevAns; rw [if_neg (by rw [hp]; decide), if_pos hh]
   rw [hfin]
   have Hcode := Lib.hid (And.intro hcode hld); clear hcode hld
   have Hh := Lib.hid hh; clear hh
   have Hp := Lib.hid (And.intro hp (And.intro hfin (And.intro hd (And.intro hk2 hds)))); clear hp hfin hd hk2 hds
   go_enter Tryz.func47, Tryz.ntmps47
   go_wp2_with fail
   rw [← hW1]
   refine Hcode.out.1.mono ?_
   rintro e' w2 ⟨rfl, hb2⟩
   clear hc01 hh01
   go_wp2_with fail
   refine (l14Has_b _ _ cuts key _ _ Hh.out (hC1.below hb2) (hK1.below hb2)).mono ?_
   rintro e' w3 ⟨rfl, nq, hw3⟩
   have hb3 : Below w2.heap.size w2 w3 := by rw [hw3]; exact below_drewN (Below.refl _ _) _
   clear hw3
   go_wp2_with fail
   go_ret2
   exact ⟨rfl, hB01.trans ((hb2.trans (hb3.mono hb2.size)).mono (by omega))⟩
 ·have hfin : sevAns m t cuts key = (0, keyC m t cuts key) := by unfold sevAns; rw [if_pos hp]
  have e1 : (keyC m t cuts key != 0) = true := by simp [hp]
  rw [hfin]
  have Hp := Lib.hid (And.intro hp hfin); clear hp hfin
  generalize keyC m t cuts key = pc at *
  go_enter Tryz.func47, Tryz.ntmps47
  go_wp2_with fail
  rw [← hW1]
  refine hcode.mono ?_
  rintro e' w2 ⟨rfl, hb2⟩
  clear hc01 hh01
  go_wp2_with fail
  go_ret2
  exact ⟨rfl, hB01.trans (hb2.mono (by omega))⟩
/-- Of some keys those that open n doors. -/
def lvlL (locks : List (List (List Int))) (L : List (List Int)) (n : Nat) : List (List Int) := L.filter fun k => decide (ndoors locks k = n)
/-- Those of the j highest of D levels, the highest level first. -/
def frontL (locks : List (List (List Int))) (L : List (List Int)) (D : Nat) : Nat → List (List Int)
 | 0 => []
 | j + 1 => frontL locks L D j ++ lvlL locks L (D - j)
def wghAns (m : Mk) (t cuts : List (List Int)) (most : Int) : List (List Int) × Int :=
 if designC m t cuts ≠ 0 then ([], designC m t cuts) else if inB most 0 300 = false then ([], 2)
 else ((frontL (locksTo m.c.toNat t cuts (getl t 0).length) (selL (locksTo m.c.toNat t cuts (getl t 0).length) cuts true (keysOf m)) (getl t 0).length (getl t 0).length).take most.toNat, 0)
section
variable {locks : List (List (List Int))} {L : List (List Int)} {D : Nat}
theorem mem_front {x : List Int} : ∀ {j}, j ≤ D → (x ∈ frontL locks L D j ↔ x ∈ L ∧ D - j < ndoors locks x ∧ ndoors locks x ≤ D)
 | 0, _ => by
   constructor
   ·intro h; cases h
   ·rintro ⟨_, h1, h2⟩; omega
 | j + 1, hj => by
   unfold frontL lvlL
   rw [List.mem_append, mem_front (by omega), List.mem_filter, decide_eq_true_iff]
   constructor
   ·rintro (⟨h1, h2, h3⟩ | ⟨h1, h2⟩)
    ·exact ⟨h1, by omega, h3⟩
    ·exact ⟨h1, by omega, by omega⟩
   ·rintro ⟨h1, h2, h3⟩
    by_cases e : ndoors locks x = D - j
    ·exact .inr ⟨h1, e⟩
    ·exact .inl ⟨h1, by omega, h3⟩
theorem front_sort : ∀ {j}, j ≤ D → (frontL locks L D j).Pairwise fun a b => ndoors locks b ≤ ndoors locks a
 | 0, _ => List.Pairwise.nil
 | j + 1, hj => by
   unfold frontL
   refine List.pairwise_append.2 ⟨front_sort (by omega), ?_, fun a ha b hb => ?_⟩
   ·unfold lvlL
    refine List.Pairwise.imp_of_mem (R := fun _ _ => True) (fun {a b} ha hb _ => ?_) (List.pairwise_of_forall fun _ _ => trivial)
    rw [List.mem_filter, decide_eq_true_iff] at ha hb
    omega
   ·have h1 := ((mem_front (by omega)).1 ha).2.1
    unfold lvlL at hb
    rw [List.mem_filter, decide_eq_true_iff] at hb
    omega
theorem cnt_split {p q r : List Int → Bool} (h : ∀ x, r x = (p x || q x)) (hd : ∀ x, p x = true → q x = false) : ∀ L : List (List Int), L.countP r = L.countP p + L.countP q
 | [] => rfl
 | x :: L => by
   rw [List.countP_cons, List.countP_cons, List.countP_cons, cnt_split h hd L, h x]
   cases hp : p x
   ·cases hq : q x <;> simp <;> omega
   ·rw [hd x hp]; simp; omega
theorem front_len : ∀ {j}, j ≤ D → (frontL locks L D j).length = L.countP fun k => decide (D - j < ndoors locks k) && decide (ndoors locks k ≤ D)
 | 0, _ => by
   unfold frontL
   rw [List.length_nil, eq_comm, List.countP_eq_zero]
   intro x _
   simp only [Bool.and_eq_true, decide_eq_true_iff]
   omega
 | j + 1, hj => by
   unfold frontL lvlL
   rw [List.length_append, front_len (by omega), ← List.countP_eq_length_filter, eq_comm]
   refine cnt_split (fun x => ?_) (fun x hx => ?_) L
   ·rw [Bool.eq_iff_iff]
    simp only [Bool.and_eq_true, Bool.or_eq_true, decide_eq_true_iff]
    omega
   ·simp only [Bool.and_eq_true, decide_eq_true_iff] at hx
    exact decide_eq_false (by omega)
end
theorem worst_char (l : List Int) : ∀ k, (worst l k = 0 ∧ ∀ j, j < k → geti l j ≤ 0) ∨ ∃ j, j < k ∧ worst l k = (j : Int) + 1 ∧ 0 < geti l j ∧ ∀ i, j < i → i < k → geti l i ≤ 0
 | 0 => .inl ⟨rfl, fun j hj => by omega⟩
 | k + 1 => by
   unfold worst
   by_cases h : 0 < geti l k
   ·rw [if_pos h]
    exact .inr ⟨k, by omega, rfl, h, fun i h1 h2 => by omega⟩
   ·rw [if_neg h]
    rcases worst_char l k with ⟨h1, h2⟩ | ⟨j, h1, h2, h3, h4⟩
    ·exact .inl ⟨h1, fun j hj => by
      by_cases e : j = k
      ·subst e; omega
      ·exact h2 j (by omega)⟩
    ·exact .inr ⟨j, by omega, h2, h3, fun i g1 g2 => by
      by_cases e : i = k
      ·subst e; omega
      ·exact h4 i g1 (by omega)⟩
theorem cnt_pos {locks : List (List (List Int))} {ks : List (List Int)} {D j : Nat} (hj : j < D) : 0 < geti (cntL locks ks 1 D) j ↔ ∃ k ∈ ks, ndoors locks k = 1 + j := by
 rw [cntL_get hj]
 unfold cntN
 constructor
 ·intro h
  have h : 0 < ks.countP fun k => decide (ndoors locks k = 1 + j) := by omega
  obtain ⟨k, hk, e⟩ := List.countP_pos_iff.1 h
  exact ⟨k, hk, of_decide_eq_true e⟩
 ·rintro ⟨k, hk, e⟩
  have : 0 < ks.countP fun k => decide (ndoors locks k = 1 + j) := List.countP_pos_iff.2 ⟨k, hk, decide_eq_true e⟩
  omega
theorem sel_iff {locks : List (List (List Int))} {cuts ks : List (List Int)} {k : List Int} : k ∈ selL locks cuts true ks ↔ k ∈ outsOf cuts ks ∧ 0 < ndoors locks k := by
 unfold selL outsOf
 rw [List.mem_filter, List.mem_filter]
 unfold selK
 simp only [Bool.and_eq_true, beq_iff_eq, decide_eq_true_iff]
 constructor
 ·rintro ⟨h1, h2, h3⟩; exact ⟨⟨h1, h3⟩, h2⟩
 ·rintro ⟨⟨h1, h3⟩, h2⟩; exact ⟨h1, h2, h3⟩
/-- The first of the worst ghosts opens as many doors as the profile says. -/
theorem worst_first {locks : List (List (List Int))} {cuts ks : List (List Int)} {D : Nat} (hD : locks.length = D) (h0 : 0 < (frontL locks (selL locks cuts true ks) D D).length) :
  worst (cntL locks (outsOf cuts ks) 1 D) D = (ndoors locks (getl (frontL locks (selL locks cuts true ks) D D) 0) : Int) := by
 obtain ⟨F, hF⟩ : ∃ F, frontL locks (selL locks cuts true ks) D D = F := ⟨_, rfl⟩
 have hs := front_sort (locks := locks) (L := selL locks cuts true ks) (D := D) (Nat.le_refl D)
 have hm := fun x => mem_front (x := x) (locks := locks) (L := selL locks cuts true ks) (D := D) (Nat.le_refl D)
 rw [hF] at h0 hs ⊢
 simp only [hF] at hm
 have hf0 := (hm _).1 (getl_mem h0)
 obtain ⟨g1, g2⟩ := sel_iff.1 hf0.1
 have hmax : ∀ x ∈ F, ndoors locks x ≤ ndoors locks (getl F 0) := fun x hx => by
  obtain ⟨j, hj, rfl⟩ := List.getElem_of_mem hx
  by_cases e : j = 0
  ·subst e; rw [getl_eq h0]; exact Nat.le_refl _
  ·rw [getl_eq h0]
   exact List.pairwise_iff_getElem.1 hs 0 j h0 hj (by omega)
 obtain ⟨d, hd⟩ : ∃ d, ndoors locks (getl F 0) = d := ⟨_, rfl⟩
 rw [hd] at g2 hf0 hmax ⊢
 have hpos := (cnt_pos (locks := locks) (ks := outsOf cuts ks) (D := D) (j := d - 1) (by omega)).2 ⟨_, g1, by omega⟩
 rcases worst_char (cntL locks (outsOf cuts ks) 1 D) D with ⟨h1, h2⟩ | ⟨j, h1, h2, h3, h4⟩
 ·have := h2 (d - 1) (by omega)
  omega
 ·obtain ⟨k, hk, e⟩ := (cnt_pos h1).1 h3
  have hkF := (hm k).2 ⟨sel_iff.2 ⟨hk, by omega⟩, by omega, by have := ndoors_le locks k; omega⟩
  have a1 := hmax k hkF
  by_cases a2 : j < d - 1
  ·have := h4 (d - 1) a2 (by omega)
   omega
  ·rw [h2]; omega
theorem sev_law {m : Mk} {t cuts l : List (List Int)} {most : Int} (h : wghAns m t cuts most = (l, 0)) : designC m t cuts = 0 ∧ (0 ≤ most ∧ most ≤ 300) ∧ (sysGhostAns m t cuts).2 = 0 ∧ (l.length : Int) = min most (sysGhostAns m t cuts).1 ∧
  (∀ i, i < l.length → ∃ d : Nat, sevAns m t cuts (getl l i) = ((d : Int), 0) ∧ 1 ≤ d ∧ (i = 0 → (d : Int) = (worstAns m t cuts).1) ∧ ∀ j, j < l.length → i < j → (sevAns m t cuts (getl l j)).1 ≤ (d : Int)) := by
 unfold wghAns at h
 split at h
 ·rename_i h1; exact absurd (congrArg Prod.snd h) h1
 rename_i h1
 have hp := Classical.not_not.1 h1
 split at h
 ·have := congrArg Prod.snd h; simp at this
 rename_i h2
 have hin := inB_iff.1 (show inB most 0 300 = true by simpa using h2)
 have hl := congrArg Prod.fst h
 dsimp only at hl
 clear h h1 h2
 obtain ⟨hf, _⟩ := design_fits hp
 have hmk := Mk.ok_iff.1 hf.ok
 have hsys : sysGhostAns m t cuts = ((((selL (locksTo m.c.toNat t cuts (getl t 0).length) cuts true (keysOf m)).length : Nat) : Int), 0) := by unfold sysGhostAns; rw [if_neg (by rw [hp]; decide)]
 have hwst : (worstAns m t cuts).1 = worst (cntL (locksTo m.c.toNat t cuts (getl t 0).length) (outsOf cuts (keysOf m)) 1 (getl t 0).length) (getl t 0).length := by
  unfold worstAns profAns
  rw [if_neg (by rw [hp]; decide)]
  show worst _ _ = _
  rw [cntL_len]
 have hsev : ∀ k ∈ selL (locksTo m.c.toNat t cuts (getl t 0).length) cuts true (keysOf m), sevAns m t cuts k = ((ndoors (locksTo m.c.toNat t cuts (getl t 0).length) k : Int), 0) ∧ 1 ≤ ndoors (locksTo m.c.toNat t cuts (getl t 0).length) k := fun k hk => by
  obtain ⟨g1, g2⟩ := sel_iff.1 hk
  unfold outsOf at g1
  rw [List.mem_filter] at g1
  have hkey := (mem_keysOf (by omega)).1 g1.1
  have hno : hasL cuts k = false := by simpa using g1.2
  refine ⟨?_, g2⟩
  unfold sevAns
  rw [if_neg (by rw [keyC_ok.2 ⟨hp, hkey⟩]; decide), if_neg (by rw [hno]; decide)]
  rfl
 have hfst := worst_first (locks := locksTo m.c.toNat t cuts (getl t 0).length) (cuts := cuts) (ks := keysOf m) (locksTo_len _ _ _ _)
 rw [hsys, hwst]
 have hll : (locksTo m.c.toNat t cuts (getl t 0).length).length = (getl t 0).length := locksTo_len _ _ _ _
 generalize locksTo m.c.toNat t cuts (getl t 0).length = locks at *
 generalize (getl t 0).length = D at *
 generalize hS : selL locks cuts true (keysOf m) = S at *
 have hlen := front_len (locks := locks) (L := S) (D := D) (Nat.le_refl D)
 have hall : S.countP (fun k => decide (D - D < ndoors locks k) && decide (ndoors locks k ≤ D)) = S.length := by
  rw [List.countP_eq_length]
  intro k hk
  have := (hsev k hk).2
  have := ndoors_le locks k
  simp only [Bool.and_eq_true, decide_eq_true_iff]
  omega
 rw [hall] at hlen
 have hsort := front_sort (locks := locks) (L := S) (D := D) (Nat.le_refl D)
 have hm := fun x => mem_front (x := x) (locks := locks) (L := S) (D := D) (Nat.le_refl D)
 generalize frontL locks S D D = F at *
 have hlenl : l.length = min most.toNat F.length := by rw [← hl, List.length_take]
 refine ⟨hp, hin, rfl, by show (l.length : Int) = min most (S.length : Int); omega, fun i hi => ?_⟩
 have hgl : ∀ j, j < l.length → getl l j = getl F j := fun j hj => by rw [← hl]; exact getl_take (by omega)
 have hin2 : ∀ j, j < l.length → getl F j ∈ S := fun j hj => ((hm _).1 (getl_mem (by omega))).1
 refine ⟨ndoors locks (getl F i), by rw [hgl i hi]; exact (hsev _ (hin2 i hi)).1, (hsev _ (hin2 i hi)).2, fun e => ?_, fun j hj hij => ?_⟩
 ·subst e
  exact (hfst (by omega)).symm
 ·rw [hgl j hj, (hsev _ (hin2 j hj)).1]
  have := List.pairwise_iff_getElem.1 hsort i j (by omega) (by omega) hij
  rw [getl_eq (show i < F.length by omega), getl_eq (show j < F.length by omega)]
  exact Int.ofNat_le.2 this
/-- The state: for each number of doors the ghosts that open so many, at most as many as told. -/
def setL (s : Nat → List (List Int)) (n : Nat) (l : List (List Int)) : Nat → List (List Int) := fun k => if k = n then l else s k
def wgStep (M : Nat) (s : Nat → List (List Int)) (key ds : List Int) : (Nat → List (List Int)) × Bool :=
 if 0 < ds.length ∧ (s ds.length).length < M then (setL s ds.length (s ds.length ++ [key]), true) else (s, true)
theorem wg_run (M : Nat) (cuts : List (List Int)) (locks : List (List (List Int))) (n : Nat) : ∀ (l : List (List Int)) (s : Nat → List (List Int)), (s n).length ≤ M →
  (runL (outStep (wgStep M) cuts locks) s l).1 n = if n = 0 then s n else s n ++ (lvlL locks (selL locks cuts true l) n).take (M - (s n).length)
 | [], s, h => by simp [runL, selL, lvlL]
 | k :: l, s, h => by
   rw [runL]
   have hb : ∀ x, (outStep (wgStep M) cuts locks s k) = (x, true) → (if (outStep (wgStep M) cuts locks s k).2 = true then runL (outStep (wgStep M) cuts locks) (outStep (wgStep M) cuts locks s k).1 l else ((outStep (wgStep M) cuts locks s k).1, false)).1 n = (runL (outStep (wgStep M) cuts locks) x l).1 n := fun x hx => by rw [hx]; rfl
   have hsel : selL locks cuts true (k :: l) = if selK locks cuts true k = true then k :: selL locks cuts true l else selL locks cuts true l := by
    unfold selL; rw [List.filter_cons]
   by_cases hc : hasL cuts k = true
   ·have e1 : outStep (wgStep M) cuts locks s k = (s, true) := by unfold outStep; rw [if_pos hc]
    have e2 : selK locks cuts true k = false := by unfold selK; simp [hc]
    rw [e1, hsel, e2]
    exact wg_run M cuts locks n l s h
   ·have e1 : outStep (wgStep M) cuts locks s k = wgStep M s k (doorsOf locks k) := by unfold outStep; rw [if_neg hc]
    rw [e1, hsel]
    by_cases hk : 0 < (doorsOf locks k).length
    ·have e2 : selK locks cuts true k = true := by unfold selK; simp only [Bool.not_eq_true] at hc; rw [hc, show decide (0 < ndoors locks k) = true from decide_eq_true hk]; rfl
     have hlv : lvlL locks (k :: selL locks cuts true l) n = if (doorsOf locks k).length = n then k :: lvlL locks (selL locks cuts true l) n else lvlL locks (selL locks cuts true l) n := by
      unfold lvlL; rw [List.filter_cons]; simp only [decide_eq_true_iff]; rfl
     rw [if_pos e2, hlv]
     by_cases hm : (s (doorsOf locks k).length).length < M
     ·have e4 : wgStep M s k (doorsOf locks k) = (setL s (doorsOf locks k).length (s (doorsOf locks k).length ++ [k]), true) := by unfold wgStep; rw [if_pos ⟨hk, hm⟩]
      rw [e4, if_pos rfl]
      by_cases hn : n = (doorsOf locks k).length
      ·have hs : setL s (doorsOf locks k).length (s (doorsOf locks k).length ++ [k]) n = s n ++ [k] := by unfold setL; rw [if_pos hn, hn]
       rw [← hn] at hm hk
       have ih := wg_run M cuts locks n l (setL s (doorsOf locks k).length (s (doorsOf locks k).length ++ [k])) (by rw [hs]; simp; omega)
       rw [hs] at ih
       rw [ih, if_neg (by omega), if_neg (by omega), if_pos hn.symm, List.append_assoc]
       congr 1
       rw [List.length_append, List.length_singleton, show M - (s n).length = (M - ((s n).length + 1)) + 1 by omega]
       rfl
      ·have hs : setL s (doorsOf locks k).length (s (doorsOf locks k).length ++ [k]) n = s n := by unfold setL; rw [if_neg hn]
       have ih := wg_run M cuts locks n l (setL s (doorsOf locks k).length (s (doorsOf locks k).length ++ [k])) (by rw [hs]; exact h)
       rw [hs] at ih
       rw [ih]
       simp only [if_neg (show ¬ (doorsOf locks k).length = n from fun e => hn e.symm)]
     ·have e4 : wgStep M s k (doorsOf locks k) = (s, true) := by unfold wgStep; rw [if_neg (fun hh => hm hh.2)]
      rw [e4, if_pos rfl, wg_run M cuts locks n l s h]
      by_cases hn : (doorsOf locks k).length = n
      ·rw [if_pos hn]
       rw [hn] at hm
       rw [show M - (s n).length = 0 by omega]; simp
      ·rw [if_neg hn]
    ·have e2 : selK locks cuts true k = false := by unfold selK; rw [show decide (0 < ndoors locks k) = false from decide_eq_false hk]; simp
     have e4 : wgStep M s k (doorsOf locks k) = (s, true) := by unfold wgStep; rw [if_neg (fun hh => hk hh.1)]
     rw [e4, e2]
     exact wg_run M cuts locks n l s h
/-- The table of lists: block TB holds D + 1 lists of keys, each in memory of its own. -/
structure WgAt (B TB D : Nat) (s : Nat → List (List Int)) (cs : Array Value) (vals : Nat → Value) (vss : Nat → List Value) (bks : Nat → Nat → Nat) (w : World) : Prop where
 tab : w.heap[TB]? = some (.cells cs 24 (0, 0))
 cell : ∀ k, k ≤ D → cs[k]? = some (vals k)
 each : ∀ k, k ≤ D → Out2x B w (vals k) (s k) (vss k) (bks k)
 sep : ∀ j k, j ≤ D → k ≤ D → j ≠ k → ∀ b, OutG (vals j) (s j) (bks j) b → ¬ OutG (vals k) (s k) (bks k) b
 off : ∀ k, k ≤ D → ¬ OutG (vals k) (s k) (bks k) TB
 base : B ≤ w.heap.size
def FamF (TB D : Nat) (vals : Nat → Value) (s : Nat → List (List Int)) (bks : Nat → Nat → Nat) (b : Nat) : Prop := b = TB ∨ ∃ k, k ≤ D ∧ OutG (vals k) (s k) (bks k) b
theorem Out2x.ltG {B : Nat} {w : World} {v : Value} {ls : List (List Int)} {vs : List Value} {bk : Nat → Nat} (h : Out2x B w v ls vs bk) : ∀ b, OutG v ls bk b → b < w.heap.size := by
 rintro b (h1 | ⟨k, h1, h2, rfl⟩)
 ·exact (h.1.lt _ h1).2
 ·obtain ⟨rv, _, h5⟩ := h.2.1 k h1
  exact h5.lt h2
theorem WgAt.stay {B TB D : Nat} {s : Nat → List (List Int)} {cs : Array Value} {vals : Nat → Value} {vss : Nat → List Value} {bks : Nat → Nat → Nat} {w w' : World} (h : WgAt B TB D s cs vals vss bks w)
  (hz : w.heap.size ≤ w'.heap.size) (hk : ∀ b, FamF TB D vals s bks b → w'.heap[b]? = w.heap[b]?) : WgAt B TB D s cs vals vss bks w' :=
 ⟨(hk TB (.inl rfl)).trans h.tab, h.cell, fun k hkD => (h.each k hkD).lo fun b hb => hk b (.inr ⟨k, hkD, hb⟩), h.sep, h.off, Nat.le_trans h.base hz⟩
theorem WgAt.lt {B TB D : Nat} {s : Nat → List (List Int)} {cs : Array Value} {vals : Nat → Value} {vss : Nat → List Value} {bks : Nat → Nat → Nat} {w : World} (h : WgAt B TB D s cs vals vss bks w) : ∀ b, FamF TB D vals s bks b → b < w.heap.size := by
 rintro b (rfl | ⟨k, hk, hb⟩)
 ·exact lt_of_heap h.tab
 ·exact (h.each k hk).ltG b hb
theorem WgAt.put {B TB D : Nat} {s : Nat → List (List Int)} {cs : Array Value} {vals : Nat → Value} {vss : Nat → List Value} {bks : Nat → Nat → Nat} {w : World} (h : WgAt B TB D s cs vals vss bks w)
  {n b3 : Nat} {w2 w4 : World} {rv v' : Value} {key : List Int} (hn : n ≤ D) (hb : Below w.heap.size w w2) (hx : X1 w2 rv key b3) (hbn : key ≠ [] → w.heap.size ≤ b3)
  (hown : w4.ownsRow B 44 1 v' ((s n).length + 1) (vss n ++ [rv])) (hg : w2.grownBy w4 (vals n).ownBlock) (hblk : v'.ownBlock = (vals n).ownBlock ∨ ∃ g, v'.ownBlock = some g ∧ w2.heap.size ≤ g) :
  WgAt B TB D (setL s n (s n ++ [key])) (cs.setIfInBounds n v') (fun k => if k = n then v' else vals k) (fun k => if k = n then vss n ++ [rv] else vss k) (fun k => if k = n then (fun j => if j < (s n).length then bks n j else b3) else bks k) (w4.setCell ⟨TB, n, none⟩ v') ∧
   Chg (FamF TB D vals s bks) w (w4.setCell ⟨TB, n, none⟩ v') ∧ ∀ b, FamF TB D (fun k => if k = n then v' else vals k) (setL s n (s n ++ [key])) (fun k => if k = n then (fun j => if j < (s n).length then bks n j else b3) else bks k) b → FamF TB D vals s bks b ∨ w.heap.size ≤ b := by
 have hO := Out2x.push (h.each n hn) h.base hb hx hbn hown hg hblk
 have hG := OutG.push (b3 := b3) (z := w.heap.size) (v := vals n) (v' := v') (ls := s n) (l := key) (bk := bks n) (by
  rcases hblk with e | ⟨g, e, h1⟩
  ·exact .inl e
  ·exact .inr ⟨g, e, by have := hb.size; omega⟩) hbn
 have hTlt := lt_of_heap h.tab
 have hz := hb.size
 have hT4 : w4.heap[TB]? = some (.cells cs 24 (0, 0)) := by
  rw [hg.block TB (by omega) (fun e => h.off n hn (.inl e.symm)), hb.block TB hTlt]; exact h.tab
 have hOff : ¬ OutG v' (s n ++ [key]) (fun j => if j < (s n).length then bks n j else b3) TB := fun hb => by
  rcases hG TB hb with h1 | h1
  ·exact h.off n hn h1
  ·omega
 have hs1 : setL s n (s n ++ [key]) n = s n ++ [key] := by unfold setL; rw [if_pos rfl]
 have hs2 : ∀ k, k ≠ n → setL s n (s n ++ [key]) k = s k := fun k hk => by unfold setL; rw [if_neg hk]
 have hch : Chg (FamF TB D vals s bks) w (w4.setCell ⟨TB, n, none⟩ v') :=
  ((Chg.of_below hb).grown hg (fun k hk => .inl (.inr ⟨n, hn, .inl hk⟩))).setCell (p := ⟨TB, n, none⟩) (.inl (.inl rfl)) v'
 have hsz : w.heap.size ≤ (w4.setCell ⟨TB, n, none⟩ v').heap.size := hch.size
 have hcsz : n < cs.size := (Array.getElem?_eq_some_iff.1 (h.cell n hn)).1
 refine ⟨⟨heap_setCell_self hT4 v', fun k hk => ?_, fun k hk => ?_, fun j k hj hk hjk b hbj hbk => ?_, fun k hk => ?_, Nat.le_trans h.base hsz⟩, hch, fun b hfb => ?_⟩
 ·by_cases e : k = n
  ·subst e
   simp [hcsz]
  ·simp only [if_neg e]
   rw [Array.getElem?_setIfInBounds, if_neg (fun e2 => e e2.symm)]
   exact h.cell k hk
 ·by_cases e : k = n
  ·subst e
   simp only [if_true, hs1]
   exact hO.lo fun b hb => heap_setCell_other _ (fun e => hOff (by have e2 : b = TB := e; rw [← e2]; exact hb))
  ·simp only [if_neg e, hs2 k e]
   refine (h.each k hk).lo fun b hb2 => ?_
   have hbl := (h.each k hk).ltG b hb2
   rw [heap_setCell_other _ (fun e2 => h.off k hk (by have e3 : b = TB := e2; rw [← e3]; exact hb2)), hg.block b (by omega) (fun e2 => h.sep k n hk hn e b hb2 (.inl e2.symm)), hb.block b hbl]
 ·by_cases ej : j = n
  ·subst ej
   have ek : k ≠ j := fun e => hjk e.symm
   simp only [if_true, hs1] at hbj
   simp only [if_neg ek, hs2 k ek] at hbk
   rcases hG b hbj with h1 | h1
   ·exact h.sep j k hj hk hjk b h1 hbk
   ·have := (h.each k hk).ltG b hbk; omega
  ·simp only [if_neg ej, hs2 j ej] at hbj
   by_cases ek : k = n
   ·subst ek
    simp only [if_true, hs1] at hbk
    rcases hG b hbk with h1 | h1
    ·exact h.sep j k hj hk hjk b hbj h1
    ·have := (h.each j hj).ltG b hbj; omega
   ·simp only [if_neg ek, hs2 k ek] at hbk
    exact h.sep j k hj hk hjk b hbj hbk
 ·by_cases e : k = n
  ·subst e
   simp only [if_true, hs1]
   exact hOff
  ·simp only [if_neg e, hs2 k e]
   exact h.off k hk
 ·rcases hfb with e | ⟨k, hk, hkb⟩
  ·exact .inl (.inl e)
  ·by_cases e : k = n
   ·subst e
    simp only [if_true, hs1] at hkb
    rcases hG b hkb with h1 | h1
    ·exact .inl (.inr ⟨k, hk, h1⟩)
    ·exact .inr h1
   ·simp only [if_neg e, hs2 k e] at hkb
    exact .inl (.inr ⟨k, hk, hkb⟩)
theorem enters_wg : Enters 61 := fun args w => by kernel_rfl
set_option maxRecDepth 100000 in
set_option maxHeartbeats 2000000 in
theorem wg1_any {S S2 : Nat → Prop} (kv dv : Value) (key ds : List Int) (s : Nat → List (List Int)) (B OB MB TB D M : Nat) (cs : Array Value) (vals : Nat → Value) (vss : Nat → List Value) (bks : Nat → Nat → Nat) (w : World) (hk : V1 S w kv key) (hd : V1 S2 w dv ds)
  (hOB : w.cell? ⟨OB, 0, none⟩ = some (.slice (some ⟨TB, 0, none⟩) (D + 1) (D + 1))) (hM : w.cell? ⟨MB, 0, none⟩ = some (.int .i64 (M : Int))) (hI : WgAt B TB D s cs vals vss bks w)
  (hne : ¬ FamF TB D vals s bks OB ∧ ¬ FamF TB D vals s bks MB) (hdl : ds.length ≤ D) (hD : D ≤ 12) (hM3 : M ≤ 300) (hkl : key.length ≤ 1000) (hsl : ∀ k, k ≤ D → (s k).length ≤ 300) :
  Calls Tryz.prog 61 #[kv, dv, .pointer (some ⟨OB, 0, none⟩), .pointer (some ⟨MB, 0, none⟩)] w fun e w' => e = .returned (.bool true) ∧
   ∃ cs' vals' vss' bks', WgAt B TB D (wgStep M s key ds).1 cs' vals' vss' bks' w' ∧ Chg (FamF TB D vals s bks) w w' ∧ ∀ b, FamF TB D vals' (wgStep M s key ds).1 bks' b → FamF TB D vals s bks b ∨ w.heap.size ≤ b := by
 obtain ⟨ka, kc, rfl, hkm⟩ := hk.form
 obtain ⟨da, dc, rfl, hdm⟩ := hd.form
 obtain ⟨n, hn⟩ : ∃ n, ds.length = n := ⟨_, rfl⟩
 rw [hn] at hdl hdm ⊢
 by_cases hn0 : 0 < n
 ·obtain ⟨oa, oc, hov, ho1, ho2⟩ := own_form (hI.each n hdl).1
  have hcn : w.cell? ⟨TB, n, none⟩ = some (.slice oa (s n).length oc) := by rw [cell_of_block hI.tab, hI.cell n hdl, hov]
  have hnn : ¬ D + 1 ≤ n := by omega
  have hnd : (n : Int) < ((D : Int) + 1) := by omega
  have hn1 : decide ((0 : Int) < (n : Int)) = true := decide_eq_true (by omega)
  have hsn := hsl n hdl
  obtain ⟨q, hq⟩ : ∃ q, (s n).length = q := ⟨_, rfl⟩
  rw [hq] at hcn ho1 hsn
  by_cases hm : q < M
  ·have hst : wgStep M s key ds = (setL s n (s n ++ [key]), true) := by unfold wgStep; rw [hn, if_pos ⟨hn0, by omega⟩]
   rw [hst]
   have hmd : decide ((q : Int) < (M : Int)) = true := decide_eq_true (by omega)
   go_enter Tryz.func61, Tryz.ntmps61
   go_wp2_with fail
   go_quiet (fail)
   go_wp2_with fail
   obtain ⟨wn, hwn⟩ : ∃ y, y = w.drewN nq := ⟨_, rfl⟩
   rw [← hwn]
   have hbn : Below w.heap.size w wn := by rw [hwn]; exact below_drewN (Below.refl _ _) _
   have hIn : WgAt B TB D s cs vals vss bks wn := hI.stay hbn.size (fun b hb => hbn.block b (hI.lt b hb))
   have hOn := cell_keep hOB (hbn.block _ (lt_of_cell hOB))
   have hcnn := cell_keep hcn (hbn.block _ (lt_of_cell hcn))
   have hkn := hk.below hbn
   have hown := (hIn.each n hdl).1
   rw [hov, hq] at hown
   have hoff : (Value.slice oa q oc).ownBlock ≠ some TB := fun e => hIn.off n hdl (.inl (by rw [hov, hq]; exact e))
   have hoffO : (Value.slice oa q oc).ownBlock ≠ some OB := fun e => hne.1 (.inr ⟨n, hdl, .inl (by rw [hov, hq]; exact e)⟩)
   have hdr : Below wn.heap.size wn wn.drew := (Below.refl _ _).drew
   have hTlt := lt_of_cell hcnn
   have hOlt := lt_of_cell hOn
   simp only at hTlt hOlt
   have hcs := hIn.cell n hdl
   rw [hov, hq] at hcs
   obtain ⟨i0, hi, hz0, hz1, hz2⟩ := info_parts inf_ints
   have hlk : key.length ≤ 1048576 := by omega
   have HI := Lib.hid (And.intro hIn (And.intro hbn (And.intro hcs (And.intro hov (And.intro hq (And.intro hwn hst)))))); clear hIn hbn hcs hov hq hwn hst hI hcn hOB hM
   have hT := HI.out.1.tab
   have HT := Lib.hid hT; clear hT
   go_region_law (first | (go_simp; go_at_call 62; refine (slClone_any _ key _ (hkn.below hdr) hlk).mono ?_; rintro e' w3 ⟨v3, rfl, ⟨b3, hx3, hb3n⟩, hbc⟩; obtain ⟨a3, c3, rfl, hcc3, _⟩ := id hx3; have hb3 : Below wn.heap.size wn w3 := hdr.trans (hbc.mono (Nat.le_refl _)); have hown3 := own_keep hown hb3; have hT3 := (hb3.block TB hTlt).trans HT.out; have hz3 := lt_of_heap hT3; have hc3 := cell_keep hcnn (hb3.block TB hTlt); have hO3 := cell_keep hOn (hb3.block OB hOlt); have hz3O : OB < w3.heap.size := Nat.lt_of_lt_of_le hOlt hb3.size; have hc3a : ∀ o, (w3.alloc o).cell? ⟨TB, n, none⟩ = some (.slice oa q oc) := (fun o => cell_keep hc3 (Below.heap_alloc _ _ _ hz3)); have hO3a : ∀ o, (w3.alloc o).cell? ⟨OB, 0, none⟩ = some (.slice (some ⟨TB, 0, none⟩) (D + 1) (D + 1)) := (fun o => cell_keep hO3 (Below.heap_alloc _ _ _ hz3O)); (try dsimp only)) | (refine step_append_lies _ (by rfl) _ _ _ (by rfl) B 44 i0 _ 1 24 Tryz.underlying24 hi hz0 hz1 hz2 rfl (by omega) _ q _ (by rfl) (hown3.alloc _) ⟨_, 0, none⟩ 1 1 [.slice a3 key.length c3] (by rfl) (by rfl) (World.news_of_block (heap_alloc_new _ _)) (by simp [Value.oneCell']) (by omega) (by unfold maxLen; omega) (by omega) (by have := hb3.size; have := HI.out.1.base; simp; omega) _ rfl ?_; intro gg cap w4 hown4 hgrow4 hat4 hlt4; have hT4 : w4.heap[TB]? = some (.cells cs 24 (0, 0)) := (hgrow4.block TB (by simp; omega) (fun e => hoff e.symm)).trans ((Below.heap_alloc _ _ _ hz3).trans hT3); have hcl4 : w4.cell? ⟨TB, n, none⟩ = some (.slice oa q oc) := (by rw [cell_of_block hT4]; exact HI.out.2.2.1); have hfl4 := frozen_of_block hT4 n; have hO4 := cell_keep (hO3a (.cells #[.slice a3 key.length c3] 44)) (hgrow4.block OB (by simp; omega) (fun e => hoffO e.symm))))
   all_goals
    have hb3a : Below wn.heap.size wn (w3.alloc (.cells #[.slice a3 key.length c3] 44)) := hb3.alloc hb3.size _
    have hp := WgAt.put (n := n) (b3 := b3) (v' := .slice (some ⟨gg, 0, none⟩) (q + 1) cap) HI.out.1 hdl hb3a (hx3.alloc _) hb3n (by rw [HI.out.2.2.2.2.1]; exact hown4) (by rw [HI.out.2.2.2.1, HI.out.2.2.2.2.1]; exact hgrow4) (by rw [HI.out.2.2.2.1, HI.out.2.2.2.2.1]; exact blk_or rfl hat4)
    have HP := Lib.hid hp; clear hp
    clear hT3 hc3 hO3 hc3a hO3a hown3 hown4
    go_wp2_with fail
    go_ret
    exact ⟨rfl, _, _, _, _, HP.out.1, (Chg.of_below HI.out.2.1).trans HP.out.2.1 (fun i hi => .inl hi), fun b hb => (HP.out.2.2 b hb).imp id fun h => Nat.le_trans HI.out.2.1.size h⟩
  ·have hst : (wgStep M s key ds).1 = s := by unfold wgStep; rw [hn, if_neg (fun hh => hm (by have := hh.2; omega))]
   have hmd : decide ((q : Int) < (M : Int)) = false := decide_eq_false (by omega)
   have Hst := Lib.hid hst; clear hst
   have HI := Lib.hid hI; clear hI
   go_enter Tryz.func61, Tryz.ntmps61
   go_wp2_with fail
   go_quiet (fail)
   go_wp2_with fail
   go_ret
   exact ⟨rfl, cs, vals, vss, bks, by rw [Hst.out]; exact HI.out.stay (below_drewN (Below.refl w.heap.size w) _).size (fun b hb => (below_drewN (Below.refl w.heap.size w) _).block b (HI.out.lt b hb)), Chg.of_below (below_drewN (Below.refl _ _) _), fun b hb => .inl (by rw [Hst.out] at hb; exact hb)⟩
 ·have hst : (wgStep M s key ds).1 = s := by unfold wgStep; rw [hn, if_neg (fun hh => hn0 hh.1)]
  have hn1 : decide ((0 : Int) < (n : Int)) = false := decide_eq_false (by omega)
  have Hst := Lib.hid hst; clear hst
  have HI := Lib.hid hI; clear hI
  go_enter Tryz.func61, Tryz.ntmps61
  go_wp2_with fail
  go_quiet (fail)
  go_wp2_with fail
  go_ret
  exact ⟨rfl, cs, vals, vss, bks, by rw [Hst.out]; exact HI.out.stay (below_drewN (Below.refl w.heap.size w) _).size (fun b hb => (below_drewN (Below.refl w.heap.size w) _).block b (HI.out.lt b hb)), Chg.of_below (below_drewN (Below.refl _ _) _), fun b hb => .inl (by rw [Hst.out] at hb; exact hb)⟩
def WgInv (B TB D : Nat) (s : Nat → List (List Int)) (F : Nat → Prop) (w : World) : Prop :=
 ∃ cs vals vss bks, (∀ b, F b ↔ FamF TB D vals s bks b) ∧ WgAt B TB D s cs vals vss bks w
theorem wg_ok (m : Mk) (hm : m.ok = true) (cuts : List (List Int)) (locks : List (List (List Int))) (B OB MB TB D M : Nat) (W : World) (F0 : Nat → Prop) (hO : W.cell? ⟨OB, 0, none⟩ = some (.slice (some ⟨TB, 0, none⟩) (D + 1) (D + 1))) (hM : W.cell? ⟨MB, 0, none⟩ = some (.int .i64 (M : Int)))
  (hne : ¬ F0 OB ∧ ¬ F0 MB) (hD : D ≤ 12) (hM3 : M ≤ 300) (hll : locks.length ≤ D) :
  VisD m.c.toNat W F0 61 #[.pointer (some ⟨OB, 0, none⟩), .pointer (some ⟨MB, 0, none⟩)] (wgStep M) (fun _ => []) (keysOf m) cuts locks (WgInv B TB D) := by
 refine ⟨enters_wg, ?_, ?_, ?_⟩
 ·rintro s F w w' ⟨cs, vals, vss, bks, h1, h2⟩ hz hk
  exact ⟨cs, vals, vss, bks, h1, h2.stay hz fun b hb => hk b ((h1 b).2 hb)⟩
 ·rintro s F w ⟨cs, vals, vss, bks, h1, h2⟩ b hb
  exact h2.lt b ((h1 b).1 hb)
 ·rintro s F S S2 w v dv key done rest hL hr ⟨cs, vals, vss, bks, h1, h2⟩ hchg hsub hV hS hD' hS2 hkl
  have hsl : ∀ k, k ≤ D → (s k).length ≤ 300 := fun k _ => by
   have hrun := wg_run M cuts locks k done (fun _ => []) (Nat.zero_le _)
   rw [hr] at hrun
   rw [show s k = _ from hrun]
   split
   ·simp
   ·simp only [List.nil_append, List.length_take]; omega
  have hnO : ¬ F OB := fun h => by rcases hsub _ h with h | h; exact hne.1 h; have h9 : OB < W.heap.size := lt_of_cell hO; omega
  have hnM : ¬ F MB := fun h => by rcases hsub _ h with h | h; exact hne.2 h; have h9 : MB < W.heap.size := lt_of_cell hM; omega
  have hmk := Mk.ok_iff.1 hm
  have hdl : (doorsOf locks key).length ≤ D := Nat.le_trans (ndoors_le locks key) hll
  refine (wg1_any v dv key (doorsOf locks key) s B OB MB TB D M cs vals vss bks w hV hD' (cell_keep hO (hchg.block _ (lt_of_cell hO) hne.1)) (cell_keep hM (hchg.block _ (lt_of_cell hM) hne.2)) h2 ⟨fun e => hnO ((h1 _).2 e), fun e => hnM ((h1 _).2 e)⟩ hdl hD hM3 (by omega) hsl).mono ?_
  rintro e w' ⟨rfl, cs', vals', vss', bks', h6, h7, h8⟩
  have hst : (wgStep M s key (doorsOf locks key)).2 = true := by unfold wgStep; split <;> rfl
  refine ⟨FamF TB D vals' (wgStep M s key (doorsOf locks key)).1 bks', by rw [hst], ⟨cs', vals', vss', bks', fun b => Iff.rfl, h6⟩, h7.mono (fun b hb => (h1 b).2 hb), fun b hb => ?_⟩
  rcases h8 b hb with h | h
  ·exact .inl ((h1 b).2 h)
  ·exact .inr h
theorem outG_nil {bk : Nat → Nat} {b : Nat} : ¬ OutG (.slice none 0 0) [] bk b := by
 rintro (h | ⟨k, h, _⟩)
 ·cases h
 ·simp at h
theorem WgAt.start {B TB D : Nat} {w : World} {cs : Array Value} (h : w.heap[TB]? = some (.cells cs 24 (0, 0))) (hc : cs.toList = (madeCells (Value.slice none 0 0).cells ((D + 1) * 1)).toList) (hB : B ≤ w.heap.size) :
  WgAt B TB D (fun _ => []) cs (fun _ => .slice none 0 0) (fun _ => []) (fun _ _ => 0) w := by
 rw [Nat.mul_one, show (Value.slice none 0 0).cells = #[Value.slice none 0 0] from rfl, toList_madeCells_one] at hc
 refine ⟨h, fun k hk => ?_, fun k _ => ⟨⟨rfl, .inl ⟨rfl, rfl⟩⟩, fun k hk => by simp at hk, fun k hk => by simp at hk⟩, fun j k _ _ _ b hb => absurd hb outG_nil, fun k _ => outG_nil, hB⟩
 rw [← Array.getElem?_toList, hc, List.getElem?_replicate, if_pos (by omega)]
end Go.Proofs.YtmjplkbmhdkggaaGreat
