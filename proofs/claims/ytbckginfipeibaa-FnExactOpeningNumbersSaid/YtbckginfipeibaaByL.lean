/- How many keys open some door, by the counts of doors. No conditions. -/
import Derived.Test.YtbckginfipeibaaOpenN
import Derived.Test.YtbckginfipeibaaOpenR
namespace Go.Proofs.Ytbckginfipeibaa
open Go.RowKit
set_option linter.unusedVariables false
set_option linter.unusedSimpArgs false

set_option maxRecDepth 100000 in
theorem OpeningNumbersR_any {S S' : Nat → Prop} (m : Mk) (u v : Value) (t cuts : List (List Int)) (W : World) (h : V2 S W u t) (hc : V2 S' W v cuts) :
    Calls Try.prog 15 #[.agg #[.int .i64 m.c, .int .i64 m.d, .int .i64 m.s, .int .i64 m.e, .int .i64 m.l, u], v] W fun e' w' => ∃ v', e' = .returned (.tuple #[v', .int .i64 (opnAns m t cuts).2]) ∧ V1 (fun b => b < w'.heap.size) w' v' (opnAns m t cuts).1 ∧ Below W.heap.size W w' := by
  obtain ⟨a, c, rfl, hmx⟩ := h.form
  obtain ⟨a', c', rfl, hmx'⟩ := hc.form
  obtain ⟨W1, hW1, hB01, hz01, HZ01, hc01, hh01⟩ := box_facts W #[.int .i64 m.c, .int .i64 m.d, .int .i64 m.s, .int .i64 m.e, .int .i64 m.l, .slice a t.length c] 34
  have hV1 := (h.below hB01).any
  have hC1 := (hc.below hB01).any
  have hcode := l21Code_any m _ _ t cuts W1 hV1 hC1
  by_cases hp : designC m t cuts = 0
  · rw [hp] at hcode
    have hf := (design_fits hp).1
    have hmc := mc_nat hf.ok
    have hdoors := hf.doors
    have hkl := keysOf_length hf.ok
    have hol := outsOf_length cuts (keysOf m)
    obtain ⟨locks, hlocks⟩ : ∃ x, x = locksTo m.c.toNat t cuts (getl t 0).length := ⟨_, rfl⟩
    obtain ⟨D, hD⟩ : ∃ D, (getl t 0).length = D := ⟨_, rfl⟩
    have hll : locks.length = D := by rw [hlocks, locksTo_len, hD]
    have hfin : opnAns m t cuts = (cntL locks (keysOf m) 0 (D + 1), 0) := by unfold opnAns; rw [if_neg (by rw [hp]; decide), ← hlocks, hD]
    have hpr := l21Numbers_any (S := fun _ => True) (S' := fun _ => True) m (.slice a t.length c) (.slice a' cuts.length c') t cuts m.c.toNat
    rw [← hlocks, hD] at hpr
    rw [hfin]
    rw [hD] at hdoors
    have Hf := Lib.hid (And.intro hf (And.intro hmc hpr)); clear hf hmc hpr hol hkl
    have Hp := Lib.hid (And.intro hp (And.intro hfin (And.intro hlocks (And.intro hD hll)))); clear hp hfin hlocks hD hll
    have Hcode := Lib.hid hcode; clear hcode
    go_enter Try.func15, Try.ntmps15
    go_wp2_with fail
    rw [← hW1]
    refine Hcode.out.mono ?_
    rintro e' w2 ⟨rfl, hb2⟩
    have hx2 : ∀ o, w2.cell? ⟨W.heap.size, o, none⟩ = (#[.int .i64 m.c, .int .i64 m.d, .int .i64 m.s, .int .i64 m.e, .int .i64 m.l, .slice a t.length c] : Array Value)[o]? := fun o => by rw [(bcell hb2).1 _ _ hz01, hc01]
    have hz2 : W.heap.size < w2.heap.size := by have := hb2.size; omega
    clear hc01 hh01
    go_wp2_with fail
    refine (Hf.out.2.2 _ Hf.out.1 Hf.out.2.1 (hV1.below hb2) (hC1.below hb2)).mono ?_
    rintro e' w3 ⟨G, rfl, hG, hblk, hb3⟩
    have Hblk := Lib.hid hblk; clear hblk hx2
    go_wp2_with fail
    go_ret2
    have hX := Hblk.out.x1 (off := 0) (Nat.zero_le _) (by rw [cntL_len]; omega)
    rw [List.drop_zero, Nat.sub_zero, cntL_len] at hX
    exact ⟨_, rfl, (hX.v1 (S := fun _ => True) (fun _ => trivial)).old, hB01.trans ((hb2.trans (hb3.mono hb2.size)).mono (by omega))⟩
  · have hfin : opnAns m t cuts = ([], designC m t cuts) := by unfold opnAns; rw [if_pos hp]; (try rfl)
    have e1 : (designC m t cuts != 0) = true := by simp [hp]
    rw [hfin]
    have Hp := Lib.hid (And.intro hp hfin); clear hp hfin
    generalize designC m t cuts = pc at *
    go_enter Try.func15, Try.ntmps15
    go_wp2_with fail
    rw [← hW1]
    refine hcode.mono ?_
    rintro e' w2 ⟨rfl, hb2⟩
    clear hc01 hh01
    go_wp2_with fail
    go_ret2
    exact ⟨_, rfl, (F1.nil1 (B := 0)).v1.old, hB01.trans (hb2.mono (by omega))⟩

/-- How many keys open some door. -/
def byLAns (m : Mk) (t cuts : List (List Int)) : Int × Int := if designC m t cuts ≠ 0 then (0, designC m t cuts) else ((cntL (locksTo m.c.toNat t cuts (getl t 0).length) (keysOf m) 1 (getl t 0).length).sum, 0)
theorem X1.tail {w : World} {b : Nat} {a : Option Addr} {n c : Nat} {l : List Int} (h : X1 w (.slice a n c) l b) (hn : l ≠ []) : ∃ off, a = some ⟨b, off, none⟩ ∧ X1 w (.slice (some ⟨b, off + 1, none⟩) (l.length - 1) (c - 1)) (l.drop 1) b := by
  obtain ⟨a', c', e, h1, h2, h3⟩ := h
  simp only [Value.slice.injEq] at e
  obtain ⟨rfl, rfl, rfl⟩ := e
  obtain ⟨off, cs, T, rfl, h4, h5⟩ := h3 hn
  have hl : 0 < l.length := List.length_pos_iff.2 hn
  refine ⟨off, rfl, _, c - 1, by rw [List.length_drop], by rw [List.length_drop]; omega, by omega, fun _ => ⟨off + 1, cs, T, rfl, h4, fun k hk => ?_⟩⟩
  rw [List.length_drop] at hk
  have e : geti (l.drop 1) k = geti l (1 + k) := by simp [geti, Nat.add_comm]
  rw [e, Nat.add_assoc]
  exact h5 (1 + k) (by omega)
set_option maxRecDepth 100000 in
theorem CountByLocksR_any {S S' : Nat → Prop} (m : Mk) (u v : Value) (t cuts : List (List Int)) (W : World) (h : V2 S W u t) (hc : V2 S' W v cuts) :
    Calls Try.prog 26 #[.agg #[.int .i64 m.c, .int .i64 m.d, .int .i64 m.s, .int .i64 m.e, .int .i64 m.l, u], v] W fun e' w' => e' = .returned (.tuple #[.int .i64 (byLAns m t cuts).1, .int .i64 (byLAns m t cuts).2]) ∧ Below W.heap.size W w' := by
  obtain ⟨a, c, rfl, hmx⟩ := h.form
  obtain ⟨a', c', rfl, hmx'⟩ := hc.form
  obtain ⟨W1, hW1, hB01, hz01, HZ01, hc01, hh01⟩ := box_facts W #[.int .i64 m.c, .int .i64 m.d, .int .i64 m.s, .int .i64 m.e, .int .i64 m.l, .slice a t.length c] 34
  have hV1 := (h.below hB01).any
  have hC1 := (hc.below hB01).any
  have hcode := l21Code_any m _ _ t cuts W1 hV1 hC1
  by_cases hp : designC m t cuts = 0
  · rw [hp] at hcode
    have hf := (design_fits hp).1
    have hmc := mc_nat hf.ok
    have hdoors := hf.doors
    have hkl := keysOf_length hf.ok
    have hol := outsOf_length cuts (keysOf m)
    obtain ⟨locks, hlocks⟩ : ∃ x, x = locksTo m.c.toNat t cuts (getl t 0).length := ⟨_, rfl⟩
    obtain ⟨D, hD⟩ : ∃ D, (getl t 0).length = D := ⟨_, rfl⟩
    have hll : locks.length = D := by rw [hlocks, locksTo_len, hD]
    have hfin : byLAns m t cuts = ((cntL locks (keysOf m) 1 D).sum, 0) := by unfold byLAns; rw [if_neg (by rw [hp]; decide), ← hlocks, hD]
    have hpr := l21Numbers_any (S := fun _ => True) (S' := fun _ => True) m (.slice a t.length c) (.slice a' cuts.length c') t cuts m.c.toNat
    rw [← hlocks, hD] at hpr
    rw [hfin]
    rw [hD] at hdoors
    obtain ⟨r, hr⟩ : ∃ r, (cntL locks (keysOf m) 1 D).sum = r := ⟨_, rfl⟩
    have hfew := cntL_few (locks := locks) (ks := keysOf m) (lo := 1) (n := D) (by omega) (by omega)
    rw [hr]
    have Hf := Lib.hid (And.intro hf (And.intro hmc (And.intro hpr hfew))); clear hf hmc hpr hol hkl hfew
    have Hp := Lib.hid (And.intro hp (And.intro hfin (And.intro hlocks (And.intro hD (And.intro hll hr))))); clear hp hfin hlocks hD hll hr
    have Hcode := Lib.hid hcode; clear hcode
    go_enter Try.func26, Try.ntmps26
    go_wp2_with fail
    rw [← hW1]
    refine Hcode.out.mono ?_
    rintro e' w2 ⟨rfl, hb2⟩
    have hx2 : ∀ o, w2.cell? ⟨W.heap.size, o, none⟩ = (#[.int .i64 m.c, .int .i64 m.d, .int .i64 m.s, .int .i64 m.e, .int .i64 m.l, .slice a t.length c] : Array Value)[o]? := fun o => by rw [(bcell hb2).1 _ _ hz01, hc01]
    have hz2 : W.heap.size < w2.heap.size := by have := hb2.size; omega
    clear hc01 hh01
    go_wp2_with fail
    refine (Hf.out.2.2.1 _ Hf.out.1 Hf.out.2.1 (hV1.below hb2) (hC1.below hb2)).mono ?_
    rintro e' w3 ⟨G, rfl, hG, hblk, hb3⟩
    have hx := hblk.x1 (off := 1) (by rw [cntL_len]; omega) (by rw [cntL_len]; omega)
    rw [cntL_drop, cntL_len] at hx
    have Hx := Lib.hid (hx.v1 (S := fun _ => True) (fun _ => trivial)); clear hx hblk hx2
    have h1D : (1 : Int) ≤ ((D : Int) + 1) := by omega
    go_wp2_with fail
    refine (l01Sum_any _ (cntL locks (keysOf m) 1 D) _ r Hp.out.2.2.2.2.2 Hx.out Hf.out.2.2.2).mono ?_
    rintro e' w4 ⟨rfl, rfl⟩
    go_wp2_with fail
    go_ret2
    exact ⟨rfl, hB01.trans ((hb2.trans (hb3.mono hb2.size)).mono (by omega))⟩
  · have hfin : byLAns m t cuts = (0, designC m t cuts) := by unfold byLAns; rw [if_pos hp]; (try rfl)
    have e1 : (designC m t cuts != 0) = true := by simp [hp]
    rw [hfin]
    have Hp := Lib.hid (And.intro hp hfin); clear hp hfin
    generalize designC m t cuts = pc at *
    go_enter Try.func26, Try.ntmps26
    go_wp2_with fail
    rw [← hW1]
    refine hcode.mono ?_
    rintro e' w2 ⟨rfl, hb2⟩
    clear hc01 hh01
    go_wp2_with fail
    go_ret2
    exact ⟨rfl, hB01.trans (hb2.mono (by omega))⟩
set_option maxRecDepth 100000 in
theorem CountByLocks_any {S S' : Nat → Prop} (m : Mk) (u v : Value) (t cuts : List (List Int)) (W : World) (h : V2 S W u t) (hc : V2 S' W v cuts) :
    Calls Try.prog 27 #[.agg #[.int .i64 m.c, .int .i64 m.d, .int .i64 m.s, .int .i64 m.e, .int .i64 m.l, u], v] W fun e' w' => e' = .returned (.tuple #[.int .i64 (byLAns m t cuts).1, .int .i64 (byLAns m t cuts).2]) ∧ Below W.heap.size W w' := by
  obtain ⟨a, c, rfl, hmx⟩ := h.form
  obtain ⟨a', c', rfl, hmx'⟩ := hc.form
  obtain ⟨W1, hW1, hB01, hz01, HZ01, hc01, hh01⟩ := box_facts W #[.int .i64 m.c, .int .i64 m.d, .int .i64 m.s, .int .i64 m.e, .int .i64 m.l, .slice a t.length c] 34
  have hall := OpeningNumbers_any m _ _ t cuts W1 (h.below hB01) (hc.below hB01)
  by_cases hp : designC m t cuts = 0
  · have hf := (design_fits hp).1
    have hdoors := hf.doors
    have hkl := keysOf_length hf.ok
    obtain ⟨locks, hlocks⟩ : ∃ x, x = locksTo m.c.toNat t cuts (getl t 0).length := ⟨_, rfl⟩
    obtain ⟨D, hD⟩ : ∃ D, (getl t 0).length = D := ⟨_, rfl⟩
    have hfin : opnAns m t cuts = (cntL locks (keysOf m) 0 (D + 1), 0) := by unfold opnAns; rw [if_neg (by rw [hp]; decide), ← hlocks, hD]
    have hfin2 : byLAns m t cuts = ((cntL locks (keysOf m) 1 D).sum, 0) := by unfold byLAns; rw [if_neg (by rw [hp]; decide), ← hlocks, hD]
    rw [hfin] at hall
    rw [hfin2]
    rw [hD] at hdoors
    obtain ⟨r, hr⟩ : ∃ r, (cntL locks (keysOf m) 1 D).sum = r := ⟨_, rfl⟩
    have hfew := cntL_few (locks := locks) (ks := keysOf m) (lo := 1) (n := D) (by omega) (by omega)
    rw [hr]
    have Hf := Lib.hid (And.intro hr hfew); clear hf hkl hfew hr hfin hfin2 hlocks hD hp
    go_enter Try.func27, Try.ntmps27
    go_wp2_with fail
    rw [← hW1]
    refine hall.mono ?_
    rintro e' w2 ⟨v', rfl, ⟨G, hX, hG⟩, hb2⟩
    obtain ⟨av, cv, rfl, hcv, hmv, _⟩ := id hX
    obtain ⟨off, rfl, hXt⟩ := hX.tail (by intro e; have := cntL_len locks (keysOf m) 0 (D + 1); rw [e] at this; simp at this)
    rw [cntL_drop, cntL_len] at hXt
    rw [cntL_len] at hcv ⊢
    have Hx := Lib.hid (hXt.v1 (S := fun _ => True) (fun _ => trivial)); clear hXt hX
    have h1D : (1 : Int) ≤ ((D : Int) + 1) := by omega
    have hcv2 : ((D : Int) + 1) ≤ (cv : Int) := by omega
    unfold maxLen at hmv
    clear hc01 hh01
    go_wp2_with fail
    refine (sum_any _ (cntL locks (keysOf m) 1 D) _ r Hf.out.1 Hx.out Hf.out.2).mono ?_
    rintro e' w4 ⟨rfl, rfl⟩
    go_wp2_with fail
    go_ret2
    exact ⟨rfl, hB01.trans (hb2.mono (by omega))⟩
  · have hfin : opnAns m t cuts = ([], designC m t cuts) := by unfold opnAns; rw [if_pos hp]
    have hfin2 : byLAns m t cuts = (0, designC m t cuts) := by unfold byLAns; rw [if_pos hp]
    have e1 : (designC m t cuts != 0) = true := by simp [hp]
    rw [hfin] at hall
    rw [hfin2]
    have Hp := Lib.hid (And.intro hp (And.intro hfin hfin2)); clear hp hfin hfin2
    generalize designC m t cuts = pc at *
    go_enter Try.func27, Try.ntmps27
    go_wp2_with fail
    rw [← hW1]
    refine hall.mono ?_
    rintro e' w2 ⟨v', rfl, hF, hb2⟩
    have HF := Lib.hid hF; clear hF
    clear hc01 hh01
    go_wp2_with fail
    go_ret2
    exact ⟨rfl, hB01.trans (hb2.mono (by omega))⟩
end Go.Proofs.Ytbckginfipeibaa
