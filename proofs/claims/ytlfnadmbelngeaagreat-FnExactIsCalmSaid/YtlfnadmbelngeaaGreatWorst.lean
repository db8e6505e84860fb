/- The profile of a system, and its worst severity. No conditions. -/
import Derived.Test.YtlfnadmbelngeaaGreatSum
import Derived.Test.YtlfnadmbelngeaaGreatProfR
namespace Go.Proofs.YtlfnadmbelngeaaGreat
open Go.RowKit
set_option linter.unusedVariables false
set_option linter.unusedSimpArgs false

/-- The last place of a count above 0 among the first k, counted from 1; 0 if there is none. -/
def worst (l : List Int) : Nat → Int
  | 0 => 0
  | k + 1 => if 0 < geti l k then (k : Int) + 1 else worst l k
theorem worst_bd (l : List Int) (k : Nat) : 0 ≤ worst l k ∧ worst l k ≤ k := by
  induction k with
  | zero => exact ⟨Int.le_refl _, Int.le_refl _⟩
  | succ k ih => unfold worst; split <;> omega
/-- The profile of a system. -/
def profAns (m : Mk) (t cuts : List (List Int)) : List Int × Int :=
  if designC m t cuts ≠ 0 then ([], designC m t cuts) else (cntL (locksTo m.c.toNat t cuts (getl t 0).length) (outsOf cuts (keysOf m)) 1 (getl t 0).length, 0)
theorem profAns_few (m : Mk) (t cuts : List (List Int)) : Few (profAns m t cuts).1 := by
  unfold profAns
  split
  · exact ⟨by simp, fun x hx => by simp at hx⟩
  · rename_i hp
    have hf := (design_fits (Classical.not_not.1 hp)).1
    have hkl := keysOf_length hf.ok
    have hdoors := hf.doors
    have := outsOf_length cuts (keysOf m)
    exact cntL_few (by omega) (by omega)
theorem profAns_len (m : Mk) (t cuts : List (List Int)) : (profAns m t cuts).1.length ≤ 1048576 := Nat.le_trans (profAns_few m t cuts).1 (by omega)
def worstAns (m : Mk) (t cuts : List (List Int)) : Int × Int := (worst (profAns m t cuts).1 (profAns m t cuts).1.length, (profAns m t cuts).2)
theorem F1.nil0 {B : Nat} {w : World} : F1 B w (.slice none 0 0) [] := ⟨0, ⟨none, 0, rfl, Nat.le_refl _, Nat.zero_le _, fun hn => absurd rfl hn⟩, fun hn => absurd rfl hn⟩
theorem ProfileOf_any {S S' : Nat → Prop} (m : Mk) (u v : Value) (t cuts : List (List Int)) (W : World) (h : V2 S W u t) (hc : V2 S' W v cuts) :
    Calls Tryz.prog 13 #[.agg #[.int .i64 m.c, .int .i64 m.d, .int .i64 m.s, .int .i64 m.e, .int .i64 m.l, u], v] W fun e' w' => ∃ v', e' = .returned (.tuple #[v', .int .i64 (profAns m t cuts).2]) ∧ F1 W.heap.size w' v' (profAns m t cuts).1 ∧ Below W.heap.size W w' := by
  obtain ⟨a, c, rfl, hmx⟩ := h.form
  obtain ⟨a', c', rfl, hmx'⟩ := hc.form
  obtain ⟨W1, hW1, hB01, hz01, HZ01, hc01, hh01⟩ := box_facts W #[.int .i64 m.c, .int .i64 m.d, .int .i64 m.s, .int .i64 m.e, .int .i64 m.l, .slice a t.length c] 34
  have hV1 := (h.below hB01).any
  have hC1 := (hc.below hB01).any
  have hcode := designCode_any m _ _ t cuts W1 hV1 hC1
  by_cases hp : designC m t cuts = 0
  · rw [hp] at hcode
    have hf := (design_fits hp).1
    have hmc := mc_nat hf.ok
    have hdoors := hf.doors
    have hkl := keysOf_length hf.ok
    have hol := outsOf_length cuts (keysOf m)
    obtain ⟨locks, hlocks⟩ : ∃ x, x = locksTo m.c.toNat t cuts (getl t 0).length := ⟨_, rfl⟩
    obtain ⟨D, hD⟩ : ∃ D, (getl t 0).length = D := ⟨_, rfl⟩
    have hll : locks.length = D := by rw [hlocks, locksTo_len, hD]
    have hfin : profAns m t cuts = (cntL locks (outsOf cuts (keysOf m)) 1 D, 0) := by unfold profAns; rw [if_neg (by rw [hp]; decide), ← hlocks, hD]
    have hpr := profileOf_any (S := fun _ => True) (S' := fun _ => True) m (.slice a t.length c) (.slice a' cuts.length c') t cuts m.c.toNat
    rw [← hlocks, hD] at hpr
    rw [hfin]
    rw [hD] at hdoors
    have Hf := Lib.hid (And.intro hf (And.intro hmc hpr)); clear hf hmc hpr hol hkl
    have Hp := Lib.hid (And.intro hp (And.intro hfin (And.intro hlocks (And.intro hD hll)))); clear hp hfin hlocks hD hll
    have Hcode := Lib.hid hcode; clear hcode
    go_enter Tryz.func13, Tryz.ntmps13
    go_wp2_with fail
    rw [← hW1]
    refine Hcode.out.mono ?_
    rintro e' w2 ⟨rfl, hb2⟩
    have hx2 : ∀ o, w2.cell? ⟨W.heap.size, o, none⟩ = (#[.int .i64 m.c, .int .i64 m.d, .int .i64 m.s, .int .i64 m.e, .int .i64 m.l, .slice a t.length c] : Array Value)[o]? := fun o => by rw [(bcell hb2).1 _ _ hz01, hc01]
    have hz2 : W.heap.size < w2.heap.size := by have := hb2.size; omega
    clear hc01 hh01
    go_wp2_with fail
    refine (Hf.out.2.2 _ Hf.out.1 Hf.out.2.1 (hV1.below hb2) (hC1.below hb2)).mono ?_
    rintro e' w3 ⟨G, rfl, hG, hblk, hb3⟩
    have hx := hblk.x1 (off := 1) (by rw [cntL_len]; omega) (by rw [cntL_len]; omega)
    rw [cntL_drop, cntL_len] at hx
    have Hx := Lib.hid hx; clear hx hblk hx2
    have h1D : (1 : Int) ≤ ((D : Int) + 1) := by omega
    go_wp2_with fail
    go_ret2
    exact ⟨_, rfl, ⟨G, Hx.out, fun _ => by have := hb2.size; omega⟩, hB01.trans ((hb2.trans (hb3.mono hb2.size)).mono (by omega))⟩
  · have hfin : profAns m t cuts = ([], designC m t cuts) := by unfold profAns; rw [if_pos hp]; (try rfl)
    have e1 : (designC m t cuts != 0) = true := by simp [hp]
    rw [hfin]
    have Hp := Lib.hid (And.intro hp hfin); clear hp hfin
    generalize designC m t cuts = pc at *
    go_enter Tryz.func13, Tryz.ntmps13
    go_wp2_with fail
    rw [← hW1]
    refine hcode.mono ?_
    rintro e' w2 ⟨rfl, hb2⟩
    clear hc01 hh01
    go_wp2_with fail
    go_ret2
    exact ⟨_, rfl, F1.nil0, hB01.trans (hb2.mono (by omega))⟩
theorem WorstSeverity_any {S S' : Nat → Prop} (m : Mk) (u v : Value) (t cuts : List (List Int)) (W : World) (h : V2 S W u t) (hc : V2 S' W v cuts) :
    Calls Tryz.prog 42 #[.agg #[.int .i64 m.c, .int .i64 m.d, .int .i64 m.s, .int .i64 m.e, .int .i64 m.l, u], v] W fun e' w' => e' = .returned (.tuple #[.int .i64 (worstAns m t cuts).1, .int .i64 (worstAns m t cuts).2]) ∧ Below W.heap.size W w' := by
  obtain ⟨a, c, rfl, hmx⟩ := h.form
  obtain ⟨a', c', rfl, hmx'⟩ := hc.form
  obtain ⟨W1, hW1, hB01, hz01, HZ01, hc01, hh01⟩ := box_facts W #[.int .i64 m.c, .int .i64 m.d, .int .i64 m.s, .int .i64 m.e, .int .i64 m.l, .slice a t.length c] 34
  have hV1 := (h.below hB01).any
  have hC1 := (hc.below hB01).any
  have hpr := ProfileOf_any m _ _ t cuts W1 hV1 hC1
  have hfew := profAns_few m t cuts
  unfold worstAns
  obtain ⟨l, hl⟩ : ∃ x, (profAns m t cuts).1 = x := ⟨_, rfl⟩
  obtain ⟨z, hz⟩ : ∃ x, (profAns m t cuts).2 = x := ⟨_, rfl⟩
  rw [hl] at hpr hfew ⊢
  rw [hz] at hpr ⊢
  obtain ⟨r, hr⟩ : ∃ x, worst l l.length = x := ⟨_, rfl⟩
  rw [hr]
  have hlen := hfew.1
  have Hpr := Lib.hid (And.intro hpr (And.intro hl (And.intro hz hr))); clear hpr hl hz hr hfew
  go_enter Tryz.func42, Tryz.ntmps42
  go_wp2_with fail
  rw [← hW1]
  refine Hpr.out.1.mono ?_
  rintro e' w2 ⟨v', rfl, hF, hb2⟩
  have hV := hF.v1
  obtain ⟨la, lc, rfl, hlm⟩ := hV.form
  clear hc01 hh01 hF
  go_wp2_with fail
  go_loop [8, 9, 10, 19] (fun s _ _ i => ∃ k : Nat, k ≤ l.length ∧ i = .int .i64 (k : Int) ∧ s = .int .i64 (worst l k)) (fun _ _ _ i => l.length - (intOf i).toNat)
  case atStart => exact ⟨0, Nat.zero_le _, rfl, rfl⟩
  case round =>
    obtain ⟨k, hk, rfl, rfl⟩ := hrel
    have hst : worst l (k + 1) = if 0 < geti l k then (k : Int) + 1 else worst l k := rfl
    obtain ⟨q, hq⟩ : ∃ q, worst l k = q := ⟨_, rfl⟩
    rw [hq] at hst ⊢
    by_cases hkk : k < l.length
    · obtain ⟨b2, off2, rfl, _, hc2⟩ := hV.cell hkk
      obtain ⟨x, hx⟩ : ∃ x, geti l k = x := ⟨_, rfl⟩
      rw [hx] at hst hc2
      have Hq := Lib.hid (And.intro hq hx); clear hq hx
      by_cases hx0 : 0 < x
      · rw [if_pos hx0] at hst
        have Hst := Lib.hid hst; clear hst
        go_wp2_with fail
        go_round
        case rel => exact ⟨k + 1, by omega, by go_num, by rw [Hst.out]⟩
        case measure => simp [intOf]; omega
      · rw [if_neg hx0] at hst
        have Hst := Lib.hid hst; clear hst
        go_wp2_with fail
        go_round
        case rel => exact ⟨k + 1, by omega, by go_num, by rw [Hst.out]⟩
        case measure => simp [intOf]; omega
    · obtain rfl : k = l.length := by omega
      have Hst := Lib.hid hst; clear hst
      have Hq := Lib.hid hq; clear hq
      go_wp2_with fail
      go_ret2
      obtain rfl : q = r := Hq.out.symm.trans Hpr.out.2.2.2
      exact ⟨rfl, hB01.trans (hb2.mono (by omega))⟩
set_option maxRecDepth 100000 in
theorem l22Worst_any {S : Nat → Prop} (v : Value) (l : List Int) (W : World) (r : Int) (hr : worst l l.length = r) (h : V1 S W v l) (hlen : l.length ≤ 1000) :
    Calls Tryz.prog 41 #[v] W fun e' w' => e' = .returned (.int .i64 r) ∧ W = w' := by
  have hV := h
  obtain ⟨a, c, rfl, hm⟩ := h.form
  have Hr := Lib.hid hr; clear hr
  obtain ⟨z0, hz0⟩ : ∃ z, z = (l.length : Int) - 1 := ⟨_, rfl⟩
  go_enter Tryz.func41, Tryz.ntmps41
  go_wp2_with fail
  go_loop [3] (fun i => ∃ (k : Nat) (z : Int), k ≤ l.length ∧ z = (k : Int) - 1 ∧ i = .int .i64 z ∧ worst l k = r) (fun i => (intOf i + 1).toNat)
  case atStart => exact ⟨l.length, z0, Nat.le_refl _, hz0, by go_num, Hr.out⟩
  case round =>
    obtain ⟨k, z, hk, hz, rfl, hq⟩ := hrel
    cases k with
    | zero =>
      have hzn : z < 0 := by omega
      clear hz
      have Hq := Lib.hid hq; clear hq
      go_wp2_with fail
      go_ret
      exact ⟨ret_int Hq.out, rfl⟩
    | succ k =>
      have hst : worst l (k + 1) = if 0 < geti l k then (k : Int) + 1 else worst l k := rfl
      rw [hq] at hst
      obtain rfl : z = (k : Int) := by omega
      clear hz
      obtain ⟨b2, off2, rfl, _, hc2⟩ := hV.cell (show k < l.length by omega)
      obtain ⟨x, hx⟩ : ∃ x, geti l k = x := ⟨_, rfl⟩
      rw [hx] at hst hc2
      have Hq := Lib.hid (And.intro hq hx); clear hq hx
      obtain ⟨z2, hz2⟩ : ∃ z2, z2 = (k : Int) - 1 := ⟨_, rfl⟩
      by_cases hx0 : 0 < x
      · rw [if_pos hx0] at hst
        have Hst := Lib.hid hst; clear hst
        go_wp2_with fail
        go_ret
        exact ⟨ret_int Hst.out.symm, rfl⟩
      · rw [if_neg hx0] at hst
        have Hst := Lib.hid hst; clear hst
        go_wp2_with fail
        go_round
        case rel => exact ⟨k, z2, by omega, hz2, by go_num, Hst.out.symm⟩
        case measure => simp [intOf]
end Go.Proofs.YtlfnadmbelngeaaGreat
