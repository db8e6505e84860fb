/- Is no severity above a bound? No conditions. -/
import Derived.Test.YtlfnadmbelngeaaGreatWorst
namespace Go.Proofs.YtlfnadmbelngeaaGreat
open Go.RowKit
set_option linter.unusedVariables false
set_option linter.unusedSimpArgs false

def calmAns (m : Mk) (t cuts : List (List Int)) (s : Int) : Bool × Int :=
  if designC m t cuts ≠ 0 then (false, designC m t cuts) else if inB s 0 (getl t 0).length = false then (false, 2) else (decide ((worstAns m t cuts).1 ≤ s), 0)
theorem worst_code (m : Mk) (t cuts : List (List Int)) : (worstAns m t cuts).2 = designC m t cuts := by
  unfold worstAns profAns
  split
  · rfl
  · rename_i h; exact (Classical.not_not.1 h).symm
set_option maxRecDepth 100000 in
theorem IsCalm_any {S S' : Nat → Prop} (m : Mk) (u v : Value) (t cuts : List (List Int)) (s : Int) (W : World) (h : V2 S W u t) (hc : V2 S' W v cuts) :
    Calls Tryz.prog 24 #[.agg #[.int .i64 m.c, .int .i64 m.d, .int .i64 m.s, .int .i64 m.e, .int .i64 m.l, u], v, .int .i64 s] W fun e' w' => e' = .returned (.tuple #[.bool (calmAns m t cuts s).1, .int .i64 (calmAns m t cuts s).2]) ∧ Below W.heap.size W w' := by
  obtain ⟨a, c, rfl, hmx⟩ := h.form
  obtain ⟨a', c', rfl, hmx'⟩ := hc.form
  obtain ⟨W1, hW1, hB01, hz01, HZ01, hc01, hh01⟩ := box_facts W #[.int .i64 m.c, .int .i64 m.d, .int .i64 m.s, .int .i64 m.e, .int .i64 m.l, .slice a t.length c] 34
  have hV1 := (h.below hB01).any
  have hC1 := (hc.below hB01).any
  have hpr := WorstSeverity_any m _ _ t cuts W1 hV1 hC1
  rw [worst_code] at hpr
  by_cases hp : designC m t cuts = 0
  · have hf := (design_fits hp).1
    have hrows := hf.rows
    have hdoors := hf.doors
    obtain ⟨b0, off0, a0, c0, rfl, _, hcc0, hr0⟩ := hV1.cell (k := 0) (by omega)
    simp only [Nat.add_zero] at hcc0
    obtain ⟨D, hD⟩ : ∃ D, (getl t 0).length = D := ⟨_, rfl⟩
    obtain ⟨z, hz⟩ : ∃ x, (worstAns m t cuts).1 = x := ⟨_, rfl⟩
    rw [hp, hz] at hpr
    rw [hD] at hcc0 hdoors
    have h0t : (0 : Int) < (t.length : Int) := by omega
    obtain ⟨i, hi⟩ : ∃ i, inB s 0 D = i := ⟨_, rfl⟩
    have hfin : calmAns m t cuts s = if i = false then (false, 2) else (decide (z ≤ s), 0) := by unfold calmAns; rw [if_neg (by rw [hp]; decide), hD, hi, hz]
    rw [hfin]
    have Hpr := Lib.hid hpr; clear hpr
    have Hp := Lib.hid (And.intro hp (And.intro hf (And.intro hD (And.intro hz hfin)))); clear hp hf hD hz hfin
    have Hi := Lib.hid hi; clear hi
    have Hr0 := Lib.hid hr0; clear hr0
    cases i
    · rw [if_pos rfl]
      go_enter Tryz.func24, Tryz.ntmps24
      go_wp2_with fail
      rw [← hW1]
      refine Hpr.out.mono ?_
      rintro e' w2 ⟨rfl, hb2⟩
      have hx2 : ∀ o, w2.cell? ⟨W.heap.size, o, none⟩ = (#[.int .i64 m.c, .int .i64 m.d, .int .i64 m.s, .int .i64 m.e, .int .i64 m.l, .slice (some ⟨b0, off0, none⟩) t.length c] : Array Value)[o]? := fun o => by rw [(bcell hb2).1 _ _ hz01, hc01]
      have hz2 : W.heap.size < w2.heap.size := by have := hb2.size; omega
      have hcc2 := cell_keep hcc0 (hb2.block _ (lt_of_cell hcc0))
      clear hc01 hh01
      go_wp2_with (go_at_call 43; refine (within_b _ _ _ _ _ Hi.out).mono ?_; rintro e' w' ⟨rfl, rfl⟩)
      go_ret2
      exact ⟨rfl, hB01.trans (hb2.mono (by omega))⟩
    · rw [if_neg (by decide)]
      go_enter Tryz.func24, Tryz.ntmps24
      go_wp2_with fail
      rw [← hW1]
      refine Hpr.out.mono ?_
      rintro e' w2 ⟨rfl, hb2⟩
      have hx2 : ∀ o, w2.cell? ⟨W.heap.size, o, none⟩ = (#[.int .i64 m.c, .int .i64 m.d, .int .i64 m.s, .int .i64 m.e, .int .i64 m.l, .slice (some ⟨b0, off0, none⟩) t.length c] : Array Value)[o]? := fun o => by rw [(bcell hb2).1 _ _ hz01, hc01]
      have hz2 : W.heap.size < w2.heap.size := by have := hb2.size; omega
      have hcc2 := cell_keep hcc0 (hb2.block _ (lt_of_cell hcc0))
      clear hc01 hh01
      go_wp2_with (go_at_call 43; refine (within_b _ _ _ _ _ Hi.out).mono ?_; rintro e' w' ⟨rfl, rfl⟩)
      go_ret2
      exact ⟨rfl, hB01.trans (hb2.mono (by omega))⟩
  · have hfin : calmAns m t cuts s = (false, designC m t cuts) := by unfold calmAns; rw [if_pos hp]
    have e1 : (designC m t cuts != 0) = true := by simp [hp]
    rw [hfin]
    have Hp := Lib.hid (And.intro hp hfin); clear hp hfin
    generalize designC m t cuts = pc at *
    go_enter Tryz.func24, Tryz.ntmps24
    go_wp2_with fail
    rw [← hW1]
    refine hpr.mono ?_
    rintro e' w2 ⟨rfl, hb2⟩
    clear hc01 hh01
    go_wp2_with fail
    go_ret2
    exact ⟨rfl, hB01.trans (hb2.mono (by omega))⟩
set_option maxRecDepth 100000 in
theorem IsCalmR_any {S S' : Nat → Prop} (m : Mk) (u v : Value) (t cuts : List (List Int)) (s : Int) (W : World) (h : V2 S W u t) (hc : V2 S' W v cuts) :
    Calls Tryz.prog 23 #[.agg #[.int .i64 m.c, .int .i64 m.d, .int .i64 m.s, .int .i64 m.e, .int .i64 m.l, u], v, .int .i64 s] W fun e' w' => e' = .returned (.tuple #[.bool (calmAns m t cuts s).1, .int .i64 (calmAns m t cuts s).2]) ∧ Below W.heap.size W w' := by
  obtain ⟨a, c, rfl, hmx⟩ := h.form
  obtain ⟨a', c', rfl, hmx'⟩ := hc.form
  obtain ⟨W1, hW1, hB01, hz01, HZ01, hc01, hh01⟩ := box_facts W #[.int .i64 m.c, .int .i64 m.d, .int .i64 m.s, .int .i64 m.e, .int .i64 m.l, .slice a t.length c] 34
  have hV1 := (h.below hB01).any
  have hC1 := (hc.below hB01).any
  have hcode := l21Code_any m _ _ t cuts W1 hV1 hC1
  by_cases hp : designC m t cuts = 0
  · rw [hp] at hcode
    have hf := (design_fits hp).1
    have hmc := mc_nat hf.ok
    have hdoors := hf.doors
    have hkl := keysOf_length hf.ok
    have hol := outsOf_length cuts (keysOf m)
    obtain ⟨locks, hlocks⟩ : ∃ x, x = locksTo m.c.toNat t cuts (getl t 0).length := ⟨_, rfl⟩
    obtain ⟨D, hD⟩ : ∃ D, (getl t 0).length = D := ⟨_, rfl⟩
    have hll : locks.length = D := by rw [hlocks, locksTo_len, hD]
    have hrows := hf.rows
    obtain ⟨b0, off0, a0, c0, rfl, _, hcc0, hr0⟩ := hV1.cell (k := 0) (by omega)
    simp only [Nat.add_zero] at hcc0
    have h0t : (0 : Int) < (t.length : Int) := by omega
    obtain ⟨i, hi⟩ : ∃ i, inB s 0 D = i := ⟨_, rfl⟩
    obtain ⟨z, hz⟩ : ∃ x, worst (cntL locks (outsOf cuts (keysOf m)) 1 D) D = x := ⟨_, rfl⟩
    have hwz : (worstAns m t cuts).1 = z := by unfold worstAns profAns; rw [if_neg (by rw [hp]; decide), ← hlocks, hD]; show worst _ _ = _; rw [cntL_len]; exact hz
    have hfin : calmAns m t cuts s = if i = false then (false, 2) else (decide (z ≤ s), 0) := by unfold calmAns; rw [if_neg (by rw [hp]; decide), hD, hi, hwz]
    have hpr := l22Profile_any (S := fun _ => True) (S' := fun _ => True) m (.slice (some ⟨b0, off0, none⟩) t.length c) (.slice a' cuts.length c') t cuts m.c.toNat
    rw [← hlocks, hD] at hpr
    rw [hfin]
    rw [hD] at hdoors hcc0
    have Hf := Lib.hid (And.intro hf (And.intro hmc (And.intro hpr hr0))); clear hf hmc hpr hol hkl hr0
    have Hp := Lib.hid (And.intro hp (And.intro hfin (And.intro hlocks (And.intro hD (And.intro hll (And.intro hz hwz)))))); clear hp hfin hlocks hD hll hz hwz
    have Hi := Lib.hid hi; clear hi
    have Hcode := Lib.hid hcode; clear hcode
    cases i
    · rw [if_pos rfl]
      go_enter Tryz.func23, Tryz.ntmps23
      go_wp2_with fail
      rw [← hW1]
      refine Hcode.out.mono ?_
      rintro e' w2 ⟨rfl, hb2⟩
      have hx2 : ∀ o, w2.cell? ⟨W.heap.size, o, none⟩ = (#[.int .i64 m.c, .int .i64 m.d, .int .i64 m.s, .int .i64 m.e, .int .i64 m.l, .slice (some ⟨b0, off0, none⟩) t.length c] : Array Value)[o]? := fun o => by rw [(bcell hb2).1 _ _ hz01, hc01]
      have hz2 : W.heap.size < w2.heap.size := by have := hb2.size; omega
      have hcc2 := cell_keep hcc0 (hb2.block _ (lt_of_cell hcc0))
      clear hc01 hh01
      go_wp2_with (go_at_call 40; refine (l01In_b _ _ _ _ _ Hi.out).mono ?_; rintro e' w' ⟨rfl, rfl⟩)
      go_ret2
      exact ⟨rfl, hB01.trans (hb2.mono (by omega))⟩
    · rw [if_neg (by decide)]
      go_enter Tryz.func23, Tryz.ntmps23
      go_wp2_with fail
      rw [← hW1]
      refine Hcode.out.mono ?_
      rintro e' w2 ⟨rfl, hb2⟩
      have hx2 : ∀ o, w2.cell? ⟨W.heap.size, o, none⟩ = (#[.int .i64 m.c, .int .i64 m.d, .int .i64 m.s, .int .i64 m.e, .int .i64 m.l, .slice (some ⟨b0, off0, none⟩) t.length c] : Array Value)[o]? := fun o => by rw [(bcell hb2).1 _ _ hz01, hc01]
      have hz2 : W.heap.size < w2.heap.size := by have := hb2.size; omega
      have hcc2 := cell_keep hcc0 (hb2.block _ (lt_of_cell hcc0))
      clear hc01 hh01
      go_wp2_with (go_at_call 40; refine (l01In_b _ _ _ _ _ Hi.out).mono ?_; rintro e' w' ⟨rfl, rfl⟩)
      refine (Hf.out.2.2.1 _ Hf.out.1 Hf.out.2.1 (hV1.below hb2) (hC1.below hb2)).mono ?_
      rintro e' w3 ⟨G, rfl, hblk, hb3⟩
      have hx := hblk.x1 (off := 0) (by omega) (by rw [cntL_len]; omega)
      rw [List.drop_zero, cntL_len] at hx
      have Hx := Lib.hid (hx.v1 (S := fun _ => True) (fun _ => trivial)); clear hx hblk hx2
      go_wp2_with fail
      refine (l22Worst_any _ (cntL locks (outsOf cuts (keysOf m)) 1 D) _ z (by rw [cntL_len]; exact Hp.out.2.2.2.2.2.1) Hx.out (by rw [cntL_len]; omega)).mono ?_
      rintro e' w4 ⟨rfl, rfl⟩
      go_wp2_with fail
      go_ret2
      exact ⟨rfl, hB01.trans ((hb2.trans (hb3.mono hb2.size)).mono (by omega))⟩
  · have hfin : calmAns m t cuts s = (false, designC m t cuts) := by unfold calmAns; rw [if_pos hp]; (try rfl)
    have e1 : (designC m t cuts != 0) = true := by simp [hp]
    have e0 : (designC m t cuts == 0) = false := by simp [hp]
    rw [hfin]
    have Hp := Lib.hid (And.intro hp hfin); clear hp hfin
    generalize designC m t cuts = pc at *
    go_enter Tryz.func23, Tryz.ntmps23
    go_wp2_with fail
    rw [← hW1]
    refine hcode.mono ?_
    rintro e' w2 ⟨rfl, hb2⟩
    clear hc01 hh01
    go_wp2_with fail
    go_ret2
    exact ⟨rfl, hB01.trans (hb2.mono (by omega))⟩
end Go.Proofs.YtlfnadmbelngeaaGreat
