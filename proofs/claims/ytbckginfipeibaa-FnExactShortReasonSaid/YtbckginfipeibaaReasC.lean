/- What the program and the reference answer on reasons: the code of a row and a door. No conditions. -/
import Derived.Test.YtbckginfipeibaaReasR
namespace Go.Proofs.Ytbckginfipeibaa
open Go.RowKit
set_option linter.unusedVariables false
set_option linter.unusedSimpArgs false

/-- The code of a system, partial cuts, a row and a door. -/
def reasC (m : Mk) (t cuts : List (List Int)) (key door : Int) : Int :=
  if partC m t cuts ≠ 0 then partC m t cuts else if (inB key 0 ((cuts.length : Int) - 1) && inB door 0 (((getl t 0).length : Int) - 1)) = false then 2 else if geti (getl t key.toNat) door.toNat = 1 then 5 else 0
theorem reasC_ok {m : Mk} {t cuts : List (List Int)} {key door : Int} (h : reasC m t cuts key door = 0) : partC m t cuts = 0 ∧ ∃ k d : Nat, key = k ∧ door = d ∧ k < cuts.length ∧ d < (getl t 0).length ∧ ¬ geti (getl t k) d = 1 := by
  unfold reasC at h
  split at h
  · rename_i h1; exact absurd h h1
  · rename_i h1
    split at h
    · cases h
    · rename_i h2
      split at h
      · cases h
      · rename_i h3
        simp only [Bool.not_eq_false, Bool.and_eq_true, inB_iff] at h2
        refine ⟨by omega, key.toNat, door.toNat, by omega, by omega, by omega, by omega, h3⟩

theorem l15Pair_any {S : Nat → Prop} (m : Mk) (u : Value) (t : List (List Int)) (key door : Int) (W : World) (h : V2 S W u t) (hrows : 1 ≤ t.length ∧ t.length ≤ 10) (hd : (getl t 0).length ≤ 12) :
    Calls Try.prog 64 #[.agg #[.int .i64 m.c, .int .i64 m.d, .int .i64 m.s, .int .i64 m.e, .int .i64 m.l, u], .int .i64 key, .int .i64 door] W fun e' w' => e' = .returned (.bool (inB key 0 ((t.length : Int) - 1) && inB door 0 (((getl t 0).length : Int) - 1))) ∧ Below W.heap.size W w' := by
  obtain ⟨a, c, rfl, hmx⟩ := h.form
  obtain ⟨b0, off0, a0, c0, rfl, _, hc0, hr0⟩ := h.cell (k := 0) (by omega)
  simp only [Nat.add_zero] at hc0
  have hcA : ∀ o1, (W.alloc o1).cell? ⟨b0, off0, none⟩ = some (.slice a0 (getl t 0).length c0) := fun o1 => cell_keep hc0 ((show Below W.heap.size W (W.alloc o1) from by go_grown).block _ (lt_of_cell hc0))
  clear hc0
  cases hi : inB key 0 ((t.length : Int) - 1)
  · have Hi := Lib.hid hi; clear hi
    go_enter Try.func64, Try.ntmps64
    go_wp2_with (go_at_call 118; refine (l01In_b _ _ _ _ _ Hi.out).mono ?_; rintro e' w' ⟨rfl, rfl⟩)
    go_ret
    exact ⟨rfl, by go_grown⟩
  · cases hj : inB door 0 (((getl t 0).length : Int) - 1)
    all_goals
      have Hi := Lib.hid hi; clear hi
      have Hj := Lib.hid hj; clear hj
      go_enter Try.func64, Try.ntmps64
      go_wp2_with (first | (go_at_call 118; (with_reducible refine (l01In_b _ _ _ _ _ Hi.out).mono ?_); rintro e' w' ⟨rfl, rfl⟩) | (go_at_call 118; (with_reducible refine (l01In_b _ _ _ _ _ Hj.out).mono ?_); rintro e' w' ⟨rfl, rfl⟩))
      go_ret
      exact ⟨rfl, by go_grown⟩

set_option maxRecDepth 100000 in
theorem reasonCode_any {S S' : Nat → Prop} (m : Mk) (u v : Value) (t cuts : List (List Int)) (key door : Int) (W : World) (h : V2 S W u t) (hc : V2 S' W v cuts) :
    Calls Try.prog 81 #[.agg #[.int .i64 m.c, .int .i64 m.d, .int .i64 m.s, .int .i64 m.e, .int .i64 m.l, u], v, .int .i64 key, .int .i64 door] W fun e' w' => e' = .returned (.int .i64 (reasC m t cuts key door)) ∧ Below W.heap.size W w' := by
  obtain ⟨a, c, rfl, hmx⟩ := h.form
  obtain ⟨a', c', rfl, hmx'⟩ := hc.form
  obtain ⟨W1, hW1, hB01, hz01, HZ01, hc01, hh01⟩ := box_facts W #[.int .i64 m.c, .int .i64 m.d, .int .i64 m.s, .int .i64 m.e, .int .i64 m.l, .slice a t.length c] 34
  have hV1 : V2 (fun _ => True) W1 (.slice a t.length c) t := (h.below hB01).mono (fun _ _ _ => trivial) (fun _ _ _ => rfl)
  have hC1 : V2 (fun _ => True) W1 (.slice a' cuts.length c') cuts := (hc.below hB01).mono (fun _ _ _ => trivial) (fun _ _ _ => rfl)
  have hpart := partCode_any m _ _ t cuts W1 hV1 hC1
  by_cases hp : partC m t cuts = 0
  · rw [hp] at hpart
    have hf := fits_of hp
    have hrows := hf.rows
    have hdoors := hf.doors
    have hfew := hf.few
    have Hpart := Lib.hid hpart; clear hpart
    cases hin : (inB key 0 ((cuts.length : Int) - 1) && inB door 0 (((getl t 0).length : Int) - 1))
    · have hfin : reasC m t cuts key door = 2 := by unfold reasC; rw [if_neg (by rw [hp]; decide), if_pos hin]
      rw [hfin]
      have Hp := Lib.hid hp; clear hp hfin
      clear hf
      cases hi : inB key 0 ((cuts.length : Int) - 1)
      · have Hi := Lib.hid hi; clear hi hin
        go_enter Try.func81, Try.ntmps81
        go_wp2_with fail
        rw [← hW1]
        refine Hpart.out.mono ?_
        rintro e' w2 ⟨rfl, hb2⟩
        clear hc01 hh01
        go_wp2_with (go_at_call 67; refine (within_b _ _ _ _ _ Hi.out).mono ?_; rintro e' w' ⟨rfl, rfl⟩)
        go_ret
        exact ⟨rfl, hB01.trans (hb2.mono (by omega))⟩
      · rw [hi, Bool.true_and] at hin
        obtain ⟨b0, off0, a0, c0, rfl, _, hc0, hr0⟩ := hV1.cell (k := 0) (by omega)
        simp only [Nat.add_zero] at hc0
        have hki := inB_iff.1 hi
        have hi2 : inB key 0 ((t.length : Int) - 1) = true := inB_iff.2 (by omega)
        have Hi := Lib.hid hi; clear hi
        have Hj := Lib.hid hin; clear hin
        have Hpair := Lib.hid (show (inB key 0 ((t.length : Int) - 1) && inB door 0 (((getl t 0).length : Int) - 1)) = false by rw [hi2, Hj.out]; rfl)
        clear hi2
        go_enter Try.func81, Try.ntmps81
        go_wp2_with fail
        rw [← hW1]
        refine Hpart.out.mono ?_
        rintro e' w2 ⟨rfl, hb2⟩
        have hx2 : ∀ o, w2.cell? ⟨W.heap.size, o, none⟩ = (#[.int .i64 m.c, .int .i64 m.d, .int .i64 m.s, .int .i64 m.e, .int .i64 m.l, .slice (some ⟨b0, off0, none⟩) t.length c] : Array Value)[o]? := fun o => by rw [(bcell hb2).1 _ _ hz01, hc01]
        have hcc2 : w2.cell? ⟨b0, off0, none⟩ = some (.slice a0 (getl t 0).length c0) := cell_keep hc0 (hb2.block _ (lt_of_cell hc0))
        clear hc01 hh01
        go_wp2_with (first | (go_at_call 67; (with_reducible refine (within_b _ _ _ _ _ Hi.out).mono ?_); rintro e' w' ⟨rfl, rfl⟩) | (go_at_call 67; (with_reducible refine (within_b _ _ _ _ _ Hj.out).mono ?_); rintro e' w' ⟨rfl, rfl⟩))
        go_ret
        exact ⟨rfl, hB01.trans (hb2.mono (by omega))⟩
    · obtain ⟨hi, hj⟩ : inB key 0 ((cuts.length : Int) - 1) = true ∧ inB door 0 (((getl t 0).length : Int) - 1) = true := by simpa using hin
      have hki := inB_iff.1 hi
      have hdi := inB_iff.1 hj
      obtain ⟨k, rfl⟩ : ∃ k : Nat, key = k := ⟨key.toNat, by omega⟩
      obtain ⟨d, rfl⟩ : ∃ d : Nat, door = d := ⟨door.toNat, by omega⟩
      have hkt : k < t.length := by omega
      have hi2 : inB (k : Int) 0 ((t.length : Int) - 1) = true := inB_iff.2 (by omega)
      have hdk : d < (getl t k).length := by rw [hf.cols k hkt]; omega
      clear hf
      obtain ⟨b0, off0, a0, c0, rfl, _, hc0, hr0⟩ := hV1.cell (k := 0) (by omega)
      obtain ⟨b1, off1, a1, c1, e1, _, hc1, hr1⟩ := hV1.cell hkt
      simp only [Option.some.injEq, Addr.mk.injEq, and_true] at e1
      obtain ⟨rfl, rfl⟩ := e1
      simp only [Nat.add_zero] at hc0
      obtain ⟨b2, off2, rfl, _, hcd⟩ := hr1.cell hdk
      have hl1 := hr1.len
      unfold maxLen at hl1
      have Hpair := Lib.hid (show (inB (k : Int) 0 ((t.length : Int) - 1) && inB (d : Int) 0 (((getl t 0).length : Int) - 1)) = true by rw [hi2, hj]; rfl)
      by_cases hbit : geti (getl t k) d = 1
      · have hfin : reasC m t cuts k d = 5 := by unfold reasC; rw [if_neg (by rw [hp]; decide), if_neg (by rw [hin]; decide), if_pos (by simpa using hbit)]
        have e2 : (geti (getl t k) d == 1) = true := by simp [hbit]
        rw [hfin]
        have Hp := Lib.hid hp; clear hp hfin hin hi2
        have Hbit := Lib.hid hbit; clear hbit
        have Hi := Lib.hid hi; clear hi
        have Hj := Lib.hid hj; clear hj
        go_enter Try.func81, Try.ntmps81
        go_wp2_with fail
        rw [← hW1]
        refine Hpart.out.mono ?_
        rintro e' w2 ⟨rfl, hb2⟩
        have hx2 : ∀ o, w2.cell? ⟨W.heap.size, o, none⟩ = (#[.int .i64 m.c, .int .i64 m.d, .int .i64 m.s, .int .i64 m.e, .int .i64 m.l, .slice (some ⟨b0, off0, none⟩) t.length c] : Array Value)[o]? := fun o => by rw [(bcell hb2).1 _ _ hz01, hc01]
        have hcc2 : w2.cell? ⟨b0, off0, none⟩ = some (.slice a0 (getl t 0).length c0) := cell_keep hc0 (hb2.block _ (lt_of_cell hc0))
        have hcc3 := cell_keep hc1 (hb2.block _ (lt_of_cell hc1))
        have hcc4 := cell_keep hcd (hb2.block _ (lt_of_cell hcd))
        clear hc01 hh01 hc0 hc1 hcd
        go_wp2_with (first | (go_at_call 67; (with_reducible refine (within_b _ _ _ _ _ Hi.out).mono ?_); rintro e' w' ⟨rfl, rfl⟩) | (go_at_call 67; (with_reducible refine (within_b _ _ _ _ _ Hj.out).mono ?_); rintro e' w' ⟨rfl, rfl⟩))
        go_ret
        exact ⟨rfl, hB01.trans (hb2.mono (by omega))⟩
      · have hfin : reasC m t cuts k d = 0 := by unfold reasC; rw [if_neg (by rw [hp]; decide), if_neg (by rw [hin]; decide), if_neg (by simpa using hbit)]
        have e2 : (geti (getl t k) d == 1) = false := by simp [hbit]
        rw [hfin]
        have Hp := Lib.hid hp; clear hp hfin hin hi2
        have Hbit := Lib.hid hbit; clear hbit
        have Hi := Lib.hid hi; clear hi
        have Hj := Lib.hid hj; clear hj
        go_enter Try.func81, Try.ntmps81
        go_wp2_with fail
        rw [← hW1]
        refine Hpart.out.mono ?_
        rintro e' w2 ⟨rfl, hb2⟩
        have hx2 : ∀ o, w2.cell? ⟨W.heap.size, o, none⟩ = (#[.int .i64 m.c, .int .i64 m.d, .int .i64 m.s, .int .i64 m.e, .int .i64 m.l, .slice (some ⟨b0, off0, none⟩) t.length c] : Array Value)[o]? := fun o => by rw [(bcell hb2).1 _ _ hz01, hc01]
        have hcc2 : w2.cell? ⟨b0, off0, none⟩ = some (.slice a0 (getl t 0).length c0) := cell_keep hc0 (hb2.block _ (lt_of_cell hc0))
        have hcc3 := cell_keep hc1 (hb2.block _ (lt_of_cell hc1))
        have hcc4 := cell_keep hcd (hb2.block _ (lt_of_cell hcd))
        clear hc01 hh01 hc0 hc1 hcd
        go_wp2_with (first | (go_at_call 67; (with_reducible refine (within_b _ _ _ _ _ Hi.out).mono ?_); rintro e' w' ⟨rfl, rfl⟩) | (go_at_call 67; (with_reducible refine (within_b _ _ _ _ _ Hj.out).mono ?_); rintro e' w' ⟨rfl, rfl⟩))
        go_ret
        exact ⟨rfl, hB01.trans (hb2.mono (by omega))⟩
  · have hfin : reasC m t cuts key door = partC m t cuts := by unfold reasC; rw [if_pos hp]
    have e1 : (partC m t cuts != 0) = true := by simp [hp]
    rw [hfin]
    have Hp := Lib.hid hp; clear hp hfin
    generalize partC m t cuts = pc at *
    go_enter Try.func81, Try.ntmps81
    go_wp2_with fail
    rw [← hW1]
    refine hpart.mono ?_
    rintro e' w2 ⟨rfl, hb2⟩
    clear hc01 hh01
    go_wp2_with fail
    go_ret
    exact ⟨rfl, hB01.trans (hb2.mono (by omega))⟩
set_option maxRecDepth 100000 in
theorem l18Code_any {S S' : Nat → Prop} (m : Mk) (u v : Value) (t cuts : List (List Int)) (key door : Int) (W : World) (h : V2 S W u t) (hc : V2 S' W v cuts) :
    Calls Try.prog 78 #[.agg #[.int .i64 m.c, .int .i64 m.d, .int .i64 m.s, .int .i64 m.e, .int .i64 m.l, u], v, .int .i64 key, .int .i64 door] W fun e' w' => e' = .returned (.int .i64 (reasC m t cuts key door)) ∧ Below W.heap.size W w' := by
  obtain ⟨a, c, rfl, hmx⟩ := h.form
  obtain ⟨a', c', rfl, hmx'⟩ := hc.form
  obtain ⟨W1, hW1, hB01, hz01, HZ01, hc01, hh01⟩ := box_facts W #[.int .i64 m.c, .int .i64 m.d, .int .i64 m.s, .int .i64 m.e, .int .i64 m.l, .slice a t.length c] 34
  have hV1 : V2 (fun _ => True) W1 (.slice a t.length c) t := (h.below hB01).mono (fun _ _ _ => trivial) (fun _ _ _ => rfl)
  have hC1 : V2 (fun _ => True) W1 (.slice a' cuts.length c') cuts := (hc.below hB01).mono (fun _ _ _ => trivial) (fun _ _ _ => rfl)
  have hpart := l16Code_any m _ _ t cuts W1 hV1 hC1
  by_cases hp : partC m t cuts = 0
  · rw [hp] at hpart
    have hf := fits_of hp
    have hrows := hf.rows
    have hdoors := hf.doors
    have hfew := hf.few
    have Hpart := Lib.hid hpart; clear hpart
    cases hin : (inB key 0 ((cuts.length : Int) - 1) && inB door 0 (((getl t 0).length : Int) - 1))
    · have hfin : reasC m t cuts key door = 2 := by unfold reasC; rw [if_neg (by rw [hp]; decide), if_pos hin]
      rw [hfin]
      have Hp := Lib.hid hp; clear hp hfin
      clear hf
      cases hi : inB key 0 ((cuts.length : Int) - 1)
      · have Hi := Lib.hid hi; clear hi hin
        go_enter Try.func78, Try.ntmps78
        go_wp2_with fail
        rw [← hW1]
        refine Hpart.out.mono ?_
        rintro e' w2 ⟨rfl, hb2⟩
        clear hc01 hh01
        go_wp2_with (go_at_call 118; refine (l01In_b _ _ _ _ _ Hi.out).mono ?_; rintro e' w' ⟨rfl, rfl⟩)
        go_ret
        exact ⟨rfl, hB01.trans (hb2.mono (by omega))⟩
      · rw [hi, Bool.true_and] at hin
        obtain ⟨b0, off0, a0, c0, rfl, _, hc0, hr0⟩ := hV1.cell (k := 0) (by omega)
        simp only [Nat.add_zero] at hc0
        have hki := inB_iff.1 hi
        have hi2 : inB key 0 ((t.length : Int) - 1) = true := inB_iff.2 (by omega)
        have Hi := Lib.hid hi; clear hi
        have Hj := Lib.hid hin; clear hin
        have Hpair := Lib.hid (show (inB key 0 ((t.length : Int) - 1) && inB door 0 (((getl t 0).length : Int) - 1)) = false by rw [hi2, Hj.out]; rfl)
        clear hi2
        go_enter Try.func78, Try.ntmps78
        go_wp2_with fail
        rw [← hW1]
        refine Hpart.out.mono ?_
        rintro e' w2 ⟨rfl, hb2⟩
        have hx2 : ∀ o, w2.cell? ⟨W.heap.size, o, none⟩ = (#[.int .i64 m.c, .int .i64 m.d, .int .i64 m.s, .int .i64 m.e, .int .i64 m.l, .slice (some ⟨b0, off0, none⟩) t.length c] : Array Value)[o]? := fun o => by rw [(bcell hb2).1 _ _ hz01, hc01]
        have hcc2 : w2.cell? ⟨b0, off0, none⟩ = some (.slice a0 (getl t 0).length c0) := cell_keep hc0 (hb2.block _ (lt_of_cell hc0))
        clear hc01 hh01
        go_wp2_with (first | (go_at_call 118; (with_reducible refine (l01In_b _ _ _ _ _ Hi.out).mono ?_); rintro e' w' ⟨rfl, rfl⟩) | (go_at_call 64; refine (l15Pair_any m _ t _ _ _ (hV1.below hb2) hrows hdoors.2).mono ?_; rintro e' w3 ⟨rfl, hb3⟩; rw [Hpair.out]))
        go_ret
        exact ⟨rfl, hB01.trans ((hb2.trans (hb3.mono hb2.size)).mono (by omega))⟩
    · obtain ⟨hi, hj⟩ : inB key 0 ((cuts.length : Int) - 1) = true ∧ inB door 0 (((getl t 0).length : Int) - 1) = true := by simpa using hin
      have hki := inB_iff.1 hi
      have hdi := inB_iff.1 hj
      obtain ⟨k, rfl⟩ : ∃ k : Nat, key = k := ⟨key.toNat, by omega⟩
      obtain ⟨d, rfl⟩ : ∃ d : Nat, door = d := ⟨door.toNat, by omega⟩
      have hkt : k < t.length := by omega
      have hi2 : inB (k : Int) 0 ((t.length : Int) - 1) = true := inB_iff.2 (by omega)
      have hdk : d < (getl t k).length := by rw [hf.cols k hkt]; omega
      clear hf
      obtain ⟨b0, off0, a0, c0, rfl, _, hc0, hr0⟩ := hV1.cell (k := 0) (by omega)
      obtain ⟨b1, off1, a1, c1, e1, _, hc1, hr1⟩ := hV1.cell hkt
      simp only [Option.some.injEq, Addr.mk.injEq, and_true] at e1
      obtain ⟨rfl, rfl⟩ := e1
      simp only [Nat.add_zero] at hc0
      obtain ⟨b2, off2, rfl, _, hcd⟩ := hr1.cell hdk
      have hl1 := hr1.len
      unfold maxLen at hl1
      have Hpair := Lib.hid (show (inB (k : Int) 0 ((t.length : Int) - 1) && inB (d : Int) 0 (((getl t 0).length : Int) - 1)) = true by rw [hi2, hj]; rfl)
      by_cases hbit : geti (getl t k) d = 1
      · have hfin : reasC m t cuts k d = 5 := by unfold reasC; rw [if_neg (by rw [hp]; decide), if_neg (by rw [hin]; decide), if_pos (by simpa using hbit)]
        have e2 : (geti (getl t k) d == 1) = true := by simp [hbit]
        rw [hfin]
        have Hp := Lib.hid hp; clear hp hfin hin hi2
        have Hbit := Lib.hid hbit; clear hbit
        have Hi := Lib.hid hi; clear hi
        have Hj := Lib.hid hj; clear hj
        go_enter Try.func78, Try.ntmps78
        go_wp2_with fail
        rw [← hW1]
        refine Hpart.out.mono ?_
        rintro e' w2 ⟨rfl, hb2⟩
        have hx2 : ∀ o, w2.cell? ⟨W.heap.size, o, none⟩ = (#[.int .i64 m.c, .int .i64 m.d, .int .i64 m.s, .int .i64 m.e, .int .i64 m.l, .slice (some ⟨b0, off0, none⟩) t.length c] : Array Value)[o]? := fun o => by rw [(bcell hb2).1 _ _ hz01, hc01]
        have hcc2 : w2.cell? ⟨b0, off0, none⟩ = some (.slice a0 (getl t 0).length c0) := cell_keep hc0 (hb2.block _ (lt_of_cell hc0))
        have hcc3 := cell_keep hc1 (hb2.block _ (lt_of_cell hc1))
        have hcc4 := cell_keep hcd (hb2.block _ (lt_of_cell hcd))
        clear hc01 hh01 hc0 hc1 hcd
        go_wp2_with (first | (go_at_call 118; (with_reducible refine (l01In_b _ _ _ _ _ Hi.out).mono ?_); rintro e' w' ⟨rfl, rfl⟩) | (go_at_call 64; refine (l15Pair_any m _ t _ _ _ (hV1.below hb2) hrows hdoors.2).mono ?_; rintro e' w3 ⟨rfl, hb3⟩; rw [Hpair.out]; have hx3 : ∀ o, w3.cell? ⟨W.heap.size, o, none⟩ = (#[.int .i64 m.c, .int .i64 m.d, .int .i64 m.s, .int .i64 m.e, .int .i64 m.l, .slice (some ⟨b0, off0, none⟩) t.length c] : Array Value)[o]? := (fun o => by rw [(bcell hb3).1 _ _ (by have := hb2.size; omega), hx2]); have hcd3 := cell_keep hcc3 (hb3.block _ (lt_of_cell hcc3)); have hcd4 := cell_keep hcc4 (hb3.block _ (lt_of_cell hcc4))))
        go_ret
        exact ⟨rfl, hB01.trans ((hb2.trans (hb3.mono hb2.size)).mono (by omega))⟩
      · have hfin : reasC m t cuts k d = 0 := by unfold reasC; rw [if_neg (by rw [hp]; decide), if_neg (by rw [hin]; decide), if_neg (by simpa using hbit)]
        have e2 : (geti (getl t k) d == 1) = false := by simp [hbit]
        rw [hfin]
        have Hp := Lib.hid hp; clear hp hfin hin hi2
        have Hbit := Lib.hid hbit; clear hbit
        have Hi := Lib.hid hi; clear hi
        have Hj := Lib.hid hj; clear hj
        go_enter Try.func78, Try.ntmps78
        go_wp2_with fail
        rw [← hW1]
        refine Hpart.out.mono ?_
        rintro e' w2 ⟨rfl, hb2⟩
        have hx2 : ∀ o, w2.cell? ⟨W.heap.size, o, none⟩ = (#[.int .i64 m.c, .int .i64 m.d, .int .i64 m.s, .int .i64 m.e, .int .i64 m.l, .slice (some ⟨b0, off0, none⟩) t.length c] : Array Value)[o]? := fun o => by rw [(bcell hb2).1 _ _ hz01, hc01]
        have hcc2 : w2.cell? ⟨b0, off0, none⟩ = some (.slice a0 (getl t 0).length c0) := cell_keep hc0 (hb2.block _ (lt_of_cell hc0))
        have hcc3 := cell_keep hc1 (hb2.block _ (lt_of_cell hc1))
        have hcc4 := cell_keep hcd (hb2.block _ (lt_of_cell hcd))
        clear hc01 hh01 hc0 hc1 hcd
        go_wp2_with (first | (go_at_call 118; (with_reducible refine (l01In_b _ _ _ _ _ Hi.out).mono ?_); rintro e' w' ⟨rfl, rfl⟩) | (go_at_call 64; refine (l15Pair_any m _ t _ _ _ (hV1.below hb2) hrows hdoors.2).mono ?_; rintro e' w3 ⟨rfl, hb3⟩; rw [Hpair.out]; have hx3 : ∀ o, w3.cell? ⟨W.heap.size, o, none⟩ = (#[.int .i64 m.c, .int .i64 m.d, .int .i64 m.s, .int .i64 m.e, .int .i64 m.l, .slice (some ⟨b0, off0, none⟩) t.length c] : Array Value)[o]? := (fun o => by rw [(bcell hb3).1 _ _ (by have := hb2.size; omega), hx2]); have hcd3 := cell_keep hcc3 (hb3.block _ (lt_of_cell hcc3)); have hcd4 := cell_keep hcc4 (hb3.block _ (lt_of_cell hcc4))))
        go_ret
        exact ⟨rfl, hB01.trans ((hb2.trans (hb3.mono hb2.size)).mono (by omega))⟩
  · have hfin : reasC m t cuts key door = partC m t cuts := by unfold reasC; rw [if_pos hp]
    have e1 : (partC m t cuts != 0) = true := by simp [hp]
    rw [hfin]
    have Hp := Lib.hid hp; clear hp hfin
    generalize partC m t cuts = pc at *
    go_enter Try.func78, Try.ntmps78
    go_wp2_with fail
    rw [← hW1]
    refine hpart.mono ?_
    rintro e' w2 ⟨rfl, hb2⟩
    clear hc01 hh01
    go_wp2_with fail
    go_ret
    exact ⟨rfl, hB01.trans (hb2.mono (by omega))⟩
end Go.Proofs.Ytbckginfipeibaa
