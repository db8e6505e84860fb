/- The ghosts of a door, as the reference counts them. No conditions. -/
import Derived.Test.YtbckginfipeibaaGhL
import Derived.Test.YtbckginfipeibaaReasC
namespace Go.Proofs.Ytbckginfipeibaa
open Go.RowKit
set_option linter.unusedVariables false
set_option linter.unusedSimpArgs false

/-- How many ghosts a door has. -/
def doorGh (m : Mk) (t cuts : List (List Int)) (d : Nat) : Nat := ghostsN m (lockR m.c.toNat t cuts d) cuts
def doorGhAns (m : Mk) (t cuts : List (List Int)) (door : Int) : Int × Int :=
  if designC m t cuts ≠ 0 then (0, designC m t cuts) else if inB door 0 (((getl t 0).length : Int) - 1) = false then (0, 2) else ((doorGh m t cuts door.toNat : Nat), 0)
theorem lockR_len (n : Nat) (t cuts : List (List Int)) (d : Nat) : (lockR n t cuts d).length = n := by rw [lockR, hullR_len]
set_option maxRecDepth 100000 in
set_option maxHeartbeats 1000000 in
theorem DoorGhostsR_any {S S' : Nat → Prop} (m : Mk) (u v : Value) (t cuts : List (List Int)) (door : Int) (W : World) (h : V2 S W u t) (hc : V2 S' W v cuts) :
    Calls Try.prog 28 #[.agg #[.int .i64 m.c, .int .i64 m.d, .int .i64 m.s, .int .i64 m.e, .int .i64 m.l, u], v, .int .i64 door] W fun e' w' => e' = .returned (.tuple #[.int .i64 (doorGhAns m t cuts door).1, .int .i64 (doorGhAns m t cuts door).2]) ∧ Below W.heap.size W w' := by
  obtain ⟨a, c, rfl, hmx⟩ := h.form
  obtain ⟨a', c', rfl, hmx'⟩ := hc.form
  obtain ⟨W1, hW1, hB01, hz01, HZ01, hc01, hh01⟩ := box_facts W #[.int .i64 m.c, .int .i64 m.d, .int .i64 m.s, .int .i64 m.e, .int .i64 m.l, .slice a t.length c] 34
  have hV1 := (h.below hB01).any
  have hC1 := (hc.below hB01).any
  have hcode := l21Code_any m _ _ t cuts W1 hV1 hC1
  by_cases hp : designC m t cuts = 0
  · rw [hp] at hcode
    have hf := (design_fits hp).1
    have hmc := mc_nat hf.ok
    have hdoors := hf.doors
    have hkl := keysOf_length hf.ok
    have hol := outsOf_length cuts (keysOf m)
    obtain ⟨locks, hlocks⟩ : ∃ x, x = locksTo m.c.toNat t cuts (getl t 0).length := ⟨_, rfl⟩
    obtain ⟨D, hD⟩ : ∃ D, (getl t 0).length = D := ⟨_, rfl⟩
    have hll : locks.length = D := by rw [hlocks, locksTo_len, hD]
    have hrows := hf.rows
    have h0 : inB 0 0 ((t.length : Int) - 1) = true := inB_iff.2 (by omega)
    have Hcode := Lib.hid hcode; clear hcode
    cases hi : inB door 0 (((getl t 0).length : Int) - 1)
    · have hfin : doorGhAns m t cuts door = (0, 2) := by unfold doorGhAns; rw [if_neg (by rw [hp]; decide), if_pos hi]
      rw [hfin]
      have hr : (inB 0 0 ((t.length : Int) - 1) && inB door 0 (((getl t 0).length : Int) - 1)) = false := by rw [hi, h0]; rfl
      have Hr := Lib.hid (And.intro hrows (And.intro hdoors.2 hr)); clear hr hi h0 hrows hdoors hD hlocks hll hkl hol hf hmc hp
      go_enter Try.func28, Try.ntmps28
      go_wp2_with fail
      rw [← hW1]
      refine Hcode.out.mono ?_
      rintro e' w2 ⟨rfl, hb2⟩
      have hx2 : ∀ o, w2.cell? ⟨W.heap.size, o, none⟩ = (#[.int .i64 m.c, .int .i64 m.d, .int .i64 m.s, .int .i64 m.e, .int .i64 m.l, .slice a t.length c] : Array Value)[o]? := fun o => by rw [(bcell hb2).1 _ _ hz01, hc01]
      have hz2 : W.heap.size < w2.heap.size := by have := hb2.size; omega
      clear hc01 hh01
      go_wp2_with fail
      refine (l15Pair_any m _ t 0 door _ (hV1.below hb2) Hr.out.1 Hr.out.2.1).mono ?_
      rintro e' w3 ⟨rfl, hb3⟩
      rw [Hr.out.2.2]
      have hb23 := hb2.trans (hb3.mono hb2.size)
      have hz3 : W.heap.size < w3.heap.size := by have := hb3.size; omega
      have hx3 : ∀ o, w3.cell? ⟨W.heap.size, o, none⟩ = (#[.int .i64 m.c, .int .i64 m.d, .int .i64 m.s, .int .i64 m.e, .int .i64 m.l, .slice a t.length c] : Array Value)[o]? := fun o => by rw [(bcell hb3).1 _ _ hz2, hx2]
      clear hx2
      go_wp2_with fail
      go_ret2
      exact ⟨rfl, hB01.trans (hb23.mono (by omega))⟩
    · have hin := inB_iff.1 hi
      obtain ⟨d, rfl⟩ : ∃ d : Nat, door = (d : Int) := ⟨door.toNat, by omega⟩
      have hfin : doorGhAns m t cuts (d : Int) = (((doorGh m t cuts d : Nat) : Int), 0) := by unfold doorGhAns; rw [if_neg (by rw [hp]; decide), if_neg (by rw [hi]; decide)]; rfl
      rw [hfin]
      have hr : (inB 0 0 ((t.length : Int) - 1) && inB (d : Int) 0 (((getl t 0).length : Int) - 1)) = true := by rw [hi, h0]; rfl
      have hdd : d < (getl t 0).length := by omega
      have hso := lock_sets (n := m.c.toNat) (d := d) hf hmc
      have hsl : (((lockR m.c.toNat t cuts d).length : Nat) : Int) = m.c := by rw [lockR_len]; exact hmc
      have Hf := Lib.hid (And.intro hf (And.intro hmc (And.intro hdd (And.intro hso (And.intro hsl hf.ok))))); clear hso hsl
      obtain ⟨N, hN⟩ : ∃ N, doorGh m t cuts d = N := ⟨_, rfl⟩
      have hN' : ghostsN m (lockR m.c.toNat t cuts d) cuts = N := hN
      rw [hN]
      have Hr := Lib.hid (And.intro hrows (And.intro hdoors.2 (And.intro hr hN'))); clear hN hN' hi h0 hrows hdoors hD hlocks hll hkl hol hf hmc hp hin hdd hfin
      have hr := Hr.out.2.2.1
      go_enter Try.func28, Try.ntmps28
      go_wp2_with fail
      rw [← hW1]
      refine Hcode.out.mono ?_
      rintro e' w2 ⟨rfl, hb2⟩
      have hx2 : ∀ o, w2.cell? ⟨W.heap.size, o, none⟩ = (#[.int .i64 m.c, .int .i64 m.d, .int .i64 m.s, .int .i64 m.e, .int .i64 m.l, .slice a t.length c] : Array Value)[o]? := fun o => by rw [(bcell hb2).1 _ _ hz01, hc01]
      have hz2 : W.heap.size < w2.heap.size := by have := hb2.size; omega
      clear hc01 hh01
      go_wp2_with fail
      refine (l15Pair_any m _ t 0 (d : Int) _ (hV1.below hb2) Hr.out.1 Hr.out.2.1).mono ?_
      rintro e' w3 ⟨rfl, hb3⟩
      rw [hr]
      have hb23 := hb2.trans (hb3.mono hb2.size)
      have hz3 : W.heap.size < w3.heap.size := by have := hb3.size; omega
      have hx3 : ∀ o, w3.cell? ⟨W.heap.size, o, none⟩ = (#[.int .i64 m.c, .int .i64 m.d, .int .i64 m.s, .int .i64 m.e, .int .i64 m.l, .slice a t.length c] : Array Value)[o]? := fun o => by rw [(bcell hb3).1 _ _ hz2, hx2]
      clear hx2
      go_wp2_with fail
      go_region_held3 (fun w' => (∀ o, w'.cell? ⟨W.heap.size, o, none⟩ = (#[.int .i64 m.c, .int .i64 m.d, .int .i64 m.s, .int .i64 m.e, .int .i64 m.l, .slice a t.length c] : Array Value)[o]?) ∧ Below w3.heap.size w3 w') (first | exact one_keep (by assumption) (by assumption) (by assumption) | exact ⟨hx3, (Below.refl _ _).drew⟩) (first | (go_at_call 66; refine (l15Lock_any (S := fun _ => True) (S' := fun _ => True) m _ _ t cuts d m.c.toNat _ Hf.out.1 Hf.out.2.1 Hf.out.2.2.1 (hV1.below (hb23.trans ((one_below (by assumption)).mono hb23.size))) (hC1.below (hb23.trans ((one_below (by assumption)).mono hb23.size)))).mono ?_; rintro e' wK ⟨kv, rfl, hFK, hb⟩) | (go_at_call 65; refine (l14Ghosts_any (S' := fun _ => True) m Hf.out.2.2.2.2.2 _ Hf.out.2.2.2.2.1 Hf.out.2.2.2.1 _ _ cuts _ hFK.v2.any (hC1.below (hb23.trans ((one_below (by assumption)).mono hb23.size)))).mono ?_; rintro e' w' ⟨ga, gc, rfl, hb⟩; rw [Hr.out.2.2.2]))
      all_goals
        have hBw := one_below (w0 := w3) (by assumption)
        go_wp2_with fail
        go_ret2
        exact ⟨rfl, hB01.trans ((hb23.trans (hBw.mono hb23.size)).mono (by omega))⟩
  · have hfin : doorGhAns m t cuts door = (0, designC m t cuts) := by unfold doorGhAns; rw [if_pos hp]; (try rfl)
    have e1 : (designC m t cuts != 0) = true := by simp [hp]
    have e0 : (designC m t cuts == 0) = false := by simp [hp]
    rw [hfin]
    have Hp := Lib.hid (And.intro hp hfin); clear hp hfin
    generalize designC m t cuts = pc at *
    go_enter Try.func28, Try.ntmps28
    go_wp2_with fail
    rw [← hW1]
    refine hcode.mono ?_
    rintro e' w2 ⟨rfl, hb2⟩
    clear hc01 hh01
    go_wp2_with fail
    go_ret2
    exact ⟨rfl, hB01.trans (hb2.mono (by omega))⟩
end Go.Proofs.Ytbckginfipeibaa
