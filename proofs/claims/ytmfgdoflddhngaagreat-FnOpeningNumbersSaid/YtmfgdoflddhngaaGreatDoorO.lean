/- The ghosts of a door, as the program counts them. No conditions. -/
import Derived.Test.YtmfgdoflddhngaaGreatMOpeners
namespace Go.Proofs.YtmfgdoflddhngaaGreat
open Go.RowKit
set_option linter.unusedVariables false
set_option linter.unusedSimpArgs false

set_option maxRecDepth 100000 in
set_option maxHeartbeats 1000000 in
theorem DoorGhosts_any {S S' : Nat → Prop} (m : Mk) (u v : Value) (t cuts : List (List Int)) (door : Int) (W : World) (h : V2 S W u t) (hc : V2 S' W v cuts) :
    Calls Tryz.prog 42 #[.agg #[.int .i64 m.c, .int .i64 m.d, .int .i64 m.s, .int .i64 m.e, .int .i64 m.l, u], v, .int .i64 door] W fun e' w' => e' = .returned (.tuple #[.int .i64 (doorGhAns m t cuts door).1, .int .i64 (doorGhAns m t cuts door).2]) ∧ Below W.heap.size W w' := by
  obtain ⟨a, c, rfl, hmx⟩ := h.form
  obtain ⟨a', c', rfl, hmx'⟩ := hc.form
  obtain ⟨W1, hW1, hB01, hz01, HZ01, hc01, hh01⟩ := box_facts W #[.int .i64 m.c, .int .i64 m.d, .int .i64 m.s, .int .i64 m.e, .int .i64 m.l, .slice a t.length c] 28
  have hV1 := (h.below hB01).any
  have hC1 := (hc.below hB01).any
  have hcode := designCode_any m _ _ t cuts W1 hV1 hC1
  by_cases hp : designC m t cuts = 0
  · rw [hp] at hcode
    have hf := (design_fits hp).1
    have hmc := mc_nat hf.ok
    have hdoors := hf.doors
    have hkl := keysOf_length hf.ok
    have hol := outsOf_length cuts (keysOf m)
    obtain ⟨locks, hlocks⟩ : ∃ x, x = locksTo m.c.toNat t cuts (getl t 0).length := ⟨_, rfl⟩
    obtain ⟨D, hD⟩ : ∃ D, (getl t 0).length = D := ⟨_, rfl⟩
    have hll : locks.length = D := by rw [hlocks, locksTo_len, hD]
    have hrows := hf.rows
    have Hcode := Lib.hid hcode; clear hcode
    have hV0 := (h.below hB01).old
    have hC0 := (hc.below hB01).old
    obtain ⟨b0, off0, a0, c0, rfl, hb0, hcc0, hr0⟩ := hV0.cell (k := 0) (by omega)
    simp only [Nat.add_zero] at hcc0
    cases hi : inB door 0 (((getl t 0).length : Int) - 1)
    · have hfin : doorGhAns m t cuts door = (0, 2) := by unfold doorGhAns; rw [if_neg (by rw [hp]; decide), if_pos hi]
      rw [hfin]
      rw [hD] at hcc0 hi hdoors
      have hwD : IntKind.i64.wrap ((D : Int) - 1) = (D : Int) - 1 := IntWalk.i64_in _ (by omega)
      have Hi := Lib.hid hi; clear hi hD hlocks hll hkl hol hf hmc hp hr0 hfin
      go_enter Tryz.func42, Tryz.ntmps42
      go_wp2_with fail
      rw [← hW1]
      refine Hcode.out.mono ?_
      rintro e' w2 ⟨rfl, hb2⟩
      have hz2 : W.heap.size < w2.heap.size := by have := hb2.size; omega
      have hx2 : ∀ o, w2.cell? ⟨W.heap.size, o, none⟩ = (#[.int .i64 m.c, .int .i64 m.d, .int .i64 m.s, .int .i64 m.e, .int .i64 m.l, .slice (some ⟨b0, off0, none⟩) t.length c] : Array Value)[o]? := fun o => by rw [(bcell hb2).1 _ _ hz01, hc01]
      have hccw := cell_keep hcc0 (hb2.block _ (lt_of_cell hcc0))
      have Hc01 := Lib.hid (And.intro hc01 (And.intro hcc0 hW1)); clear hc01 hcc0 hW1
      clear hh01
      go_wp2_with (go_at_call 120; refine (within_b _ _ _ _ _ Hi.out).mono ?_; rintro e' w' ⟨rfl, rfl⟩)
      go_ret2
      exact ⟨rfl, hB01.trans (hb2.mono (by omega))⟩
    · have hin := inB_iff.1 hi
      obtain ⟨d, rfl⟩ : ∃ d : Nat, door = (d : Int) := ⟨door.toNat, by omega⟩
      have hfin : doorGhAns m t cuts (d : Int) = (((doorGh m t cuts d : Nat) : Int), 0) := by unfold doorGhAns; rw [if_neg (by rw [hp]; decide), if_neg (by rw [hi]; decide)]; rfl
      rw [hfin]
      have hdd : d < (getl t 0).length := by omega
      have hgk : getll locks d = lockR m.c.toNat t cuts d := by rw [hlocks]; exact locksTo_get hdd
      have hsl : (((getll locks d).length : Nat) : Int) = m.c := by rw [hgk, lockR_len]; exact hmc
      have hpl := partLocks_any (S := fun b => b < W1.heap.size) (S' := fun b => b < W1.heap.size) m (.slice (some ⟨b0, off0, none⟩) t.length c) (.slice a' cuts.length c') t cuts m.c.toNat
      rw [← hlocks] at hpl
      obtain ⟨N, hN⟩ : ∃ N, doorGh m t cuts d = N := ⟨_, rfl⟩
      have hN' : ghostsN m (getll locks d) cuts = N := by rw [hgk]; exact hN
      have hNl : N ≤ 262144 := by rw [← hN']; exact ghostsN_le m hf.ok _ _
      rw [hN]
      rw [hD] at hcc0 hi hdoors hdd
      have hwD : IntKind.i64.wrap ((D : Int) - 1) = (D : Int) - 1 := IntWalk.i64_in _ (by omega)
      have hd0 : (0 : Int) ≤ (d : Int) := by omega
      have hdl : (d : Int) < (locks.length : Int) := by omega
      have hdl2 : d < locks.length := by omega
      have Hf := Lib.hid (And.intro hf (And.intro hmc (And.intro hpl (And.intro hsl (And.intro hN' hf.ok))))); clear hpl hsl hN' hmc hf
      have Hi := Lib.hid hi; clear hi hD hlocks hll hkl hol hp hr0 hfin hN hgk
      go_enter Tryz.func42, Tryz.ntmps42
      go_wp2_with fail
      rw [← hW1]
      refine Hcode.out.mono ?_
      rintro e' w2 ⟨rfl, hb2⟩
      have hz2 : W.heap.size < w2.heap.size := by have := hb2.size; omega
      have hx2 : ∀ o, w2.cell? ⟨W.heap.size, o, none⟩ = (#[.int .i64 m.c, .int .i64 m.d, .int .i64 m.s, .int .i64 m.e, .int .i64 m.l, .slice (some ⟨b0, off0, none⟩) t.length c] : Array Value)[o]? := fun o => by rw [(bcell hb2).1 _ _ hz01, hc01]
      have hccw := cell_keep hcc0 (hb2.block _ (lt_of_cell hcc0))
      have Hc01 := Lib.hid (And.intro hc01 (And.intro hcc0 hW1)); clear hc01 hcc0 hW1
      clear hh01
      go_wp2_with (go_at_call 120; refine (within_b _ _ _ _ _ Hi.out).mono ?_; rintro e' w' ⟨rfl, rfl⟩)
      obtain ⟨w3, hw3, hb23, hz23, HZ23, _, hh23⟩ := box_facts w2 #[.int .i64 0] 2
      rw [← hw3]
      have hB3 := hb2.trans (hb23.mono hb2.size)
      have hx3 : ∀ o, w3.cell? ⟨W.heap.size, o, none⟩ = (#[.int .i64 m.c, .int .i64 m.d, .int .i64 m.s, .int .i64 m.e, .int .i64 m.l, .slice (some ⟨b0, off0, none⟩) t.length c] : Array Value)[o]? := fun o => by rw [(bcell hb23).1 _ _ hz2, hx2]
      have Hw3 := Lib.hid (And.intro hw3 (And.intro hx2 hh23)); clear hw3 hx2 hh23
      have hzw : W.heap.size < w3.heap.size := by omega
      have hne : ¬ W.heap.size = w2.heap.size := by omega
      have hV3 := hV0.below hB3
      have hC3 := hC0.below hB3
      have hSF : ∀ b, b < W1.heap.size → ¬ b = w2.heap.size := fun b hb e => by have := hb2.size; omega
      have hdr : Below w3.heap.size w3 w3.drew := (Below.refl _ _).drew
      go_region_law (first | (go_simp; go_at_call 126; refine (Hf.out.2.2.1 _ Hf.out.1 Hf.out.2.1 (hV3.below hdr) (hC3.below hdr)).mono ?_; rintro e' wL ⟨lv, rfl, hlv, hbL⟩; obtain ⟨la, lc, rfl, hlm⟩ := hlv.form; have hB4w : Below w3.heap.size w3 wL := hdr.trans (hbL.mono (Nat.le_refl _)); have hxL : ∀ o, wL.cell? ⟨W.heap.size, o, none⟩ = (#[.int .i64 m.c, .int .i64 m.d, .int .i64 m.s, .int .i64 m.e, .int .i64 m.l, .slice (some ⟨b0, off0, none⟩) t.length c] : Array Value)[o]? := (fun o => by rw [(bcell hB4w).1 _ _ hzw, hx3]); obtain ⟨lb, loff, la2, lc2, rfl, hlb, hlcell, hlr⟩ := hlv.cell hdl2; (try dsimp only)) | (go_simp; go_at_call 142; refine (eachGhost_any m Hf.out.2.2.2.2.2 (getll locks d) Hf.out.2.2.2.1 _ _ cuts w2.heap.size 2 _ (hlr.mono (fun b h _ => by have h6 : w3.heap.size ≤ b := h; omega) (fun _ _ _ => rfl)) ((hC3.below hB4w).mono (fun b h _ => hSF b h) (fun _ _ _ => rfl)) (heap_below Hw3.out.2.2 hB4w (by omega))).mono ?_; rintro e' w5 ⟨rfl, ⟨T5, hc5⟩, hchg5⟩; rw [Hf.out.2.2.2.2.1] at hc5; (try dsimp only)))
      all_goals
        have hcc5 := cell_of_block hc5 0
        simp at hcc5
        have hchA : Below W1.heap.size W1 w5 := hB3.trans (((Chg.of_below (F := fun b => b = w2.heap.size) hB4w).trans hchg5 (fun i hi => .inl hi)).to_below (fun i hi => by have := hb2.size; omega) (by have := hb2.size; omega))
        have Hfin := Lib.hid hchA; clear hc5 hchg5 hchA
        go_wp2_with fail
        go_ret2
        exact ⟨rfl, hB01.trans (Hfin.out.mono (by omega))⟩
  · have hfin : doorGhAns m t cuts door = (0, designC m t cuts) := by unfold doorGhAns; rw [if_pos hp]; (try rfl)
    have e1 : (designC m t cuts != 0) = true := by simp [hp]
    rw [hfin]
    have Hp := Lib.hid (And.intro hp hfin); clear hp hfin
    generalize designC m t cuts = pc at *
    go_enter Tryz.func42, Tryz.ntmps42
    go_wp2_with fail
    rw [← hW1]
    refine hcode.mono ?_
    rintro e' w2 ⟨rfl, hb2⟩
    clear hc01 hh01
    go_wp2_with fail
    go_ret2
    exact ⟨rfl, hB01.trans (hb2.mono (by omega))⟩
end Go.Proofs.YtmfgdoflddhngaaGreat
