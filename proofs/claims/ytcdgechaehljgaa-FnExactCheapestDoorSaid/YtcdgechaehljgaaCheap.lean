/- The cheapest door of a design. No conditions. -/
import Derived.Test.YtcdgechaehljgaaWafersD
namespace Go.Proofs.Ytcdgechaehljgaa
open Go.RowKit
set_option linter.unusedVariables false
set_option linter.unusedSimpArgs false

theorem cells2_keep {a1 a2 o1 o2 : Nat} {v1 v2 : Value} {w0 w w' : World}
    (h : w.cell? ⟨a1, o1, none⟩ = some v1 ∧ w.cell? ⟨a2, o2, none⟩ = some v2 ∧ Below w0.heap.size w0 w) (hb : Below w.heap.size w w') :
    w'.cell? ⟨a1, o1, none⟩ = some v1 ∧ w'.cell? ⟨a2, o2, none⟩ = some v2 ∧ Below w0.heap.size w0 w' := by
  obtain ⟨h1, h2, h6⟩ := h
  exact ⟨cell_keep h1 (hb.block _ (lt_of_cell h1)), cell_keep h2 (hb.block _ (lt_of_cell h2)), h6.trans (hb.mono h6.size)⟩
theorem cells2_below {a1 a2 o1 o2 : Nat} {v1 v2 : Value} {w0 w : World}
    (h : w.cell? ⟨a1, o1, none⟩ = some v1 ∧ w.cell? ⟨a2, o2, none⟩ = some v2 ∧ Below w0.heap.size w0 w) : Below w0.heap.size w0 w := h.2.2

def cheapAns (m : Mk) (t cuts : List (List Int)) : Int × Int :=
  if designC m t cuts ≠ 0 then (0, designC m t cuts) else (((bestTo (locksTo m.c.toNat t cuts (getl t 0).length) (getl t 0).length : Nat) : Int), 0)

set_option maxRecDepth 100000 in
set_option maxHeartbeats 1000000 in
theorem CheapestDoor_any {S S' : Nat → Prop} (m : Mk) (u v : Value) (t cuts : List (List Int)) (W : World) (h : V2 S W u t) (hc : V2 S' W v cuts) :
    Calls Try.prog 48 #[.agg #[.int .i64 m.c, .int .i64 m.d, .int .i64 m.s, .int .i64 m.e, .int .i64 m.l, u], v] W fun e' w' => e' = .returned (.tuple #[.int .i64 (cheapAns m t cuts).1, .int .i64 (cheapAns m t cuts).2]) ∧ Below W.heap.size W w' := by
  obtain ⟨a, c, rfl, hmx⟩ := h.form
  obtain ⟨a', c', rfl, hmx'⟩ := hc.form
  obtain ⟨W1, hW1, hB01, hz01, HZ01, hc01, hh01⟩ := box_facts W #[.int .i64 m.c, .int .i64 m.d, .int .i64 m.s, .int .i64 m.e, .int .i64 m.l, .slice a t.length c] 32
  have hV1 := (h.below hB01).any
  have hC1 := (hc.below hB01).any
  have hcode := designCode_any m _ _ t cuts W1 hV1 hC1
  by_cases hp : designC m t cuts = 0
  · rw [hp] at hcode
    have hf := (design_fits hp).1
    have hmc := mc_nat hf.ok
    have hdoors := hf.doors
    have hsm := locks_small hf hmc
    have hfin : cheapAns m t cuts = (((bestTo (locksTo m.c.toNat t cuts (getl t 0).length) (getl t 0).length : Nat) : Int), 0) := by unfold cheapAns; rw [if_neg (by rw [hp]; decide)]
    rw [hfin]
    obtain ⟨locks, hlocks⟩ : ∃ x, x = locksTo m.c.toNat t cuts (getl t 0).length := ⟨_, rfl⟩
    have hll : (getl t 0).length = locks.length := by rw [hlocks, locksTo_len]
    rw [← hlocks] at hsm
    rw [← hlocks, hll]
    rw [hll] at hsm hdoors
    have Hlocks := Lib.hid (And.intro hlocks hll); clear hlocks hll
    have Hsm := Lib.hid hsm; clear hsm
    have Hf := Lib.hid (And.intro hf hmc); clear hf hmc
    have Hcode := Lib.hid hcode; clear hcode
    have Hp := Lib.hid (And.intro hp hfin); clear hp hfin
    go_enter Try.func48, Try.ntmps48
    go_wp2_with fail
    rw [← hW1]
    refine Hcode.out.mono ?_
    rintro e' w2 ⟨rfl, hb2⟩
    have hx2 : ∀ o, w2.cell? ⟨W.heap.size, o, none⟩ = (#[.int .i64 m.c, .int .i64 m.d, .int .i64 m.s, .int .i64 m.e, .int .i64 m.l, .slice a t.length c] : Array Value)[o]? := fun o => by rw [(bcell hb2).1 _ _ hz01, hc01]
    have hz2 : W.heap.size < w2.heap.size := by have := hb2.size; omega
    clear hc01 hh01
    have HW1 := Lib.hid hW1; clear hW1
    go_wp2_with fail
    refine (partLocks_any m _ _ t cuts m.c.toNat _ Hf.out.1 Hf.out.2 (hV1.below hb2) (hC1.below hb2)).mono ?_
    rintro e' wL ⟨lv, rfl, hLk0, hbL⟩
    have hBL := hb2.trans (hbL.mono hb2.size)
    rw [← Hlocks.out.1] at hLk0
    have hLk := hLk0.any
    have hzL := hBL.size
    obtain ⟨la, lc, rfl, hlm⟩ := hLk.form
    clear hx2 hLk0
    go_wp2_with fail
    go_loopw [7, 9, 10, 22] (fun b _ _ i wr => ∃ k : Nat, k ≤ locks.length ∧ i = .int .i64 (k : Int) ∧ b = .int .i64 (bestTo locks k : Nat) ∧ Below wL.heap.size wL wr) (fun _ _ _ i _ => locks.length - (intOf i).toNat)
    case atStart => exact ⟨0, Nat.zero_le _, rfl, rfl, Below.refl _ _⟩
    case round =>
      obtain ⟨k, hk, rfl, rfl, hB⟩ := hrel
      have hzW := hB.size
      have hbl : bestTo locks k < locks.length := by
        by_cases e : k = 0
        · subst e; show 0 < _; omega
        · have := bestTo_lt locks k (by omega); omega
      by_cases hkk : k < locks.length
      · obtain ⟨b1, off1, a1, c1, rfl, _, hc1, hr1⟩ := (hLk.below hB).cell hkk
        obtain ⟨b2, off2, a2, c2, e2, _, hc2, hr2⟩ := (hLk.below hB).cell hbl
        simp only [Option.some.injEq, Addr.mk.injEq, and_true] at e2
        obtain ⟨rfl, rfl⟩ := e2
        have hsk := Hsm.out k hkk
        have hsb := Hsm.out (bestTo locks k) hbl
        have hxb := wafers_bd hsk
        have hyb := wafers_bd hsb
        have Hsk := Lib.hid (And.intro hsk hsb); clear hsk hsb
        obtain ⟨x, hx⟩ : ∃ x, wafers (getll locks k) = x := ⟨_, rfl⟩
        obtain ⟨y, hy⟩ : ∃ y, wafers (getll locks (bestTo locks k)) = y := ⟨_, rfl⟩
        have hst : bestTo locks (k + 1) = if x < y then k else bestTo locks k := by rw [bestTo, hx, hy]
        have Hx := Lib.hid (And.intro hx hy); clear hx hy hxb hyb
        have Hst := Lib.hid hst; clear hst
        obtain ⟨p, hp⟩ : ∃ p, bestTo locks k = p := ⟨_, rfl⟩
        rw [hp] at hbl hc2 hr2 ⊢
        have Hp2 := Lib.hid hp; clear hp
        obtain ⟨wA, hwA, hbA, hzA, HZA, hcA, _⟩ := box_facts wr #[.slice a1 (getll locks k).length c1] 87
        have hcA0 := hcA 0
        simp at hcA0
        have hc2A := cell_keep hc2 (hbA.block _ (lt_of_cell hc2))
        have hr1A := hr1.below hbA
        have hr2A := hr2.below hbA
        by_cases hlt : x < y
        all_goals
          first | (have hdl : decide (x < y) = true := decide_eq_true hlt) | (have hdl : decide (x < y) = false := decide_eq_false hlt)
          go_wp2_with fail
          rw [← hwA]
          have HwA := Lib.hid hwA; clear hwA
          clear hcA hc1 hr1 hr2 hc2
          go_region_held3 (fun w' => w'.cell? ⟨wr.heap.size, 0, none⟩ = some (.slice a1 (getll locks k).length c1) ∧ w'.cell? ⟨b1, off1 + p, none⟩ = some (.slice a2 (getll locks p).length c2) ∧ Below wA.heap.size wA w')
            (first | exact cells2_keep (by assumption) (by assumption) | exact ⟨hcA0, hc2A, (Below.refl _ _).drew⟩)
            (first | (go_at_call 99; (with_reducible refine (wafersOf_any _ (getll locks k) _ x Hx.out.1 (hr1A.below (cells2_below (by assumption))) Hsk.out.1).mono ?_); rintro e' w' ⟨rfl, hb⟩) | (go_at_call 99; (with_reducible refine (wafersOf_any _ (getll locks p) _ y (Hp2.out ▸ Hx.out.2) (hr2A.below (cells2_below (by assumption))) (Hp2.out ▸ Hsk.out.2)).mono ?_); rintro e' w' ⟨rfl, hb⟩))
          all_goals
            have hBw := cells2_below (w0 := wA) (by assumption)
            go_wp2_with fail
            go_roundw
            case rel => exact ⟨k + 1, by omega, by go_num, by rw [Hst.out, Hp2.out]; first | rw [if_pos hlt] | rw [if_neg (by omega)], (hB.trans ((hbA.trans (hBw.mono (by omega))).mono hzW))⟩
            case measure => simp [intOf]; omega
      · obtain rfl : k = locks.length := by omega
        go_wp2_with fail
        go_ret2
        exact ⟨rfl, hB01.trans ((hBL.trans (hB.mono hzL)).mono (by omega))⟩
  · have hfin : cheapAns m t cuts = (0, designC m t cuts) := by unfold cheapAns; rw [if_pos hp]
    have e1 : (designC m t cuts != 0) = true := by simp [hp]
    rw [hfin]
    have Hp := Lib.hid (And.intro hp hfin); clear hp hfin
    generalize designC m t cuts = pc at *
    go_enter Try.func48, Try.ntmps48
    go_wp2_with fail
    rw [← hW1]
    refine hcode.mono ?_
    rintro e' w2 ⟨rfl, hb2⟩
    clear hc01 hh01
    go_wp2_with fail
    go_ret2
    exact ⟨rfl, hB01.trans (hb2.mono (by omega))⟩
set_option maxRecDepth 100000 in
set_option maxHeartbeats 1000000 in
theorem CheapestDoorR_any {S S' : Nat → Prop} (m : Mk) (u v : Value) (t cuts : List (List Int)) (W : World) (h : V2 S W u t) (hc : V2 S' W v cuts) :
    Calls Try.prog 47 #[.agg #[.int .i64 m.c, .int .i64 m.d, .int .i64 m.s, .int .i64 m.e, .int .i64 m.l, u], v] W fun e' w' => e' = .returned (.tuple #[.int .i64 (cheapAns m t cuts).1, .int .i64 (cheapAns m t cuts).2]) ∧ Below W.heap.size W w' := by
  obtain ⟨a, c, rfl, hmx⟩ := h.form
  obtain ⟨a', c', rfl, hmx'⟩ := hc.form
  obtain ⟨W1, hW1, hB01, hz01, HZ01, hc01, hh01⟩ := box_facts W #[.int .i64 m.c, .int .i64 m.d, .int .i64 m.s, .int .i64 m.e, .int .i64 m.l, .slice a t.length c] 32
  have hV1 := (h.below hB01).any
  have hC1 := (hc.below hB01).any
  have hcode := l21Code_any m _ _ t cuts W1 hV1 hC1
  by_cases hp : designC m t cuts = 0
  · rw [hp] at hcode
    have hf := (design_fits hp).1
    have hmc := mc_nat hf.ok
    have hdoors := hf.doors
    have hsm := locks_small hf hmc
    have hfin : cheapAns m t cuts = (((bestTo (locksTo m.c.toNat t cuts (getl t 0).length) (getl t 0).length : Nat) : Int), 0) := by unfold cheapAns; rw [if_neg (by rw [hp]; decide)]
    rw [hfin]
    obtain ⟨locks, hlocks⟩ : ∃ x, x = locksTo m.c.toNat t cuts (getl t 0).length := ⟨_, rfl⟩
    have hll : (getl t 0).length = locks.length := by rw [hlocks, locksTo_len]
    rw [← hlocks] at hsm
    rw [← hlocks, hll]
    rw [hll] at hsm hdoors
    have Hlocks := Lib.hid (And.intro hlocks hll); clear hlocks hll
    have Hsm := Lib.hid hsm; clear hsm
    have Hf := Lib.hid (And.intro hf hmc); clear hf hmc
    have Hcode := Lib.hid hcode; clear hcode
    have Hp := Lib.hid (And.intro hp hfin); clear hp hfin
    go_enter Try.func47, Try.ntmps47
    go_wp2_with fail
    rw [← hW1]
    refine Hcode.out.mono ?_
    rintro e' w2 ⟨rfl, hb2⟩
    have hx2 : ∀ o, w2.cell? ⟨W.heap.size, o, none⟩ = (#[.int .i64 m.c, .int .i64 m.d, .int .i64 m.s, .int .i64 m.e, .int .i64 m.l, .slice a t.length c] : Array Value)[o]? := fun o => by rw [(bcell hb2).1 _ _ hz01, hc01]
    have hz2 : W.heap.size < w2.heap.size := by have := hb2.size; omega
    clear hc01 hh01
    have HW1 := Lib.hid hW1; clear hW1
    go_wp2_with fail
    refine (l15Locks_any m _ _ t cuts m.c.toNat _ Hf.out.1 Hf.out.2 (hV1.below hb2) (hC1.below hb2)).mono ?_
    rintro e' wL ⟨lv, rfl, hLk0, hbL⟩
    have hBL := hb2.trans (hbL.mono hb2.size)
    rw [← Hlocks.out.1] at hLk0
    have hLk := hLk0.any
    have hzL := hBL.size
    obtain ⟨la, lc, rfl, hlm⟩ := hLk.form
    clear hx2 hLk0
    go_wp2_with fail
    go_loopw [8, 9] (fun b i wr => ∃ k : Nat, 1 ≤ k ∧ k ≤ locks.length ∧ i = .int .i64 (k : Int) ∧ b = .int .i64 (bestTo locks k : Nat) ∧ Below wL.heap.size wL wr) (fun _ i _ => locks.length - (intOf i).toNat)
    case atStart => exact ⟨1, by omega, by omega, rfl, by rw [bestTo_one]; rfl, Below.refl _ _⟩
    case round =>
      obtain ⟨k, hk0, hk, rfl, rfl, hB⟩ := hrel
      have hzW := hB.size
      have hbl : bestTo locks k < locks.length := by
        have := bestTo_lt locks k (by omega); omega
      by_cases hkk : k < locks.length
      · obtain ⟨b1, off1, a1, c1, rfl, _, hc1, hr1⟩ := (hLk.below hB).cell hkk
        obtain ⟨b2, off2, a2, c2, e2, _, hc2, hr2⟩ := (hLk.below hB).cell hbl
        simp only [Option.some.injEq, Addr.mk.injEq, and_true] at e2
        obtain ⟨rfl, rfl⟩ := e2
        have hsk := Hsm.out k hkk
        have hsb := Hsm.out (bestTo locks k) hbl
        have hxb := wafers_bd hsk
        have hyb := wafers_bd hsb
        have Hsk := Lib.hid (And.intro hsk hsb); clear hsk hsb
        obtain ⟨x, hx⟩ : ∃ x, wafers (getll locks k) = x := ⟨_, rfl⟩
        obtain ⟨y, hy⟩ : ∃ y, wafers (getll locks (bestTo locks k)) = y := ⟨_, rfl⟩
        have hst : bestTo locks (k + 1) = if x < y then k else bestTo locks k := by rw [bestTo, hx, hy]
        have Hx := Lib.hid (And.intro hx hy); clear hx hy hxb hyb
        have Hst := Lib.hid hst; clear hst
        obtain ⟨p, hp⟩ : ∃ p, bestTo locks k = p := ⟨_, rfl⟩
        rw [hp] at hbl hc2 hr2 ⊢
        have Hp2 := Lib.hid hp; clear hp
        by_cases hlt : x < y
        all_goals
          first | (have hdl : decide (x < y) = true := decide_eq_true hlt) | (have hdl : decide (x < y) = false := decide_eq_false hlt)
          go_wp2_with fail
          go_region_held3 (fun w' => w'.cell? ⟨b1, off1 + k, none⟩ = some (.slice a1 (getll locks k).length c1) ∧ w'.cell? ⟨b1, off1 + p, none⟩ = some (.slice a2 (getll locks p).length c2) ∧ Below wr.heap.size wr w')
            (first | exact cells2_keep (by assumption) (by assumption) | exact ⟨hc1, hc2, (Below.refl _ _).drew⟩)
            (first | (go_at_call 96; (with_reducible refine (l04Wafers_any _ (getll locks k) _ x Hx.out.1 (hr1.below (cells2_below (by assumption))) Hsk.out.1).mono ?_); rintro e' w' ⟨rfl, hb⟩) | (go_at_call 96; (with_reducible refine (l04Wafers_any _ (getll locks p) _ y (Hp2.out ▸ Hx.out.2) (hr2.below (cells2_below (by assumption))) (Hp2.out ▸ Hsk.out.2)).mono ?_); rintro e' w' ⟨rfl, hb⟩))
          all_goals
            have hBw := cells2_below (w0 := wr) (by assumption)
            go_wp2_with fail
            go_roundw
            case rel => exact ⟨k + 1, by omega, by omega, by go_num, by rw [Hst.out, Hp2.out]; first | rw [if_pos hlt] | rw [if_neg (by omega)], hB.trans (hBw.mono hzW)⟩
            case measure => simp [intOf]; omega
      · obtain rfl : k = locks.length := by omega
        go_wp2_with fail
        go_ret2
        exact ⟨rfl, hB01.trans ((hBL.trans (hB.mono hzL)).mono (by omega))⟩
  · have hfin : cheapAns m t cuts = (0, designC m t cuts) := by unfold cheapAns; rw [if_pos hp]
    have e1 : (designC m t cuts != 0) = true := by simp [hp]
    rw [hfin]
    have Hp := Lib.hid (And.intro hp hfin); clear hp hfin
    generalize designC m t cuts = pc at *
    go_enter Try.func47, Try.ntmps47
    go_wp2_with fail
    rw [← hW1]
    refine hcode.mono ?_
    rintro e' w2 ⟨rfl, hb2⟩
    clear hc01 hh01
    go_wp2_with fail
    go_ret2
    exact ⟨rfl, hB01.trans (hb2.mono (by omega))⟩
end Go.Proofs.Ytcdgechaehljgaa
