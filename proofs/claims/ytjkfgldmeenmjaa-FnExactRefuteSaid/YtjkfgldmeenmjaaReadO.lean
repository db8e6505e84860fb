/- IsRefutation, ReadSteps and ShiftSteps: both answers. No conditions. -/
import Derived.Test.YtjkfgldmeenmjaaReadV
import Derived.Test.YtjkfgldmeenmjaaReadR
namespace Go.Proofs.Ytjkfgldmeenmjaa
open Go.RowKit
set_option linter.unusedVariables false
set_option linter.unusedSimpArgs false

def rdRes (m : Mk) (t : List (List Int)) (steps : List (Int × Int)) : RSt × Bool := readF m.c.toNat t (keysOf m) steps t.length [] (0, [])
theorem rdRes_ok (m : Mk) (t : List (List Int)) (steps : List (Int × Int)) : RdOk steps (rdRes m t steps).1 := readF_ok ⟨Nat.zero_le _, rfl⟩
def refAns (m : Mk) (t : List (List Int)) (steps : List (Int × Int)) : Bool :=
  if isSys m t = false then false else if 1200 < steps.length then false else (rdRes m t steps).2 && decide ((rdRes m t steps).1.1 = steps.length)
def readAns (m : Mk) (t : List (List Int)) (steps : List (Int × Int)) : Int × Int :=
  if isSys m t = false then (0, 1) else if 1200 < steps.length then (0, 3) else (((rdRes m t steps).1.1 : Int), 0)
theorem tab_rows {m : Mk} {t : List (List Int)} (h : isSys m t = true) : 1 ≤ t.length ∧ t.length ≤ 10 := (PartOk.nil h).fits.rows
def StartPost (m : Mk) (tv sv : Value) (steps : List (Int × Int)) (W : World) (r : RSt × Bool) (e : Ending) (w' : World) : Prop :=
  ∃ gv, e = .returned (.bool r.2) ∧ Rd m tv sv steps W.heap.size W.heap.size r.1 gv w' ∧ Below W.heap.size W w'
theorem refute_start {S S' : Nat → Prop} (m : Mk) (t : List (List Int)) (steps : List (Int × Int)) (hsys : isSys m t = true) (hsl : steps.length ≤ 1200) (tv sv : Value) (W : World) (ht : V2 S W tv t) (hs : VS S' W sv steps) :
    Calls Try.prog 69 #[.pointer (some ⟨W.heap.size, 0, none⟩), .slice none 0 0] (W.alloc (.cells #[.int .i64 m.c, .int .i64 m.d, .int .i64 m.s, .int .i64 m.e, .int .i64 m.l, tv, sv, .int .i64 0, .slice none 0 0] 91)) (StartPost m tv sv steps W (rdRes m t steps)) := by
  have hok := PartOk.nil hsys
  have hmk := Mk.ok_iff.1 hok.fits.ok
  have hrows := hok.fits.rows
  have hb : Below W.heap.size W (W.alloc (.cells #[.int .i64 m.c, .int .i64 m.d, .int .i64 m.s, .int .i64 m.e, .int .i64 m.l, tv, sv, .int .i64 0, .slice none 0 0] 91)) := (Below.refl _ _).alloc (Nat.le_refl _) _
  have hkp : Keep (fun _ => True) W (W.alloc (.cells #[.int .i64 m.c, .int .i64 m.d, .int .i64 m.s, .int .i64 m.e, .int .i64 m.l, tv, sv, .int .i64 0, .slice none 0 0] 91)) := fun b _ hb' => hb.block b hb'
  have hno : ∀ b, b < W.heap.size → ¬ RF W.heap.size (.slice none 0 0) b := fun b hb' h => by
    rcases h with h | h
    · omega
    · simp [Value.ownBlock] at h
  refine (refute_any m t m.c.toNat (by omega) steps hsl tv sv W.heap.size W.heap.size t.length [] (.slice none 0 0) (0, []) (.slice none 0 0) _ (by simp)
    ⟨⟨heap_alloc_self _ _, ⟨rfl, .inl ⟨rfl, rfl⟩⟩, by simp [Value.ownBlock], ⟨Nat.zero_le _, rfl⟩, by simp⟩, ht.any.mono (fun b _ hb' => hno b hb') hkp, (hs.mono (S' := fun _ => True) (fun _ _ _ => trivial) (fun _ _ _ => rfl)).mono (fun b _ hb' => hno b hb') hkp,
      ⟨none, 0, rfl, Nat.le_refl _, Nat.zero_le _, fun k hk => by simp at hk⟩, fun _ => .inl rfl, hok, by simp; omega⟩).mono ?_
  rintro e w' ⟨gv, rfl, h1, h2, h3⟩
  exact ⟨gv, rfl, h1, ((Chg.of_below (F := fun _ => False) hb).trans h2 (fun i hi => by
    rcases hi with h | h
    · right; omega
    · simp [Value.ownBlock] at h)).to_below (fun i hi => hi.elim) (Nat.le_refl _)⟩
theorem read_startR {S S' : Nat → Prop} (m : Mk) (t : List (List Int)) (steps : List (Int × Int)) (hsys : isSys m t = true) (hsl : steps.length ≤ 1200) (tv sv : Value) (W : World) (ht : V2 S W tv t) (hs : VS S' W sv steps) :
    Calls Try.prog 67 #[.agg #[.int .i64 m.c, .int .i64 m.d, .int .i64 m.s, .int .i64 m.e, .int .i64 m.l, tv], .slice none 0 0, sv, .int .i64 0, .slice none 0 0] W fun e w' => e = .returned (.tuple #[.int .i64 ((rdRes m t steps).1.1 : Int), .bool (rdRes m t steps).2]) ∧ Below W.heap.size W w' := by
  have hok := PartOk.nil hsys
  have hmk := Mk.ok_iff.1 hok.fits.ok
  have hrows := hok.fits.rows
  refine (l19Read_any m t m.c.toNat (by omega) steps hsl tv sv (.slice none 0 0) (fun _ => False) t.length [] (.slice none 0 0) (0, []) W (by simp)
    ⟨.inl ⟨rfl, fun _ h => h⟩, ⟨Nat.zero_le _, rfl⟩, ht.mono (fun _ _ _ h => h) (fun _ _ _ => rfl), hs.mono (fun _ _ _ h => h) (fun _ _ _ => rfl), ⟨none, 0, rfl, Nat.le_refl _, Nat.zero_le _, fun k hk => by simp at hk⟩, fun _ => .inl rfl, hok, by simp; omega⟩).mono ?_
  rintro e w' ⟨rfl, _, h2⟩
  exact ⟨rfl, h2.to_below (fun i hi => hi.elim) (Nat.le_refl _)⟩
set_option maxRecDepth 100000 in
set_option maxHeartbeats 1000000 in
theorem IsRefutation_any {S S' : Nat → Prop} (m : Mk) (u v : Value) (t : List (List Int)) (steps : List (Int × Int)) (W : World) (h : V2 S W u t) (hs : VS S' W v steps) :
    Calls Try.prog 35 #[.agg #[.int .i64 m.c, .int .i64 m.d, .int .i64 m.s, .int .i64 m.e, .int .i64 m.l, u], v] W fun e' w' => e' = .returned (.bool (refAns m t steps)) ∧ Below W.heap.size W w' := by
  obtain ⟨a, c, rfl, hmx⟩ := h.form
  obtain ⟨a', c', rfl, hmx'⟩ := hs.form
  obtain ⟨W1, hW1, hB01, hz01, HZ01, hc01, hh01⟩ := box_facts W #[.int .i64 m.c, .int .i64 m.d, .int .i64 m.s, .int .i64 m.e, .int .i64 m.l, .slice a t.length c] 34
  have hV1 : V2 (fun _ => True) W1 (.slice a t.length c) t := (h.below hB01).mono (fun _ _ _ => trivial) (fun _ _ _ => rfl)
  have hS1 : VS (fun _ => True) W1 (.slice a' steps.length c') steps := (hs.below hB01).mono (fun _ _ _ => trivial) (fun _ _ _ => rfl)
  cases hy : isSys m t
  · have hfin : refAns m t steps = false := by unfold refAns; rw [if_pos hy]
    rw [hfin]
    have H := Lib.hid (And.intro hy hfin); clear hy hfin
    go_enter Try.func35, Try.ntmps35
    go_wp2_with fail
    rw [← hW1]
    refine (isSystem_b m _ t _ _ H.out.1 hV1).mono ?_
    rintro e' w2 ⟨rfl, hb2⟩
    clear hc01 hh01
    go_wp2_with fail
    go_ret
    exact ⟨rfl, hB01.trans (hb2.mono (by omega))⟩
  · by_cases hl : 1200 < steps.length
    · have hfin : refAns m t steps = false := by unfold refAns; rw [if_neg (by rw [hy]; decide), if_pos hl]
      rw [hfin]
      have hli : (1200 : Int) < (steps.length : Int) := by omega
      have H := Lib.hid (And.intro hy hfin); clear hy hfin
      go_enter Try.func35, Try.ntmps35
      go_wp2_with fail
      rw [← hW1]
      refine (isSystem_b m _ t _ _ H.out.1 hV1).mono ?_
      rintro e' w2 ⟨rfl, hb2⟩
      clear hc01 hh01
      go_wp2_with fail
      go_ret
      exact ⟨rfl, hB01.trans (hb2.mono (by omega))⟩
    · have hfin : refAns m t steps = ((rdRes m t steps).2 && decide ((rdRes m t steps).1.1 = steps.length)) := by unfold refAns; rw [if_neg (by rw [hy]; decide), if_neg hl]
      rw [hfin]
      have hli : ¬ (1200 : Int) < (steps.length : Int) := by omega
      have hst := fun w (hb : Below W1.heap.size W1 w) => refute_start m t steps hy (by omega) (.slice a t.length c) (.slice a' steps.length c') w (hV1.below hb) (hS1.below hb)
      obtain ⟨rr, hrr⟩ : ∃ r, rdRes m t steps = r := ⟨_, rfl⟩
      simp only [hrr] at hst ⊢
      obtain ⟨⟨rd, gs⟩, rb⟩ := rr
      have Hst := Lib.hid (And.intro hst hrr); clear hst hrr
      obtain ⟨q, hq⟩ : ∃ q, ((rd : Int) == (steps.length : Int)) = q := ⟨_, rfl⟩
      have hq2 : decide (rd = steps.length) = q := by rw [← hq, Bool.eq_iff_iff, beq_iff_eq, decide_eq_true_iff]; omega
      simp only [hq2]
      clear hq2
      have H := Lib.hid (And.intro hy hfin); clear hfin
      go_enter Try.func35, Try.ntmps35
      go_wp2_with fail
      rw [← hW1]
      refine (isSystem_b m _ t _ _ H.out.1 hV1).mono ?_
      rintro e' w2 ⟨rfl, hb2⟩
      have hx2 : ∀ o, w2.cell? ⟨W.heap.size, o, none⟩ = (#[.int .i64 m.c, .int .i64 m.d, .int .i64 m.s, .int .i64 m.e, .int .i64 m.l, .slice a t.length c] : Array Value)[o]? := fun o => by rw [(bcell hb2).1 _ _ hz01, hc01]
      have hz2 := hb2.size
      clear hc01 hh01
      have HW1 := Lib.hid hW1; clear hW1
      go_wp2_with fail
      refine (Hst.out.1 _ hb2).mono ?_
      rintro e' w3 ⟨gv, rfl, hR, hb3⟩
      have hr3 := hR.cell
      have c7 : w3.cell? ⟨w2.heap.size, 7, none⟩ = some (.int .i64 (rd : Int)) := by rw [hr3]; rfl
      have hB3 := hB01.trans ((hb2.trans (hb3.mono hz2)).mono (by omega))
      have HB3 := Lib.hid (And.intro hB3 hR); clear hB3 hR hr3 hx2
      cases rb <;> cases q
      all_goals
        go_wp2_with fail
        go_ret
        exact ⟨rfl, HB3.out.1⟩
set_option maxRecDepth 100000 in
set_option maxHeartbeats 1000000 in
theorem IsRefutationR_any {S S' : Nat → Prop} (m : Mk) (u v : Value) (t : List (List Int)) (steps : List (Int × Int)) (W : World) (h : V2 S W u t) (hs : VS S' W v steps) :
    Calls Try.prog 33 #[.agg #[.int .i64 m.c, .int .i64 m.d, .int .i64 m.s, .int .i64 m.e, .int .i64 m.l, u], v] W fun e' w' => e' = .returned (.bool (refAns m t steps)) ∧ Below W.heap.size W w' := by
  obtain ⟨a, c, rfl, hmx⟩ := h.form
  obtain ⟨a', c', rfl, hmx'⟩ := hs.form
  obtain ⟨W1, hW1, hB01, hz01, HZ01, hc01, hh01⟩ := box_facts W #[.int .i64 m.c, .int .i64 m.d, .int .i64 m.s, .int .i64 m.e, .int .i64 m.l, .slice a t.length c] 34
  have hV1 : V2 (fun _ => True) W1 (.slice a t.length c) t := (h.below hB01).mono (fun _ _ _ => trivial) (fun _ _ _ => rfl)
  have hS1 : VS (fun _ => True) W1 (.slice a' steps.length c') steps := (hs.below hB01).mono (fun _ _ _ => trivial) (fun _ _ _ => rfl)
  cases hy : isSys m t
  · have hfin : refAns m t steps = false := by unfold refAns; rw [if_pos hy]
    rw [hfin]
    have H := Lib.hid (And.intro hy hfin); clear hy hfin
    go_enter Try.func33, Try.ntmps33
    go_wp2_with fail
    rw [← hW1]
    refine (isSystemR_b m _ t _ _ H.out.1 hV1).mono ?_
    rintro e' w2 ⟨rfl, hb2⟩
    clear hc01 hh01
    go_wp2_with fail
    go_ret
    exact ⟨rfl, hB01.trans (hb2.mono (by omega))⟩
  · by_cases hl : 1200 < steps.length
    · have hfin : refAns m t steps = false := by unfold refAns; rw [if_neg (by rw [hy]; decide), if_pos hl]
      rw [hfin]
      have hli : (1200 : Int) < (steps.length : Int) := by omega
      have H := Lib.hid (And.intro hy hfin); clear hy hfin
      go_enter Try.func33, Try.ntmps33
      go_wp2_with fail
      rw [← hW1]
      refine (isSystemR_b m _ t _ _ H.out.1 hV1).mono ?_
      rintro e' w2 ⟨rfl, hb2⟩
      clear hc01 hh01
      go_wp2_with fail
      go_ret
      exact ⟨rfl, hB01.trans (hb2.mono (by omega))⟩
    · have hfin : refAns m t steps = ((rdRes m t steps).2 && decide ((rdRes m t steps).1.1 = steps.length)) := by unfold refAns; rw [if_neg (by rw [hy]; decide), if_neg hl]
      rw [hfin]
      have hli : ¬ (1200 : Int) < (steps.length : Int) := by omega
      have hst := fun w (hb : Below W1.heap.size W1 w) => read_startR m t steps hy (by omega) (.slice a t.length c) (.slice a' steps.length c') w (hV1.below hb) (hS1.below hb)
      obtain ⟨rr, hrr⟩ : ∃ r, rdRes m t steps = r := ⟨_, rfl⟩
      simp only [hrr] at hst ⊢
      obtain ⟨⟨rd, gs⟩, rb⟩ := rr
      have Hst := Lib.hid (And.intro hst hrr); clear hst hrr
      obtain ⟨q, hq⟩ : ∃ q, ((rd : Int) == (steps.length : Int)) = q := ⟨_, rfl⟩
      have hq2 : decide (rd = steps.length) = q := by rw [← hq, Bool.eq_iff_iff, beq_iff_eq, decide_eq_true_iff]; omega
      simp only [hq2]
      clear hq2
      have H := Lib.hid (And.intro hy hfin); clear hfin
      go_enter Try.func33, Try.ntmps33
      go_wp2_with fail
      rw [← hW1]
      refine (isSystemR_b m _ t _ _ H.out.1 hV1).mono ?_
      rintro e' w2 ⟨rfl, hb2⟩
      have hx2 : ∀ o, w2.cell? ⟨W.heap.size, o, none⟩ = (#[.int .i64 m.c, .int .i64 m.d, .int .i64 m.s, .int .i64 m.e, .int .i64 m.l, .slice a t.length c] : Array Value)[o]? := fun o => by rw [(bcell hb2).1 _ _ hz01, hc01]
      have hz2 := hb2.size
      clear hc01 hh01
      have HW1 := Lib.hid hW1; clear hW1
      go_wp2_with fail
      refine (Hst.out.1 _ hb2).mono ?_
      rintro e' w3 ⟨rfl, hb3⟩
      have hB3 := hB01.trans ((hb2.trans (hb3.mono hz2)).mono (by omega))
      have HB3 := Lib.hid hB3; clear hB3 hx2
      cases rb <;> cases q
      all_goals
        go_wp2_with fail
        go_ret
        exact ⟨rfl, HB3.out⟩
set_option maxRecDepth 100000 in
set_option maxHeartbeats 1000000 in
theorem ReadSteps_any {S S' : Nat → Prop} (m : Mk) (u v : Value) (t : List (List Int)) (steps : List (Int × Int)) (W : World) (h : V2 S W u t) (hs : VS S' W v steps) :
    Calls Try.prog 37 #[.agg #[.int .i64 m.c, .int .i64 m.d, .int .i64 m.s, .int .i64 m.e, .int .i64 m.l, u], v] W fun e' w' => e' = .returned (.tuple #[.int .i64 (readAns m t steps).1, .int .i64 (readAns m t steps).2]) ∧ Below W.heap.size W w' := by
  obtain ⟨a, c, rfl, hmx⟩ := h.form
  obtain ⟨a', c', rfl, hmx'⟩ := hs.form
  obtain ⟨W1, hW1, hB01, hz01, HZ01, hc01, hh01⟩ := box_facts W #[.int .i64 m.c, .int .i64 m.d, .int .i64 m.s, .int .i64 m.e, .int .i64 m.l, .slice a t.length c] 34
  have hV1 : V2 (fun _ => True) W1 (.slice a t.length c) t := (h.below hB01).mono (fun _ _ _ => trivial) (fun _ _ _ => rfl)
  have hS1 : VS (fun _ => True) W1 (.slice a' steps.length c') steps := (hs.below hB01).mono (fun _ _ _ => trivial) (fun _ _ _ => rfl)
  cases hy : isSys m t
  · have hfin : readAns m t steps = (0, 1) := by unfold readAns; rw [if_pos hy]
    rw [hfin]
    have H := Lib.hid (And.intro hy hfin); clear hy hfin
    go_enter Try.func37, Try.ntmps37
    go_wp2_with fail
    rw [← hW1]
    refine (isSystem_b m _ t _ _ H.out.1 hV1).mono ?_
    rintro e' w2 ⟨rfl, hb2⟩
    clear hc01 hh01
    go_wp2_with fail
    go_ret2
    exact ⟨rfl, hB01.trans (hb2.mono (by omega))⟩
  · by_cases hl : 1200 < steps.length
    · have hfin : readAns m t steps = (0, 3) := by unfold readAns; rw [if_neg (by rw [hy]; decide), if_pos hl]
      rw [hfin]
      have hli : (1200 : Int) < (steps.length : Int) := by omega
      have H := Lib.hid (And.intro hy hfin); clear hy hfin
      go_enter Try.func37, Try.ntmps37
      go_wp2_with fail
      rw [← hW1]
      refine (isSystem_b m _ t _ _ H.out.1 hV1).mono ?_
      rintro e' w2 ⟨rfl, hb2⟩
      clear hc01 hh01
      go_wp2_with fail
      go_ret2
      exact ⟨rfl, hB01.trans (hb2.mono (by omega))⟩
    · have hfin : readAns m t steps = (((rdRes m t steps).1.1 : Int), 0) := by unfold readAns; rw [if_neg (by rw [hy]; decide), if_neg hl]
      rw [hfin]
      have hli : ¬ (1200 : Int) < (steps.length : Int) := by omega
      have hst := fun w (hb : Below W1.heap.size W1 w) => refute_start m t steps hy (by omega) (.slice a t.length c) (.slice a' steps.length c') w (hV1.below hb) (hS1.below hb)
      obtain ⟨rr, hrr⟩ : ∃ r, rdRes m t steps = r := ⟨_, rfl⟩
      simp only [hrr] at hst ⊢
      obtain ⟨⟨rd, gs⟩, rb⟩ := rr
      have Hst := Lib.hid (And.intro hst hrr); clear hst hrr
      have H := Lib.hid (And.intro hy hfin); clear hfin
      go_enter Try.func37, Try.ntmps37
      go_wp2_with fail
      rw [← hW1]
      refine (isSystem_b m _ t _ _ H.out.1 hV1).mono ?_
      rintro e' w2 ⟨rfl, hb2⟩
      have hx2 : ∀ o, w2.cell? ⟨W.heap.size, o, none⟩ = (#[.int .i64 m.c, .int .i64 m.d, .int .i64 m.s, .int .i64 m.e, .int .i64 m.l, .slice a t.length c] : Array Value)[o]? := fun o => by rw [(bcell hb2).1 _ _ hz01, hc01]
      have hz2 := hb2.size
      clear hc01 hh01
      have HW1 := Lib.hid hW1; clear hW1
      go_wp2_with fail
      refine (Hst.out.1 _ hb2).mono ?_
      rintro e' w3 ⟨gv, rfl, hR, hb3⟩
      have hr3 := hR.cell
      have c7 : w3.cell? ⟨w2.heap.size, 7, none⟩ = some (.int .i64 (rd : Int)) := by rw [hr3]; rfl
      have hB3 := hB01.trans ((hb2.trans (hb3.mono hz2)).mono (by omega))
      have HB3 := Lib.hid (And.intro hB3 hR); clear hB3 hR hr3 hx2
      go_wp2_with fail
      go_ret2
      exact ⟨rfl, HB3.out.1⟩
set_option maxRecDepth 100000 in
set_option maxHeartbeats 1000000 in
theorem ReadStepsR_any {S S' : Nat → Prop} (m : Mk) (u v : Value) (t : List (List Int)) (steps : List (Int × Int)) (W : World) (h : V2 S W u t) (hs : VS S' W v steps) :
    Calls Try.prog 36 #[.agg #[.int .i64 m.c, .int .i64 m.d, .int .i64 m.s, .int .i64 m.e, .int .i64 m.l, u], v] W fun e' w' => e' = .returned (.tuple #[.int .i64 (readAns m t steps).1, .int .i64 (readAns m t steps).2]) ∧ Below W.heap.size W w' := by
  obtain ⟨a, c, rfl, hmx⟩ := h.form
  obtain ⟨a', c', rfl, hmx'⟩ := hs.form
  obtain ⟨W1, hW1, hB01, hz01, HZ01, hc01, hh01⟩ := box_facts W #[.int .i64 m.c, .int .i64 m.d, .int .i64 m.s, .int .i64 m.e, .int .i64 m.l, .slice a t.length c] 34
  have hV1 : V2 (fun _ => True) W1 (.slice a t.length c) t := (h.below hB01).mono (fun _ _ _ => trivial) (fun _ _ _ => rfl)
  have hS1 : VS (fun _ => True) W1 (.slice a' steps.length c') steps := (hs.below hB01).mono (fun _ _ _ => trivial) (fun _ _ _ => rfl)
  cases hy : isSys m t
  · have hfin : readAns m t steps = (0, 1) := by unfold readAns; rw [if_pos hy]
    rw [hfin]
    have H := Lib.hid (And.intro hy hfin); clear hy hfin
    go_enter Try.func36, Try.ntmps36
    go_wp2_with fail
    rw [← hW1]
    refine (isSystemR_b m _ t _ _ H.out.1 hV1).mono ?_
    rintro e' w2 ⟨rfl, hb2⟩
    clear hc01 hh01
    go_wp2_with fail
    go_ret2
    exact ⟨rfl, hB01.trans (hb2.mono (by omega))⟩
  · by_cases hl : 1200 < steps.length
    · have hfin : readAns m t steps = (0, 3) := by unfold readAns; rw [if_neg (by rw [hy]; decide), if_pos hl]
      rw [hfin]
      have hli : (1200 : Int) < (steps.length : Int) := by omega
      have H := Lib.hid (And.intro hy hfin); clear hy hfin
      go_enter Try.func36, Try.ntmps36
      go_wp2_with fail
      rw [← hW1]
      refine (isSystemR_b m _ t _ _ H.out.1 hV1).mono ?_
      rintro e' w2 ⟨rfl, hb2⟩
      clear hc01 hh01
      go_wp2_with fail
      go_ret2
      exact ⟨rfl, hB01.trans (hb2.mono (by omega))⟩
    · have hfin : readAns m t steps = (((rdRes m t steps).1.1 : Int), 0) := by unfold readAns; rw [if_neg (by rw [hy]; decide), if_neg hl]
      rw [hfin]
      have hli : ¬ (1200 : Int) < (steps.length : Int) := by omega
      have hst := fun w (hb : Below W1.heap.size W1 w) => read_startR m t steps hy (by omega) (.slice a t.length c) (.slice a' steps.length c') w (hV1.below hb) (hS1.below hb)
      obtain ⟨rr, hrr⟩ : ∃ r, rdRes m t steps = r := ⟨_, rfl⟩
      simp only [hrr] at hst ⊢
      obtain ⟨⟨rd, gs⟩, rb⟩ := rr
      have Hst := Lib.hid (And.intro hst hrr); clear hst hrr
      have H := Lib.hid (And.intro hy hfin); clear hfin
      go_enter Try.func36, Try.ntmps36
      go_wp2_with fail
      rw [← hW1]
      refine (isSystemR_b m _ t _ _ H.out.1 hV1).mono ?_
      rintro e' w2 ⟨rfl, hb2⟩
      have hx2 : ∀ o, w2.cell? ⟨W.heap.size, o, none⟩ = (#[.int .i64 m.c, .int .i64 m.d, .int .i64 m.s, .int .i64 m.e, .int .i64 m.l, .slice a t.length c] : Array Value)[o]? := fun o => by rw [(bcell hb2).1 _ _ hz01, hc01]
      have hz2 := hb2.size
      clear hc01 hh01
      have HW1 := Lib.hid hW1; clear hW1
      go_wp2_with fail
      refine (Hst.out.1 _ hb2).mono ?_
      rintro e' w3 ⟨rfl, hb3⟩
      have hB3 := hB01.trans ((hb2.trans (hb3.mono hz2)).mono (by omega))
      have HB3 := Lib.hid hB3; clear hB3 hx2
      go_wp2_with fail
      go_ret2
      exact ⟨rfl, HB3.out⟩
end Go.Proofs.Ytjkfgldmeenmjaa
