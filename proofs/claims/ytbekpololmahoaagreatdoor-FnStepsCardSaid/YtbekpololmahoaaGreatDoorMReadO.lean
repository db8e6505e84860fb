/- IsRefutation, ReadSteps and ShiftSteps: both answers. No conditions. -/
import Derived.Test.YtbekpololmahoaaGreatDoorMReadV
import Derived.Test.YtbekpololmahoaaGreatDoorMCount
namespace Go.Proofs.YtbekpololmahoaaGreatDoor
open Go.RowKit
set_option linter.unusedVariables false
set_option linter.unusedSimpArgs false
def rdRes (m : Mk) (t : List (List Int)) (steps : List (Int × Int)) : RSt × Bool := readF m.c.toNat t (keysOf m) steps t.length [] (0, [])
def refAns (m : Mk) (t : List (List Int)) (steps : List (Int × Int)) : Bool :=
 if isSys m t = false then false else if 1200 < steps.length then false else (rdRes m t steps).2 && decide ((rdRes m t steps).1.1 = steps.length)
def readAns (m : Mk) (t : List (List Int)) (steps : List (Int × Int)) : Int × Int :=
 if isSys m t = false then (0, 1) else if 1200 < steps.length then (0, 3) else (((rdRes m t steps).1.1 : Int), 0)
def StartPost (m : Mk) (tv sv : Value) (steps : List (Int × Int)) (W : World) (r : RSt × Bool) (e : Ending) (w' : World) : Prop :=
 ∃ gv, e = .returned (.bool r.2) ∧ Rd m tv sv steps W.heap.size W.heap.size r.1 gv w' ∧ Below W.heap.size W w'
theorem refute_start {S S' : Nat → Prop} (m : Mk) (t : List (List Int)) (steps : List (Int × Int)) (hsys : isSys m t = true) (hsl : steps.length ≤ 1200) (tv sv : Value) (W : World) (ht : V2 S W tv t) (hs : VS S' W sv steps) :
  Calls Tryz.prog 34 #[.pointer (some ⟨W.heap.size, 0, none⟩), .slice none 0 0] (W.alloc (.cells #[.int .i64 m.c, .int .i64 m.d, .int .i64 m.s, .int .i64 m.e, .int .i64 m.l, tv, sv, .int .i64 0, .slice none 0 0] 66)) (StartPost m tv sv steps W (rdRes m t steps)) := by
 have hok := PartOk.nil hsys
 have hmk := Mk.ok_iff.1 hok.fits.ok
 have hrows := hok.fits.rows
 have hb : Below W.heap.size W (W.alloc (.cells #[.int .i64 m.c, .int .i64 m.d, .int .i64 m.s, .int .i64 m.e, .int .i64 m.l, tv, sv, .int .i64 0, .slice none 0 0] 66)) := (Below.refl _ _).alloc (Nat.le_refl _) _
 have hkp : Keep (fun _ => True) W (W.alloc (.cells #[.int .i64 m.c, .int .i64 m.d, .int .i64 m.s, .int .i64 m.e, .int .i64 m.l, tv, sv, .int .i64 0, .slice none 0 0] 66)) := fun b _ hb' => hb.block b hb'
 have hno : ∀ b, b < W.heap.size → ¬ RF W.heap.size (.slice none 0 0) b := fun b hb' h => by
  rcases h with h | h
  ·omega
  ·simp [Value.ownBlock] at h
 refine (refute_any m t m.c.toNat (by omega) steps hsl tv sv W.heap.size W.heap.size t.length [] (.slice none 0 0) (0, []) (.slice none 0 0) _ (by simp)
  ⟨⟨heap_alloc_self _ _, ⟨rfl, .inl ⟨rfl, rfl⟩⟩, by simp [Value.ownBlock], ⟨Nat.zero_le _, rfl⟩, by simp⟩, ht.any.mono (fun b _ hb' => hno b hb') hkp, (hs.mono (S' := fun _ => True) (fun _ _ _ => trivial) (fun _ _ _ => rfl)).mono (fun b _ hb' => hno b hb') hkp,
    ⟨none, 0, rfl, Nat.le_refl _, Nat.zero_le _, fun k hk => by simp at hk⟩, fun _ => .inl rfl, hok, by simp; omega⟩).mono ?_
 rintro e w' ⟨gv, rfl, h1, h2, h3⟩
 exact ⟨gv, rfl, h1, ((Chg.of_below (F := fun _ => False) hb).trans h2 (fun i hi => by
  rcases hi with h | h
  ·right; omega
  ·simp [Value.ownBlock] at h)).to_below (fun i hi => hi.elim) (Nat.le_refl _)⟩
theorem read_startR {S S' : Nat → Prop} (m : Mk) (t : List (List Int)) (steps : List (Int × Int)) (hsys : isSys m t = true) (hsl : steps.length ≤ 1200) (tv sv : Value) (W : World) (ht : V2 S W tv t) (hs : VS S' W sv steps) :
  Calls Tryz.prog 36 #[.agg #[.int .i64 m.c, .int .i64 m.d, .int .i64 m.s, .int .i64 m.e, .int .i64 m.l, tv], .slice none 0 0, sv, .int .i64 0, .slice none 0 0] W fun e w' => e = .returned (.tuple #[.int .i64 ((rdRes m t steps).1.1 : Int), .bool (rdRes m t steps).2]) ∧ Below W.heap.size W w' := by
 have hok := PartOk.nil hsys
 have hmk := Mk.ok_iff.1 hok.fits.ok
 have hrows := hok.fits.rows
 refine (l19Read_any m t m.c.toNat (by omega) steps hsl tv sv (.slice none 0 0) (fun _ => False) t.length [] (.slice none 0 0) (0, []) W (by simp)
  ⟨.inl ⟨rfl, fun _ h => h⟩, ⟨Nat.zero_le _, rfl⟩, ht.mono (fun _ _ _ h => h) (fun _ _ _ => rfl), hs.mono (fun _ _ _ h => h) (fun _ _ _ => rfl), ⟨none, 0, rfl, Nat.le_refl _, Nat.zero_le _, fun k hk => by simp at hk⟩, fun _ => .inl rfl, hok, by simp; omega⟩).mono ?_
 rintro e w' ⟨rfl, _, h2⟩
 exact ⟨rfl, h2.to_below (fun i hi => hi.elim) (Nat.le_refl _)⟩
set_option maxRecDepth 100000 in
set_option maxHeartbeats 1000000 in
theorem IsRefutation_any {S S' : Nat → Prop} (m : Mk) (u v : Value) (t : List (List Int)) (steps : List (Int × Int)) (W : World) (h : V2 S W u t) (hs : VS S' W v steps) :
  Calls Tryz.prog 18 #[.agg #[.int .i64 m.c, .int .i64 m.d, .int .i64 m.s, .int .i64 m.e, .int .i64 m.l, u], v] W fun e' w' => e' = .returned (.bool (refAns m t steps)) ∧ Below W.heap.size W w' := by
 obtain ⟨a, c, rfl, hmx⟩ := h.form
 obtain ⟨a', c', rfl, hmx'⟩ := hs.form
 obtain ⟨W1, hW1, hB01, hz01, HZ01, hc01, hh01⟩ := box_facts W #[.int .i64 m.c, .int .i64 m.d, .int .i64 m.s, .int .i64 m.e, .int .i64 m.l, .slice a t.length c] 35
 have hV1 : V2 (fun _ => True) W1 (.slice a t.length c) t := (h.below hB01).mono (fun _ _ _ => trivial) (fun _ _ _ => rfl)
 have hS1 : VS (fun _ => True) W1 (.slice a' steps.length c') steps := (hs.below hB01).mono (fun _ _ _ => trivial) (fun _ _ _ => rfl)
 cases hy : isSys m t
 ·have hfin : refAns m t steps = false := by unfold refAns; rw [if_pos hy]
  rw [hfin]
  have H := Lib.hid (And.intro hy hfin); clear hy hfin
  go_enter Tryz.func18, Tryz.ntmps18
  go_wp2_with fail
  rw [← hW1]
  refine (isSystem_b m _ t _ _ H.out.1 hV1).mono ?_
  rintro e' w2 ⟨rfl, hb2⟩
  clear hc01 hh01
  go_wp2_with fail
  go_ret
  exact ⟨rfl, hB01.trans (hb2.mono (by omega))⟩
 ·by_cases hl : 1200 < steps.length
  ·have hfin : refAns m t steps = false := by unfold refAns; rw [if_neg (by rw [hy]; decide), if_pos hl]
   rw [hfin]
   have hli : (1200 : Int) < (steps.length : Int) := by omega
   have H := Lib.hid (And.intro hy hfin); clear hy hfin
   go_enter Tryz.func18, Tryz.ntmps18
   go_wp2_with fail
   rw [← hW1]
   refine (isSystem_b m _ t _ _ H.out.1 hV1).mono ?_
   rintro e' w2 ⟨rfl, hb2⟩
   clear hc01 hh01
   go_wp2_with fail
   go_ret
   exact ⟨rfl, hB01.trans (hb2.mono (by omega))⟩
  ·have hfin : refAns m t steps = ((rdRes m t steps).2 && decide ((rdRes m t steps).1.1 = steps.length)) := by unfold refAns; rw [if_neg (by rw [hy]; decide), if_neg hl]
   rw [hfin]
   have hli : ¬ (1200 : Int) < (steps.length : Int) := by omega
   have hst := fun w (hb : Below W1.heap.size W1 w) => refute_start m t steps hy (by omega) (.slice a t.length c) (.slice a' steps.length c') w (hV1.below hb) (hS1.below hb)
   obtain ⟨rr, hrr⟩ : ∃ r, rdRes m t steps = r := ⟨_, rfl⟩
   simp only [hrr] at hst ⊢
   obtain ⟨⟨rd, gs⟩, rb⟩ := rr
   have Hst := Lib.hid (And.intro hst hrr); clear hst hrr
   obtain ⟨q, hq⟩ : ∃ q, ((rd : Int) == (steps.length : Int)) = q := ⟨_, rfl⟩
   have hq2 : decide (rd = steps.length) = q := by rw [← hq, Bool.eq_iff_iff, beq_iff_eq, decide_eq_true_iff]; omega
   simp only [hq2]
   clear hq2
   have H := Lib.hid (And.intro hy hfin); clear hfin
   go_enter Tryz.func18, Tryz.ntmps18
   go_wp2_with fail
   rw [← hW1]
   refine (isSystem_b m _ t _ _ H.out.1 hV1).mono ?_
   rintro e' w2 ⟨rfl, hb2⟩
   have hx2 : ∀ o, w2.cell? ⟨W.heap.size, o, none⟩ = (#[.int .i64 m.c, .int .i64 m.d, .int .i64 m.s, .int .i64 m.e, .int .i64 m.l, .slice a t.length c] : Array Value)[o]? := fun o => by rw [(bcell hb2).1 _ _ hz01, hc01]
   have hz2 := hb2.size
   clear hc01 hh01
   have HW1 := Lib.hid hW1; clear hW1
   go_wp2_with fail
   refine (Hst.out.1 _ hb2).mono ?_
   rintro e' w3 ⟨gv, rfl, hR, hb3⟩
   have hr3 := hR.cell
   have c7 : w3.cell? ⟨w2.heap.size, 7, none⟩ = some (.int .i64 (rd : Int)) := by rw [hr3]; rfl
   have hB3 := hB01.trans ((hb2.trans (hb3.mono hz2)).mono (by omega))
   have HB3 := Lib.hid (And.intro hB3 hR); clear hB3 hR hr3 hx2
   cases rb <;> cases q
   all_goals
    go_wp2_with fail
    go_ret
    exact ⟨rfl, HB3.out.1⟩
set_option maxRecDepth 100000 in
set_option maxHeartbeats 1000000 in
theorem ReadSteps_any {S S' : Nat → Prop} (m : Mk) (u v : Value) (t : List (List Int)) (steps : List (Int × Int)) (W : World) (h : V2 S W u t) (hs : VS S' W v steps) :
  Calls Tryz.prog 12 #[.agg #[.int .i64 m.c, .int .i64 m.d, .int .i64 m.s, .int .i64 m.e, .int .i64 m.l, u], v] W fun e' w' => e' = .returned (.tuple #[.int .i64 (readAns m t steps).1, .int .i64 (readAns m t steps).2]) ∧ Below W.heap.size W w' := by
 obtain ⟨a, c, rfl, hmx⟩ := h.form
 obtain ⟨a', c', rfl, hmx'⟩ := hs.form
 obtain ⟨W1, hW1, hB01, hz01, HZ01, hc01, hh01⟩ := box_facts W #[.int .i64 m.c, .int .i64 m.d, .int .i64 m.s, .int .i64 m.e, .int .i64 m.l, .slice a t.length c] 35
 have hV1 : V2 (fun _ => True) W1 (.slice a t.length c) t := (h.below hB01).mono (fun _ _ _ => trivial) (fun _ _ _ => rfl)
 have hS1 : VS (fun _ => True) W1 (.slice a' steps.length c') steps := (hs.below hB01).mono (fun _ _ _ => trivial) (fun _ _ _ => rfl)
 cases hy : isSys m t
 ·have hfin : readAns m t steps = (0, 1) := by unfold readAns; rw [if_pos hy]
  rw [hfin]
  have H := Lib.hid (And.intro hy hfin); clear hy hfin
  go_enter Tryz.func12, Tryz.ntmps12
  go_wp2_with fail
  rw [← hW1]
  refine (isSystem_b m _ t _ _ H.out.1 hV1).mono ?_
  rintro e' w2 ⟨rfl, hb2⟩
  clear hc01 hh01
  go_wp2_with fail
  go_ret2
  exact ⟨rfl, hB01.trans (hb2.mono (by omega))⟩
 ·by_cases hl : 1200 < steps.length
  ·have hfin : readAns m t steps = (0, 3) := by unfold readAns; rw [if_neg (by rw [hy]; decide), if_pos hl]
   rw [hfin]
   have hli : (1200 : Int) < (steps.length : Int) := by omega
   have H := Lib.hid (And.intro hy hfin); clear hy hfin
   go_enter Tryz.func12, Tryz.ntmps12
   go_wp2_with fail
   rw [← hW1]
   refine (isSystem_b m _ t _ _ H.out.1 hV1).mono ?_
   rintro e' w2 ⟨rfl, hb2⟩
   clear hc01 hh01
   go_wp2_with fail
   go_ret2
   exact ⟨rfl, hB01.trans (hb2.mono (by omega))⟩
  ·have hfin : readAns m t steps = (((rdRes m t steps).1.1 : Int), 0) := by unfold readAns; rw [if_neg (by rw [hy]; decide), if_neg hl]
   rw [hfin]
   have hli : ¬ (1200 : Int) < (steps.length : Int) := by omega
   have hst := fun w (hb : Below W1.heap.size W1 w) => refute_start m t steps hy (by omega) (.slice a t.length c) (.slice a' steps.length c') w (hV1.below hb) (hS1.below hb)
   obtain ⟨rr, hrr⟩ : ∃ r, rdRes m t steps = r := ⟨_, rfl⟩
   simp only [hrr] at hst ⊢
   obtain ⟨⟨rd, gs⟩, rb⟩ := rr
   have Hst := Lib.hid (And.intro hst hrr); clear hst hrr
   have H := Lib.hid (And.intro hy hfin); clear hfin
   go_enter Tryz.func12, Tryz.ntmps12
   go_wp2_with fail
   rw [← hW1]
   refine (isSystem_b m _ t _ _ H.out.1 hV1).mono ?_
   rintro e' w2 ⟨rfl, hb2⟩
   have hx2 : ∀ o, w2.cell? ⟨W.heap.size, o, none⟩ = (#[.int .i64 m.c, .int .i64 m.d, .int .i64 m.s, .int .i64 m.e, .int .i64 m.l, .slice a t.length c] : Array Value)[o]? := fun o => by rw [(bcell hb2).1 _ _ hz01, hc01]
   have hz2 := hb2.size
   clear hc01 hh01
   have HW1 := Lib.hid hW1; clear hW1
   go_wp2_with fail
   refine (Hst.out.1 _ hb2).mono ?_
   rintro e' w3 ⟨gv, rfl, hR, hb3⟩
   have hr3 := hR.cell
   have c7 : w3.cell? ⟨w2.heap.size, 7, none⟩ = some (.int .i64 (rd : Int)) := by rw [hr3]; rfl
   have hB3 := hB01.trans ((hb2.trans (hb3.mono hz2)).mono (by omega))
   have HB3 := Lib.hid (And.intro hB3 hR); clear hB3 hR hr3 hx2
   go_wp2_with fail
   go_ret2
   exact ⟨rfl, HB3.out.1⟩
set_option maxRecDepth 100000 in
set_option maxHeartbeats 1000000 in
theorem ReadStepsR_any {S S' : Nat → Prop} (m : Mk) (u v : Value) (t : List (List Int)) (steps : List (Int × Int)) (W : World) (h : V2 S W u t) (hs : VS S' W v steps) :
  Calls Tryz.prog 13 #[.agg #[.int .i64 m.c, .int .i64 m.d, .int .i64 m.s, .int .i64 m.e, .int .i64 m.l, u], v] W fun e' w' => e' = .returned (.tuple #[.int .i64 (readAns m t steps).1, .int .i64 (readAns m t steps).2]) ∧ Below W.heap.size W w' := by
 obtain ⟨a, c, rfl, hmx⟩ := h.form
 obtain ⟨a', c', rfl, hmx'⟩ := hs.form
 obtain ⟨W1, hW1, hB01, hz01, HZ01, hc01, hh01⟩ := box_facts W #[.int .i64 m.c, .int .i64 m.d, .int .i64 m.s, .int .i64 m.e, .int .i64 m.l, .slice a t.length c] 35
 have hV1 : V2 (fun _ => True) W1 (.slice a t.length c) t := (h.below hB01).mono (fun _ _ _ => trivial) (fun _ _ _ => rfl)
 have hS1 : VS (fun _ => True) W1 (.slice a' steps.length c') steps := (hs.below hB01).mono (fun _ _ _ => trivial) (fun _ _ _ => rfl)
 cases hy : isSys m t
 ·have hfin : readAns m t steps = (0, 1) := by unfold readAns; rw [if_pos hy]
  rw [hfin]
  have H := Lib.hid (And.intro hy hfin); clear hy hfin
  go_enter Tryz.func13, Tryz.ntmps13
  go_wp2_with fail
  rw [← hW1]
  refine (isSystemR_b m _ t _ _ H.out.1 hV1).mono ?_
  rintro e' w2 ⟨rfl, hb2⟩
  clear hc01 hh01
  go_wp2_with fail
  go_ret2
  exact ⟨rfl, hB01.trans (hb2.mono (by omega))⟩
 ·by_cases hl : 1200 < steps.length
  ·have hfin : readAns m t steps = (0, 3) := by unfold readAns; rw [if_neg (by rw [hy]; decide), if_pos hl]
   rw [hfin]
   have hli : (1200 : Int) < (steps.length : Int) := by omega
   have H := Lib.hid (And.intro hy hfin); clear hy hfin
   go_enter Tryz.func13, Tryz.ntmps13
   go_wp2_with fail
   rw [← hW1]
   refine (isSystemR_b m _ t _ _ H.out.1 hV1).mono ?_
   rintro e' w2 ⟨rfl, hb2⟩
   clear hc01 hh01
   go_wp2_with fail
   go_ret2
   exact ⟨rfl, hB01.trans (hb2.mono (by omega))⟩
  ·have hfin : readAns m t steps = (((rdRes m t steps).1.1 : Int), 0) := by unfold readAns; rw [if_neg (by rw [hy]; decide), if_neg hl]
   rw [hfin]
   have hli : ¬ (1200 : Int) < (steps.length : Int) := by omega
   have hst := fun w (hb : Below W1.heap.size W1 w) => read_startR m t steps hy (by omega) (.slice a t.length c) (.slice a' steps.length c') w (hV1.below hb) (hS1.below hb)
   obtain ⟨rr, hrr⟩ : ∃ r, rdRes m t steps = r := ⟨_, rfl⟩
   simp only [hrr] at hst ⊢
   obtain ⟨⟨rd, gs⟩, rb⟩ := rr
   have Hst := Lib.hid (And.intro hst hrr); clear hst hrr
   have H := Lib.hid (And.intro hy hfin); clear hfin
   go_enter Tryz.func13, Tryz.ntmps13
   go_wp2_with fail
   rw [← hW1]
   refine (isSystemR_b m _ t _ _ H.out.1 hV1).mono ?_
   rintro e' w2 ⟨rfl, hb2⟩
   have hx2 : ∀ o, w2.cell? ⟨W.heap.size, o, none⟩ = (#[.int .i64 m.c, .int .i64 m.d, .int .i64 m.s, .int .i64 m.e, .int .i64 m.l, .slice a t.length c] : Array Value)[o]? := fun o => by rw [(bcell hb2).1 _ _ hz01, hc01]
   have hz2 := hb2.size
   clear hc01 hh01
   have HW1 := Lib.hid hW1; clear hW1
   go_wp2_with fail
   refine (Hst.out.1 _ hb2).mono ?_
   rintro e' w3 ⟨rfl, hb3⟩
   have hB3 := hB01.trans ((hb2.trans (hb3.mono hz2)).mono (by omega))
   have HB3 := Lib.hid hB3; clear hB3 hx2
   go_wp2_with fail
   go_ret2
   exact ⟨rfl, HB3.out⟩
theorem flatS_get {l : List (Int × Int)} : ∀ {k : Nat}, k < l.length → (flatS l)[k * 2]? = some (.int .i64 (gets l k).1) ∧ (flatS l)[k * 2 + 1]? = some (.int .i64 (gets l k).2) := by
 induction l with
 | nil => intro k h; simp at h
 | cons x l ih =>
   intro k h
   cases k with
   | zero => exact ⟨rfl, rfl⟩
   | succ k =>
     have h1 := ih (k := k) (by simpa using h)
     have e : flatS (x :: l) = .int .i64 x.1 :: .int .i64 x.2 :: flatS l := rfl
     rw [e, show (k + 1) * 2 = k * 2 + 1 + 1 from by omega]
     exact h1
theorem own_FS {w : World} {B : Nat} {v : Value} {l : List (Int × Int)} (h : w.ownsRow B 48 2 v l.length (flatS l)) : FS B w v l := by
 rcases h.2 with ⟨rfl, h0⟩ | ⟨g, cap, cur, rfl, h1, h2, h3, h4, h5, h6⟩
 ·have : l = [] := List.length_eq_zero_iff.1 h0
  subst this; exact FS.nil
 ·refine ⟨g, ⟨_, _, rfl, h3, h4, fun _ => ⟨0, cur, _, rfl, h2, fun k hk => ?_⟩⟩, fun _ => h1⟩
  have h7 := flatS_get hk
  rw [← h6, List.getElem?_take, List.getElem?_take, if_pos (by omega), if_pos (by omega), Array.getElem?_toList, Array.getElem?_toList] at h7
  rw [Nat.zero_add]; exact h7
theorem refAnsC {m : Mk} {t : List (List Int)} (hy : isSys m t = true) : refuteAns m t = if (rfF m.c.toNat t (keysOf m) t.length [] []).2 = 0 then ((rfF m.c.toNat t (keysOf m) t.length [] []).1, 0) else ([], (rfF m.c.toNat t (keysOf m) t.length [] []).2) := by unfold refuteAns; rw [if_neg (by rw [hy]; decide)]
def sfCells (m : Mk) (tv gv : Value) (c : Int) : Array Value := #[.int .i64 m.c, .int .i64 m.d, .int .i64 m.s, .int .i64 m.e, .int .i64 m.l, tv, gv, .int .i64 c]
structure Sf (m : Mk) (tv : Value) (RB B : Nat) (s : FSt) (gv : Value) (w : World) : Prop where
 hh : w.heap[RB]? = some (.cells (sfCells m tv gv s.2) 101 (0, 0))
 own : w.ownsRow B 48 2 gv s.1.length (flatS s.1)
 ne : gv.ownBlock ≠ some RB
 ok : RfOk s
 lo : B ≤ w.heap.size
section
variable {m : Mk} {tv gv : Value} {RB B : Nat} {s : FSt} {w w' : World}
theorem Sf.keep (h : Sf m tv RB B s gv w) (hz : w.heap.size ≤ w'.heap.size) (hk : ∀ b, RF RB gv b → w'.heap[b]? = w.heap[b]?) : Sf m tv RB B s gv w' := by
 refine ⟨by rw [hk RB (.inl rfl)]; exact h.hh, ⟨h.own.1, ?_⟩, h.ne, h.ok, Nat.le_trans h.lo hz⟩
 rcases h.own.2 with h0 | ⟨g, cap, cur, rfl, h1, h2, h3⟩
 ·exact .inl h0
 ·exact .inr ⟨g, cap, cur, rfl, h1, by rw [hk g (.inr rfl)]; exact h2, h3⟩
theorem Sf.lt (h : Sf m tv RB B s gv w) {b : Nat} (hb : RF RB gv b) : b < w.heap.size := by
 rcases hb with rfl | hb
 ·exact lt_of_heap h.hh
 ·exact (h.own.lt _ hb).2
theorem Sf.below (h : Sf m tv RB B s gv w) (hb : Below w.heap.size w w') : Sf m tv RB B s gv w' := h.keep hb.size fun b hf => hb.block b (h.lt hf)
theorem Sf.cell (h : Sf m tv RB B s gv w) (o : Nat) : w.cell? ⟨RB, o, none⟩ = (sfCells m tv gv s.2)[o]? := by rw [cell_of_block h.hh]
end
/-- A step more. -/
theorem sf_push {m : Mk} {tv gv : Value} {RB B gg cap n : Nat} {l : List (Int × Int)} {x : Int × Int} {wy w8 wa : World}
  (h : Sf m tv RB B (l, 0) gv wy) (hn : l.length = n) (hl : l.length < 1200)
  (hown8 : w8.ownsRow B 48 2 (.slice (some ⟨gg, 0, none⟩) (n + 1) cap) (n + 1) (flatS l ++ [.int .i64 x.1, .int .i64 x.2])) (ha : Below wy.heap.size wy wa) (hg : wa.grownBy w8 gv.ownBlock) (hat : gv.ownBlock = some gg ∨ wy.heap.size ≤ gg) :
  Sf m tv RB B (l ++ [x], 0) (.slice (some ⟨gg, 0, none⟩) (n + 1) cap) (w8.setCell ⟨RB, 6, none⟩ (.slice (some ⟨gg, 0, none⟩) (n + 1) cap)) ∧
  Chg (RF RB gv) wy (w8.setCell ⟨RB, 6, none⟩ (.slice (some ⟨gg, 0, none⟩) (n + 1) cap)) ∧
  ∀ b, RF RB (.slice (some ⟨gg, 0, none⟩) (n + 1) cap) b → RF RB gv b ∨ wy.heap.size ≤ b := by
 subst hn
 have hRl := lt_of_heap h.hh
 have haz := ha.size
 have hgR : gg ≠ RB := by
  rcases hat with h1 | h1
  ·intro e; exact h.ne (e ▸ h1)
  ·omega
 have hh8 : w8.heap[RB]? = some (.cells (sfCells m tv gv 0) 101 (0, 0)) := (hg.block RB (by omega) (fun e => h.ne e.symm)).trans ((ha.block RB hRl).trans h.hh)
 refine ⟨⟨?_, ?_, ?_, ?_, ?_⟩, ?_, ?_⟩
 ·rw [heap_setCell_self hh8]; simp [sfCells]
 ·have h1 : w8.ownsRow B 48 2 (.slice (some ⟨gg, 0, none⟩) (l.length + 1) cap) (l ++ [x]).length (flatS (l ++ [x])) := by rw [flatS_snoc, List.length_append]; exact hown8
  exact own_chgz h1 ((Chg.refl (fun b => b = RB) _).setCell (p := ⟨RB, 6, none⟩) (.inl rfl) _) (fun g hg e => by
   simp only [Value.ownBlock, Option.some.injEq] at hg
   exact hgR (hg.trans e))
 ·intro e; simp only [Value.ownBlock, Option.some.injEq] at e; exact hgR e
 ·exact ⟨by show (l ++ [x]).length ≤ _; rw [List.length_append]; simp only [List.length_cons, List.length_nil]; omega, .inl rfl⟩
 ·have := hg.size; simp only [World.size_setCell]; have := h.lo; omega
 ·exact ((Chg.of_below ha).grown hg (fun k hk => .inl (.inr hk))).setCell (p := ⟨RB, 6, none⟩) (.inl (.inl rfl)) _
 ·rintro b (h1 | h1)
  ·exact .inl (.inl h1)
  ·simp only [Value.ownBlock, Option.some.injEq] at h1
   subst h1
   rcases hat with h2 | h2
   ·exact .inl (.inr h2)
   ·exact .inr h2
theorem sf_code {m : Mk} {tv gv : Value} {RB B : Nat} {l : List (Int × Int)} {w : World} {c : Int} (h : Sf m tv RB B (l, 0) gv w) (hc : c = 0 ∨ c = 3 ∨ c = 5) : Sf m tv RB B (l, c) gv (w.setCell ⟨RB, 7, none⟩ (.int .i64 c)) := by
 refine ⟨by rw [heap_setCell_self h.hh]; simp [sfCells], own_chgz h.own ((Chg.refl (fun b => b = RB) _).setCell (p := ⟨RB, 7, none⟩) (.inl rfl) _) (fun g hg e => h.ne (e ▸ hg)), h.ne, ⟨h.ok.1, hc⟩, by simpa using h.lo⟩
def SfPost (m : Mk) (tv : Value) (RB B : Nat) (gv : Value) (W : World) (s : FSt) (e : Ending) (w' : World) : Prop :=
 ∃ gv', e = .returned undef ∧ Sf m tv RB B s gv' w' ∧ Chg (RF RB gv) W w' ∧ ∀ b, RF RB gv' b → RF RB gv b ∨ W.heap.size ≤ b
structure SfAsk (m : Mk) (t : List (List Int)) (tv : Value) (RB B : Nat) (cuts : List (List Int)) (cv : Value) (l : List (Int × Int)) (gv : Value) (W : World) : Prop where
 sf : Sf m tv RB B (l, 0) gv W
 ht : V2 (fun b => ¬ RF RB gv b) W tv t
 hc : V2 (fun b => ¬ RF RB gv b) W cv cuts
 hp : cuts = [] → PV cv
 ok : PartOk m t cuts
 lt : cuts.length < t.length
def FromAny (m : Mk) (t : List (List Int)) (tv : Value) (RB B d n : Nat) : Prop :=
 ∀ (cuts : List (List Int)) (cv : Value) (l : List (Int × Int)) (gv : Value) (W : World), cuts.length + d = t.length → SfAsk m t tv RB B cuts cv l gv W →
   Calls Tryz.prog 67 #[.pointer (some ⟨RB, 0, none⟩), cv] W (SfPost m tv RB B gv W (rfF n t (keysOf m) d cuts l))
theorem runL_after {σ α : Type} {f : σ → α → σ × Bool} {s st : σ} {L1 L2 : List α} (h : runL f s L1 = (st, false)) : runL f s (L1 ++ L2) = (st, false) := by
 rw [runL_stop f (by rw [h]), h]
set_option maxRecDepth 100000 in
set_option maxHeartbeats 4000000 in
theorem l19From_any (m : Mk) (t : List (List Int)) (n : Nat) (hn : (n : Int) = m.c) (tv : Value) (RB B : Nat) : ∀ d, FromAny m t tv RB B d n := by
 obtain ⟨iS, hiS, hzS0, hzS1, hzS2⟩ := info_parts inf_step
 intro d
 induction d with
 | zero => intro cuts cv l gv W hcd ask; have := ask.lt; omega
 | succ d ih =>
   intro cuts cv l gv0 W hcd ask
   obtain ⟨hsf, ht, hc, hcp, hok, hlt⟩ := ask
   have hok' := hok.fits.ok
   have hmk := Mk.ok_iff.1 hok'
   have hc0 : 0 ≤ m.c := by omega
   obtain ⟨ta, tc, rfl, htm⟩ := ht.form
   obtain ⟨ca, cc, rfl, hcm⟩ := hc.form
   have hkey : ∀ k, k ∈ keysOf m → isKeyB m k = true ∧ (k.length : Int) = m.c ∧ ∀ i, i < k.length → 0 ≤ geti k i ∧ geti k i ≤ 7 := fun k hk => by
    have h0 := (mem_keysOf hc0).1 hk
    have h1 := isKey_iff.1 h0
    refine ⟨h0, by omega, fun i hi => ?_⟩
    have := h1.2.1 _ (geti_mem hi)
    omega
   have hfirst := l02First_any m hok' m.c.toNat (fun _ => False) (.slice none 0 0) []
   rw [genB_nil] at hfirst
   have hcc : ((m.c.toNat : Nat) : Int) = m.c := by omega
   obtain ⟨f, hf⟩ : ∃ f, f = rfStep n t (rfF n t (keysOf m) d) cuts := ⟨_, rfl⟩
   have hRl := lt_of_heap hsf.hh
   have hx0 : ∀ o, W.cell? ⟨RB, o, none⟩ = (#[.int .i64 m.c, .int .i64 m.d, .int .i64 m.s, .int .i64 m.e, .int .i64 m.l, .slice ta t.length tc, gv0, .int .i64 0] : Array Value)[o]? := fun o => by rw [hsf.cell]; rfl
   have htN := ht.mono (S' := fun b => ¬ RF RB gv0 b ∧ b < W.heap.size) (fun b h1 h2 => ⟨h1, h2⟩) (fun _ _ _ => rfl)
   have hcN := hc.mono (S' := fun b => ¬ RF RB gv0 b ∧ b < W.heap.size) (fun b h1 h2 => ⟨h1, h2⟩) (fun _ _ _ => rfl)
   have hll := hsf.ok.1
   have Hfirst := Lib.hid (And.intro hfirst hcc); clear hfirst hcc
   have Hkey := Lib.hid hkey; clear hkey
   have HA := Lib.hid (And.intro hsf (And.intro htN (And.intro hcN (And.intro hcp (And.intro hok (And.intro ih (And.intro hok' (And.intro hc0 hll)))))))); clear hsf htN hcN ht hc hcp hok ih hok' hc0 hmk
   go_enter Tryz.func67, Tryz.ntmps67
   go_wp2_with fail
   refine (Hfirst.out.1 _ ⟨none, 0, rfl, Nat.le_refl _, Nat.zero_le _, fun k hk => by simp at hk⟩ (fun _ => .inl rfl) (by have := Hfirst.out.2; simp; omega) (fun k hk => by simp at hk)).mono ?_
   rintro e' wF ⟨kv, rfl, hkv, hbF⟩
   have hkv0 : (nextAns (keysOf m)).2 = true → V1 (fun b => ¬ RF RB gv0 b) wF kv (nextAns (keysOf m)).1 := fun hh => (hkv hh).mono (fun b h1 h2 hf => by
    have := HA.out.1.lt hf
    rcases h1 with h1 | h1
    ·exact h1.elim
    ·omega) (fun _ _ _ => rfl)
   have hzF := hbF.size
   have HI := Lib.hid (And.intro hkv0 (And.intro (HA.out.1.below hbF) hbF)); clear hkv0 hkv hbF hx0
   go_wp2_with fail
   go_loopw [4, 5, 6, 7, 56, 80] (fun kv okv _ _ _ _ wr => ∃ (L1 L2 : List (List Int)) (st : FSt) (gv : Value), keysOf m = L1 ++ L2 ∧ runL f (l, 0) L1 = (st, decide (st.2 = 0)) ∧ okv = .bool (nextAns L2).2 ∧ ((nextAns L2).2 = true → V1 (fun b => ¬ RF RB gv b) wr kv (nextAns L2).1) ∧ Sf m (.slice ta t.length tc) RB B st gv wr ∧ Chg (RF RB gv0) W wr ∧ ∀ b, RF RB gv b → RF RB gv0 b ∨ W.heap.size ≤ b) (fun kv okv _ _ _ _ wr => toCome m wr kv okv)
   case atStart => exact ⟨[], keysOf m, (l, 0), gv0, rfl, rfl, rfl, HI.out.1, HI.out.2.1, Chg.of_below HI.out.2.2, fun b hb => .inl hb⟩
   case round =>
    obtain ⟨L1, L2, ⟨sl, sc⟩, gv, hL, hrun, hokv, hkv, hsf, hch, hsub⟩ := hrel
    have hzr := hch.size
    have hr := hsf.cell
    have c7 : wr.cell? ⟨RB, 7, none⟩ = some (.int .i64 sc) := by rw [hr]; rfl
    have hfin : ∀ st', runL f (l, 0) (L1 ++ L2) = (st', decide (st'.2 = 0)) → rfF n t (keysOf m) (d + 1) cuts l = st' := fun st' h => by
     show (runL (rfStep n t (rfF n t (keysOf m) d) cuts) (l, 0) (keysOf m)).1 = st'
     rw [← hf, hL, h]
    cases L2 with
    | nil =>
      rw [List.append_nil] at hfin
      have hokv' : _ = Value.bool false := hokv
      subst hokv'
      have hres := hfin _ hrun
      have HZ := Lib.hid (And.intro hres (And.intro hsf (And.intro hch hsub))); clear hres hsf hkv hch hrun hL hfin hr hsub
      go_wp2_with fail
      go_end0
      (try rw [HZ.out.1])
      exact ⟨gv, rfl, HZ.out.2.1, HZ.out.2.2.1, HZ.out.2.2.2⟩
    | cons k r =>
      have hokv' : _ = Value.bool true := hokv
      subst hokv'
      by_cases hsc : sc = 0
      ·subst hsc
       have hrun' : runL f (l, 0) L1 = ((sl, 0), true) := hrun
       have hk1 := hkv rfl
       have hk1' : V1 (fun b => ¬ RF RB gv b) wr _ k := hk1
       obtain ⟨hkk, hkc, hkr⟩ := Hkey.out k (by rw [hL]; simp)
       have hbeh := keys_behind HA.out.2.2.2.2.2.2.2.1 hL
       obtain ⟨ka, kc, rfl, hkm⟩ := hk1'.form
       obtain ⟨ga, gc, rfl, hg1, hg2⟩ := own_formz hsf.own
       have hx : ∀ o, wr.cell? ⟨RB, o, none⟩ = (#[.int .i64 m.c, .int .i64 m.d, .int .i64 m.s, .int .i64 m.e, .int .i64 m.l, .slice ta t.length tc, .slice ga sl.length gc, .int .i64 0] : Array Value)[o]? := fun o => by rw [hr]; rfl
       have hL' : keysOf m = (L1 ++ [k]) ++ r := by rw [hL]; simp
       have HK := Lib.hid (And.intro hk1' (And.intro hkc (And.intro hkr (And.intro hbeh hL')))); clear hkv hk1 hk1' hkc hkr hbeh hL'
       have HC := Lib.hid (And.intro hch hsub)
       have hok := HA.out.2.2.2.2.1
       have hsll := hsf.ok.1
       have fR := frozen_of_block hsf.hh 7
       clear hr
       by_cases hA : sl.length = 1200
       ·have e1 : ((sl.length : Int) == 1200) = true := by rw [beq_iff_eq]; omega
        have hst : f (sl, 0) k = ((sl, 3), false) := by rw [hf]; unfold rfStep; rw [if_pos hA]
        clear hrun hL
        have hres := hfin (sl, 3) (by rw [runL_stopat hrun' hst]; rfl)
        have HZ := Lib.hid (And.intro hres (And.intro hsf (And.intro hch hsub))); clear hres
        go_wp2_with fail
        go_end0
        (try rw [HZ.out.1])
        exact ⟨_, rfl, sf_code HZ.out.2.1 (by decide), HZ.out.2.2.1.setCell (p := ⟨RB, 7, none⟩) (.inl (.inl rfl)) _, HZ.out.2.2.2⟩
       ·have e1 : ((sl.length : Int) == 1200) = false := by rw [beq_eq_false_iff_ne]; omega
        have hcl : cuts.length ≤ 1000000 := by have := hok.fits.rows; omega
        have hkpr : Keep (fun b => ¬ RF RB gv0 b ∧ b < W.heap.size) W wr := HC.out.1.keep fun b hb => hb.1
        have htr := HA.out.2.1.mono (S' := fun b => ¬ RF RB gv0 b ∧ b < W.heap.size) (fun _ h _ => h) hkpr
        have hcr := HA.out.2.2.1.mono (S' := fun b => ¬ RF RB gv0 b ∧ b < W.heap.size) (fun _ h _ => h) hkpr
        have hfar : ∀ b, (¬ RF RB gv0 b ∧ b < W.heap.size) → ¬ RF RB (.slice ga sl.length gc) b := fun b hb h => by
         rcases HC.out.2 b h with h | h
         ·exact hb.1 h
         ·omega
        have Hrun := Lib.hid (And.intro hrun' hfin)
        have HS := Lib.hid (And.intro hsf (And.intro htr (And.intro hfar hA))); clear hsf htr hfar hA hrun hrun' hfin hch hsub hL
        go_wp2_with fail
        refine (l16With_any _ _ cuts k _ hcr HA.out.2.2.2.1 HK.out.1 hcl).mono ?_
        rintro e' w5 ⟨nv, nvs, rfl, hown, hrv, hb5⟩
        have hN := own_V2R hown hrv
        obtain ⟨na, nc, rfl, hnm⟩ := hN.form
        have hz5 := hb5.size
        have hRlr := lt_of_heap HS.out.1.hh
        have hx5 : ∀ o, w5.cell? ⟨RB, o, none⟩ = (#[.int .i64 m.c, .int .i64 m.d, .int .i64 m.s, .int .i64 m.e, .int .i64 m.l, .slice ta t.length tc, .slice ga sl.length gc, .int .i64 0] : Array Value)[o]? := fun o => by rw [(bcell hb5).1 _ _ hRlr, hx]
        have hnl : (cuts ++ [k]).length = cuts.length + 1 := by simp
        rw [hnl] at hN
        have hfal := l15False_any m (.slice ta t.length tc) (.slice na (cuts.length + 1) nc) t (cuts ++ [k]) n w5 (hok.more hlt hkk).fits hn (HS.out.2.1.below hb5) hN
        have hget := fun (hk : 0 < (falseL n t (cuts ++ [k])).length) => falseL_get hk
        have hstep : f (sl, 0) k = if 0 < (falseL n t (cuts ++ [k])).length then ((sl ++ [firstStep (falseL n t (cuts ++ [k]))], 0), true) else if cuts.length + 1 = t.length then ((sl, 5), false) else (rfF n t (keysOf m) d (cuts ++ [k]) (sl ++ [(-1, 0)]), decide ((rfF n t (keysOf m) d (cuts ++ [k]) (sl ++ [(-1, 0)])).2 = 0)) := by
         rw [hf]; unfold rfStep; rw [if_neg HS.out.2.2.2]
        obtain ⟨LL, hLL⟩ : ∃ L, falseL n t (cuts ++ [k]) = L := ⟨_, rfl⟩
        rw [hLL] at hfal hget hstep
        have HN := Lib.hid (And.intro hN (And.intro hb5 (And.intro hfal (And.intro hget hstep)))); clear hfal hget hstep hLL hN hb5 hnl hown hrv hcr hx
        go_wp2_with fail
        refine HN.out.2.2.1.mono ?_
        rintro e' w6 ⟨lv, rfl, hF6, hb6⟩
        obtain ⟨la, lc, rfl, hlm⟩ := hF6.v2.form
        have hb06 := HN.out.2.1.trans (hb6.mono hz5)
        have hz6 := hb06.size
        have hz56 := hb6.size
        have hsf6 := HS.out.1.below hb06
        have hr6 := hsf6.cell
        have hx6 : ∀ o, w6.cell? ⟨RB, o, none⟩ = (#[.int .i64 m.c, .int .i64 m.d, .int .i64 m.s, .int .i64 m.e, .int .i64 m.l, .slice ta t.length tc, .slice ga sl.length gc, .int .i64 0] : Array Value)[o]? := fun o => by rw [hr6]; rfl
        have fR6 := frozen_of_block hsf6.hh 6
        have fR7 := frozen_of_block hsf6.hh 7
        have H6 := Lib.hid (And.intro hb06 (And.intro hsf6 hb6)); clear hr6 hb06 hsf6 hb6 hx5
        have HF6 := Lib.hid hF6; clear hF6
        by_cases hLp : 0 < LL.length
        ·have hLi : (0 : Int) < (LL.length : Int) := by omega
         have hstep := HN.out.2.2.2.2
         rw [if_pos hLp] at hstep
         obtain ⟨fi, fd, _, _, hrow, _, _⟩ := HN.out.2.2.2.1 hLp
         obtain ⟨y, hy⟩ : ∃ y, firstStep LL = y := ⟨_, rfl⟩
         rw [hy] at hstep
         have hy1 : y = ((fi : Int), (fd : Int)) := by rw [← hy]; unfold firstStep; rw [hrow]; rfl
         obtain ⟨b4, off4, a4, c4, rfl, hS4, hc4, hr4⟩ := HF6.out.v2.cell hLp
         rw [hrow] at hc4 hr4
         obtain ⟨b5, off5, rfl, hS5, hc5⟩ := hr4.cell (k := 0) (by simp)
         obtain ⟨b6, off6, e6, _, hc6⟩ := hr4.cell (k := 1) (by simp)
         obtain ⟨rfl, rfl⟩ : b5 = b6 ∧ off5 = off6 := by simpa using e6
         have hb4l := lt_of_cell hc4
         have hb5l := lt_of_cell hc5
         simp only [geti, List.getD_cons_zero, List.getD_cons_succ, List.length_cons, List.length_nil, Nat.add_zero, Nat.zero_add] at hc4 hc5 hc6 hb4l hb5l
         have hye1 : ((fi : Int)) = y.1 := by rw [hy1]
         have hye2 : ((fd : Int)) = y.2 := by rw [hy1]
         rw [hye1] at hc5
         rw [hye2] at hc6
         clear hye1 hye2 hy1 hy hrow
         have Hst := Lib.hid hstep; clear hstep
         have hsf6 := H6.out.2.1
         have hneP := hsf6.ne
         have hlo6 := hsf6.lo
         have hown6 := hsf6.own
         have hl12 : sl.length < 1200 := by have := HS.out.2.2.2; omega
         have hgb4 : Value.ownBlock (.slice ga sl.length gc) ≠ some b4 := fun e => by have := HS.out.1.lt (.inr e); omega
         have hgb5 : Value.ownBlock (.slice ga sl.length gc) ≠ some b5 := fun e => by have := HS.out.1.lt (.inr e); omega
         have hb4P : b4 ≠ RB := fun e => by omega
         have hb5P : b5 ≠ RB := fun e => by omega
         have hRl6 : RB < w6.heap.size := by omega
         have hx6a : ∀ o1 o, (w6.alloc o1).cell? ⟨RB, o, none⟩ = (#[.int .i64 m.c, .int .i64 m.d, .int .i64 m.s, .int .i64 m.e, .int .i64 m.l, .slice ta t.length tc, .slice ga sl.length gc, .int .i64 0] : Array Value)[o]? := fun o1 o => by rw [(bcell ((Below.refl w6.heap.size w6).alloc (Nat.le_refl _) o1)).1 _ _ hRl6, hx6]
         have hS0 := And.intro hc4 (And.intro hc5 hc6)
         have hS1 := fun o => And.intro (cell_keep hc4 (Below.heap_alloc w6 o b4 hb4l)) (And.intro (cell_keep hc5 (Below.heap_alloc w6 o b5 hb5l)) (cell_keep hc6 (Below.heap_alloc w6 o b5 hb5l)))
         clear hr4 e6
         go_wp2_with fail
         refine wp_region_noPanic ?_
         refine wp_region_held_drew (S := fun w' => w'.cell? ⟨b4, off4, none⟩ = some (.slice (some ⟨b5, off5, none⟩) 2 c4) ∧ w'.cell? ⟨b5, off5, none⟩ = some (.int .i64 y.1) ∧ w'.cell? ⟨b5, off5 + 1, none⟩ = some (.int .i64 y.2)) (by kernel_rfl) hS0 (fun hHeld => ?_)
         (refine wpAnyH_take (i := 0) (v := .pointer (some ⟨RB, 0, none⟩)) rfl (by kernel_rfl) (by kernel_rfl) (by kernel_rfl) (fun _ _ _ h => h) (Or.inl ⟨by kernel_rfl, fun w hSw => by (try dsimp only at hSw); go_split_ands; go_simp⟩) (by assumption) ?_; simp only [Act.put, List.setIfInBounds_toArray, List.set_cons_zero, List.set_cons_succ])
         (refine wpAnyH_take (i := 1) (v := .pointer (some ⟨RB, 0, none⟩)) rfl (by kernel_rfl) (by kernel_rfl) (by kernel_rfl) (fun _ _ _ h => h) (Or.inl ⟨by kernel_rfl, fun w hSw => by (try dsimp only at hSw); go_split_ands; go_simp⟩) (by assumption) ?_; simp only [Act.put, List.setIfInBounds_toArray, List.set_cons_zero, List.set_cons_succ])
         (refine wpAnyH_take (i := 2) (v := .pointer (some ⟨RB, 0, none⟩)) rfl (by kernel_rfl) (by kernel_rfl) (by kernel_rfl) (fun _ _ _ h => h) (Or.inl ⟨by kernel_rfl, fun w hSw => by (try dsimp only at hSw); go_split_ands; go_simp⟩) (by assumption) ?_; simp only [Act.put, List.setIfInBounds_toArray, List.set_cons_zero, List.set_cons_succ])
         (refine wpAnyH_take (i := 3) (v := .pointer (some ⟨RB, 6, none⟩)) rfl (by kernel_rfl) (by kernel_rfl) (by kernel_rfl) (fun _ _ _ h => h) (Or.inl ⟨by kernel_rfl, fun w hSw => by (try dsimp only at hSw); go_split_ands; go_simp⟩) (by assumption) ?_; simp only [Act.put, List.setIfInBounds_toArray, List.set_cons_zero, List.set_cons_succ])
         (refine wpAnyH_take (i := 5) (v := .slice (some ⟨b4, off4, none⟩) LL.length lc) rfl (by kernel_rfl) (by kernel_rfl) (by kernel_rfl) (fun _ _ _ h => h) (Or.inl ⟨by kernel_rfl, fun w hSw => by (try dsimp only at hSw); go_split_ands; go_simp⟩) (by assumption) ?_; simp only [Act.put, List.setIfInBounds_toArray, List.set_cons_zero, List.set_cons_succ])
         (refine wpAnyH_take (i := 6) (v := .pointer (some ⟨b4, off4, none⟩)) rfl (by kernel_rfl) (by kernel_rfl) (by kernel_rfl) (fun _ _ _ h => h) (Or.inl ⟨by kernel_rfl, fun w hSw => by (try dsimp only at hSw); go_split_ands; go_simp⟩) (by assumption) ?_; simp only [Act.put, List.setIfInBounds_toArray, List.set_cons_zero, List.set_cons_succ])
         (refine wpAnyH_take (i := 7) (v := .slice (some ⟨b5, off5, none⟩) 2 c4) rfl (by kernel_rfl) (by kernel_rfl) (by kernel_rfl) (fun _ _ _ h => h) (Or.inl ⟨by kernel_rfl, fun w hSw => by (try dsimp only at hSw); go_split_ands; go_simp⟩) (by assumption) ?_; simp only [Act.put, List.setIfInBounds_toArray, List.set_cons_zero, List.set_cons_succ])
         (refine wpAnyH_take (i := 8) (v := .pointer (some ⟨b5, off5, none⟩)) rfl (by kernel_rfl) (by kernel_rfl) (by kernel_rfl) (fun _ _ _ h => h) (Or.inl ⟨by kernel_rfl, fun w hSw => by (try dsimp only at hSw); go_split_ands; go_simp⟩) (by assumption) ?_; simp only [Act.put, List.setIfInBounds_toArray, List.set_cons_zero, List.set_cons_succ])
         (refine wpAnyH_take (i := 9) (v := .int .i64 y.1) rfl (by kernel_rfl) (by kernel_rfl) (by kernel_rfl) (fun _ _ _ h => h) (Or.inl ⟨by kernel_rfl, fun w hSw => by (try dsimp only at hSw); go_split_ands; go_simp⟩) (by assumption) ?_; simp only [Act.put, List.setIfInBounds_toArray, List.set_cons_zero, List.set_cons_succ])
         (refine wpAnyH_take (i := 10) (v := .slice (some ⟨b4, off4, none⟩) LL.length lc) rfl (by kernel_rfl) (by kernel_rfl) (by kernel_rfl) (fun _ _ _ h => h) (Or.inl ⟨by kernel_rfl, fun w hSw => by (try dsimp only at hSw); go_split_ands; go_simp⟩) (by assumption) ?_; simp only [Act.put, List.setIfInBounds_toArray, List.set_cons_zero, List.set_cons_succ])
         (refine wpAnyH_take (i := 11) (v := .pointer (some ⟨b4, off4, none⟩)) rfl (by kernel_rfl) (by kernel_rfl) (by kernel_rfl) (fun _ _ _ h => h) (Or.inl ⟨by kernel_rfl, fun w hSw => by (try dsimp only at hSw); go_split_ands; go_simp⟩) (by assumption) ?_; simp only [Act.put, List.setIfInBounds_toArray, List.set_cons_zero, List.set_cons_succ])
         (refine wpAnyH_take (i := 12) (v := .slice (some ⟨b5, off5, none⟩) 2 c4) rfl (by kernel_rfl) (by kernel_rfl) (by kernel_rfl) (fun _ _ _ h => h) (Or.inl ⟨by kernel_rfl, fun w hSw => by (try dsimp only at hSw); go_split_ands; go_simp⟩) (by assumption) ?_; simp only [Act.put, List.setIfInBounds_toArray, List.set_cons_zero, List.set_cons_succ])
         (refine wpAnyH_take (i := 13) (v := .pointer (some ⟨b5, off5 + 1, none⟩)) rfl (by kernel_rfl) (by kernel_rfl) (by kernel_rfl) (fun _ _ _ h => h) (Or.inl ⟨by kernel_rfl, fun w hSw => by (try dsimp only at hSw); go_split_ands; go_simp⟩) (by assumption) ?_; simp only [Act.put, List.setIfInBounds_toArray, List.set_cons_zero, List.set_cons_succ])
         (refine wpAnyH_take (i := 14) (v := .int .i64 y.2) rfl (by kernel_rfl) (by kernel_rfl) (by kernel_rfl) (fun _ _ _ h => h) (Or.inl ⟨by kernel_rfl, fun w hSw => by (try dsimp only at hSw); go_split_ands; go_simp⟩) (by assumption) ?_; simp only [Act.put, List.setIfInBounds_toArray, List.set_cons_zero, List.set_cons_succ])
         (refine wpAnyH_take (i := 15) (v := .agg #[.int .i64 y.1, .int .i64 y.2]) rfl (by kernel_rfl) (by kernel_rfl) (by kernel_rfl) (fun _ _ _ h => h) (Or.inl ⟨by kernel_rfl, fun w hSw => by (try dsimp only at hSw); go_split_ands; go_simp⟩) (by assumption) ?_; simp only [Act.put, List.setIfInBounds_toArray, List.set_cons_zero, List.set_cons_succ])
         refine wpAnyH_ready (rs := [4, 16]) (by kernel_rfl) (by simp) (AllReadyH.cons rfl (fun K hK => ?_) (AllReadyH.cons rfl (fun K hK => ?_) AllReadyH.nil))
         ·go_simp
          (refine hK.out _ _ hS0 (fun hHeld => ?_); clear hK K; (try simp only [Act.put, List.setIfInBounds_toArray, List.set_cons_zero, List.set_cons_succ]))
          (refine wpAnyH_ready (rs := [16]) (by kernel_rfl) (by simp) (AllReadyH.cons rfl (fun K hK => ?_) AllReadyH.nil); go_simp)
          (refine hK.out _ _ (hS1 _) (fun hHeld => ?_); clear hK K; (try simp only [Act.put, List.setIfInBounds_toArray, List.set_cons_zero, List.set_cons_succ]))
          refine wpAnyH_ready (rs := [17]) (by kernel_rfl) (by simp) (AllReadyH.cons rfl (fun K hK => ?_) AllReadyH.nil)
          refine step_append_lies _ (by rfl) _ _ _ (by rfl) B 48 iS _ 2 16 Tryz.underlying24 hiS hzS0 hzS1 hzS2 rfl (by omega) _ sl.length _ (by rfl) (hown6.alloc _) ⟨_, 0, none⟩ 1 1 [.int .i64 y.1, .int .i64 y.2] (by rfl) (by rfl) (World.news_of_block (heap_alloc_new _ _)) (by simp [Value.oneCell']) (by omega) (by unfold maxLen; omega) (by omega) (by simp; omega) _ rfl ?_
          intro gg cap w8 hown8 hgrow8 hat8 hlt8
          have hh8 : w8.heap[RB]? = some (.cells (sfCells m (.slice ta t.length tc) (.slice ga sl.length gc) 0) 101 (0, 0)) := by rw [hgrow8.block RB (by simp; omega) (fun e => hneP e.symm)]; exact (Below.heap_alloc w6 _ RB hRl6).trans hsf6.hh
          have h88 : w8.cell? ⟨RB, 6, none⟩ = some (.slice ga sl.length gc) := by rw [cell_of_block hh8]; rfl
          have h8f := frozen_of_block hh8 6
          have hS8 := And.intro (cell_keep (hS1 _).1 (hgrow8.block b4 (by simp; omega) (fun e => hgb4 e.symm))) (And.intro (cell_keep (hS1 _).2.1 (hgrow8.block b5 (by simp; omega) (fun e => hgb5 e.symm))) (cell_keep (hS1 _).2.2 (hgrow8.block b5 (by simp; omega) (fun e => hgb5 e.symm))))
          (refine hK.out _ _ hS8 (fun hHeld => ?_); clear hK K; (try simp only [Act.put, List.setIfInBounds_toArray, List.set_cons_zero, List.set_cons_succ]))
          (refine wpAnyH_take (i := 18) (v := .pointer (some ⟨RB, 0, none⟩)) rfl (by kernel_rfl) (by kernel_rfl) (by kernel_rfl) (fun _ _ _ h => h) (Or.inl ⟨by kernel_rfl, fun w hSw => by (try dsimp only at hSw); go_split_ands; go_simp⟩) (by assumption) ?_; simp only [Act.put, List.setIfInBounds_toArray, List.set_cons_zero, List.set_cons_succ])
          (refine wpAnyH_take (i := 19) (v := .pointer (some ⟨RB, 6, none⟩)) rfl (by kernel_rfl) (by kernel_rfl) (by kernel_rfl) (fun _ _ _ h => h) (Or.inl ⟨by kernel_rfl, fun w hSw => by (try dsimp only at hSw); go_split_ands; go_simp⟩) (by assumption) ?_; simp only [Act.put, List.setIfInBounds_toArray, List.set_cons_zero, List.set_cons_succ])
          (refine wpAnyH_ready (rs := [20]) (by kernel_rfl) (by simp) (AllReadyH.cons rfl (fun K hK => ?_) AllReadyH.nil); go_simp)
          have hS9 := And.intro (cell_keep hS8.1 (heap_setCell_other (b := RB) (off := 6) (.slice (some ⟨gg, 0, none⟩) (sl.length + 1) cap) hb4P)) (And.intro (cell_keep hS8.2.1 (heap_setCell_other (b := RB) (off := 6) (.slice (some ⟨gg, 0, none⟩) (sl.length + 1) cap) hb5P)) (cell_keep hS8.2.2 (heap_setCell_other (b := RB) (off := 6) (.slice (some ⟨gg, 0, none⟩) (sl.length + 1) cap) hb5P)))
          (refine hK.out _ _ hS9 (fun hHeld => ?_); clear hK K; (try simp only [Act.put, List.setIfInBounds_toArray, List.set_cons_zero, List.set_cons_succ]))
          refine wpAnyH_done (by kernel_rfl) (NoPanic.normal ?_) _
          obtain ⟨hP1, hP2, hP3⟩ := sf_push (x := y) hsf6 rfl hl12 hown8 (((Below.refl _ w6).alloc (Nat.le_refl _) _).drew) hgrow8 (by rcases hat8 with h | h; exact .inl h; right; rw [h]; simp)
          obtain ⟨wz, hwz⟩ : ∃ wz, w8.setCell ⟨RB, 6, none⟩ (.slice (some ⟨gg, 0, none⟩) (sl.length + 1) cap) = wz := ⟨_, rfl⟩
          rw [hwz] at hP1 hP2 ⊢
          have hCz := (Chg.of_below H6.out.1).trans hP2 (fun i hi => .inl hi)
          have hSz : ∀ b, RF RB (.slice (some ⟨gg, 0, none⟩) (sl.length + 1) cap) b → RF RB (.slice ga sl.length gc) b ∨ wr.heap.size ≤ b := fun b hb => by
           rcases hP3 b hb with h | h
           ·exact .inl h
           ·right; omega
          have hrun' := Hrun.out.1
          have hst := Hst.out
          clear hP2 hP3 hown8 hgrow8 hat8 hlt8 hh8 h88 h8f hS8 hS9 hS0 hS1 hown6 hsf6 hx6 hx6a hwz
          have hkz : V1 (fun b => ¬ RF RB (.slice (some ⟨gg, 0, none⟩) (sl.length + 1) cap) b) wz (.slice ka k.length kc) k := HK.out.1.mono (fun b h1 h2 h3 => by
           rcases hSz b h3 with h | h
           ·exact h1 h
           ·omega) (hCz.keep fun b h => h)
          have hrz := hP1.cell
          have hxz : ∀ o, wz.cell? ⟨RB, o, none⟩ = (#[.int .i64 m.c, .int .i64 m.d, .int .i64 m.s, .int .i64 m.e, .int .i64 m.l, .slice ta t.length tc, (.slice (some ⟨gg, 0, none⟩) (sl.length + 1) cap), .int .i64 0] : Array Value)[o]? := fun o => by rw [hrz]; rfl
          have hzz := hCz.size
          have hrn : runL f (l, 0) (L1 ++ [k]) = ((sl ++ [y], 0), decide (((sl ++ [y], 0) : FSt).2 = 0)) := by rw [runL_go f (by rw [hrun']), hrun', runL_one, hst] <;> rfl
          have HZ := Lib.hid (And.intro hP1 (And.intro hCz (And.intro hSz hrn))); clear hrn hrz hP1 hCz hSz hst hrun'
          go_wp2_with fail
          refine (l02Next_any m HA.out.2.2.2.2.2.2.1 _ k _ hkz HK.out.2.1 HK.out.2.2.1).mono ?_
          rintro e' wM ⟨kv', he', hkv', hbM⟩
          rw [HK.out.2.2.2.1] at he' hkv'
          subst he'
          have hkv2 : (nextAns r).2 = true → V1 (fun b => ¬ RF RB (.slice (some ⟨gg, 0, none⟩) (sl.length + 1) cap) b) wM kv' (nextAns r).1 := fun hh => (hkv' hh).mono (fun b h1 h2 hf => by
           have := HZ.out.1.lt hf
           rcases h1 with h1 | h1
           ·exact h1.elim
           ·omega) (fun _ _ _ => rfl)
          have HM := Lib.hid (And.intro hkv2 (And.intro (toCome_nextR HA.out.2.2.2.2.2.2.2.1 hkv2 HK.out.2.2.2.2) (toCome_more (m := m) HK.out.1))); clear hkv' hkv2 hxz
          obtain ⟨qb, hqb⟩ : ∃ qb, (nextAns r).2 = qb := ⟨_, rfl⟩
          rw [hqb]
          have Hqb := Lib.hid hqb; clear hqb
          go_wp2_with fail
          go_roundw
          case rel => exact ⟨L1 ++ [k], r, (sl ++ [y], 0), (.slice (some ⟨gg, 0, none⟩) (sl.length + 1) cap), HK.out.2.2.2.2, HZ.out.2.2.2, by rw [Hqb.out], HM.out.1, HZ.out.1.below hbM, (HC.out.1.trans HZ.out.2.1 (fun i hi => HC.out.2 i hi)).then_below hbM, fun b hb => by
           rcases HZ.out.2.2.1 b hb with h | h
           ·exact HC.out.2 b h
           ·right; omega⟩
          case measure => rw [HM.out.2.2, HK.out.2.2.2.1]; have := HM.out.2.1; rw [Hqb.out] at this; omega
         ·go_simp
          (refine hK.out _ _ (hS1 _) (fun hHeld => ?_); clear hK K; (try simp only [Act.put, List.setIfInBounds_toArray, List.set_cons_zero, List.set_cons_succ]))
          (refine wpAnyH_ready (rs := [4]) (by kernel_rfl) (by simp) (AllReadyH.cons rfl (fun K hK => ?_) AllReadyH.nil); go_simp)
          (refine hK.out _ _ (hS1 _) (fun hHeld => ?_); clear hK K; (try simp only [Act.put, List.setIfInBounds_toArray, List.set_cons_zero, List.set_cons_succ]))
          refine wpAnyH_ready (rs := [17]) (by kernel_rfl) (by simp) (AllReadyH.cons rfl (fun K hK => ?_) AllReadyH.nil)
          refine step_append_lies _ (by rfl) _ _ _ (by rfl) B 48 iS _ 2 16 Tryz.underlying24 hiS hzS0 hzS1 hzS2 rfl (by omega) _ sl.length _ (by rfl) (hown6.alloc _) ⟨_, 0, none⟩ 1 1 [.int .i64 y.1, .int .i64 y.2] (by rfl) (by rfl) (World.news_of_block (heap_alloc_new _ _)) (by simp [Value.oneCell']) (by omega) (by unfold maxLen; omega) (by omega) (by simp; omega) _ rfl ?_
          intro gg cap w8 hown8 hgrow8 hat8 hlt8
          have hh8 : w8.heap[RB]? = some (.cells (sfCells m (.slice ta t.length tc) (.slice ga sl.length gc) 0) 101 (0, 0)) := by rw [hgrow8.block RB (by simp; omega) (fun e => hneP e.symm)]; exact (Below.heap_alloc w6 _ RB hRl6).trans hsf6.hh
          have h88 : w8.cell? ⟨RB, 6, none⟩ = some (.slice ga sl.length gc) := by rw [cell_of_block hh8]; rfl
          have h8f := frozen_of_block hh8 6
          have hS8 := And.intro (cell_keep (hS1 _).1 (hgrow8.block b4 (by simp; omega) (fun e => hgb4 e.symm))) (And.intro (cell_keep (hS1 _).2.1 (hgrow8.block b5 (by simp; omega) (fun e => hgb5 e.symm))) (cell_keep (hS1 _).2.2 (hgrow8.block b5 (by simp; omega) (fun e => hgb5 e.symm))))
          (refine hK.out _ _ hS8 (fun hHeld => ?_); clear hK K; (try simp only [Act.put, List.setIfInBounds_toArray, List.set_cons_zero, List.set_cons_succ]))
          (refine wpAnyH_take (i := 18) (v := .pointer (some ⟨RB, 0, none⟩)) rfl (by kernel_rfl) (by kernel_rfl) (by kernel_rfl) (fun _ _ _ h => h) (Or.inl ⟨by kernel_rfl, fun w hSw => by (try dsimp only at hSw); go_split_ands; go_simp⟩) (by assumption) ?_; simp only [Act.put, List.setIfInBounds_toArray, List.set_cons_zero, List.set_cons_succ])
          (refine wpAnyH_take (i := 19) (v := .pointer (some ⟨RB, 6, none⟩)) rfl (by kernel_rfl) (by kernel_rfl) (by kernel_rfl) (fun _ _ _ h => h) (Or.inl ⟨by kernel_rfl, fun w hSw => by (try dsimp only at hSw); go_split_ands; go_simp⟩) (by assumption) ?_; simp only [Act.put, List.setIfInBounds_toArray, List.set_cons_zero, List.set_cons_succ])
          (refine wpAnyH_ready (rs := [20]) (by kernel_rfl) (by simp) (AllReadyH.cons rfl (fun K hK => ?_) AllReadyH.nil); go_simp)
          have hS9 := And.intro (cell_keep hS8.1 (heap_setCell_other (b := RB) (off := 6) (.slice (some ⟨gg, 0, none⟩) (sl.length + 1) cap) hb4P)) (And.intro (cell_keep hS8.2.1 (heap_setCell_other (b := RB) (off := 6) (.slice (some ⟨gg, 0, none⟩) (sl.length + 1) cap) hb5P)) (cell_keep hS8.2.2 (heap_setCell_other (b := RB) (off := 6) (.slice (some ⟨gg, 0, none⟩) (sl.length + 1) cap) hb5P)))
          (refine hK.out _ _ hS9 (fun hHeld => ?_); clear hK K; (try simp only [Act.put, List.setIfInBounds_toArray, List.set_cons_zero, List.set_cons_succ]))
          refine wpAnyH_done (by kernel_rfl) (NoPanic.normal ?_) _
          obtain ⟨hP1, hP2, hP3⟩ := sf_push (x := y) hsf6 rfl hl12 hown8 (((Below.refl _ w6).alloc (Nat.le_refl _) _).drew) hgrow8 (by rcases hat8 with h | h; exact .inl h; right; rw [h]; simp)
          obtain ⟨wz, hwz⟩ : ∃ wz, w8.setCell ⟨RB, 6, none⟩ (.slice (some ⟨gg, 0, none⟩) (sl.length + 1) cap) = wz := ⟨_, rfl⟩
          rw [hwz] at hP1 hP2 ⊢
          have hCz := (Chg.of_below H6.out.1).trans hP2 (fun i hi => .inl hi)
          have hSz : ∀ b, RF RB (.slice (some ⟨gg, 0, none⟩) (sl.length + 1) cap) b → RF RB (.slice ga sl.length gc) b ∨ wr.heap.size ≤ b := fun b hb => by
           rcases hP3 b hb with h | h
           ·exact .inl h
           ·right; omega
          have hrun' := Hrun.out.1
          have hst := Hst.out
          clear hP2 hP3 hown8 hgrow8 hat8 hlt8 hh8 h88 h8f hS8 hS9 hS0 hS1 hown6 hsf6 hx6 hx6a hwz
          have hkz : V1 (fun b => ¬ RF RB (.slice (some ⟨gg, 0, none⟩) (sl.length + 1) cap) b) wz (.slice ka k.length kc) k := HK.out.1.mono (fun b h1 h2 h3 => by
           rcases hSz b h3 with h | h
           ·exact h1 h
           ·omega) (hCz.keep fun b h => h)
          have hrz := hP1.cell
          have hxz : ∀ o, wz.cell? ⟨RB, o, none⟩ = (#[.int .i64 m.c, .int .i64 m.d, .int .i64 m.s, .int .i64 m.e, .int .i64 m.l, .slice ta t.length tc, (.slice (some ⟨gg, 0, none⟩) (sl.length + 1) cap), .int .i64 0] : Array Value)[o]? := fun o => by rw [hrz]; rfl
          have hzz := hCz.size
          have hrn : runL f (l, 0) (L1 ++ [k]) = ((sl ++ [y], 0), decide (((sl ++ [y], 0) : FSt).2 = 0)) := by rw [runL_go f (by rw [hrun']), hrun', runL_one, hst] <;> rfl
          have HZ := Lib.hid (And.intro hP1 (And.intro hCz (And.intro hSz hrn))); clear hrn hrz hP1 hCz hSz hst hrun'
          go_wp2_with fail
          refine (l02Next_any m HA.out.2.2.2.2.2.2.1 _ k _ hkz HK.out.2.1 HK.out.2.2.1).mono ?_
          rintro e' wM ⟨kv', he', hkv', hbM⟩
          rw [HK.out.2.2.2.1] at he' hkv'
          subst he'
          have hkv2 : (nextAns r).2 = true → V1 (fun b => ¬ RF RB (.slice (some ⟨gg, 0, none⟩) (sl.length + 1) cap) b) wM kv' (nextAns r).1 := fun hh => (hkv' hh).mono (fun b h1 h2 hf => by
           have := HZ.out.1.lt hf
           rcases h1 with h1 | h1
           ·exact h1.elim
           ·omega) (fun _ _ _ => rfl)
          have HM := Lib.hid (And.intro hkv2 (And.intro (toCome_nextR HA.out.2.2.2.2.2.2.2.1 hkv2 HK.out.2.2.2.2) (toCome_more (m := m) HK.out.1))); clear hkv' hkv2 hxz
          obtain ⟨qb, hqb⟩ : ∃ qb, (nextAns r).2 = qb := ⟨_, rfl⟩
          rw [hqb]
          have Hqb := Lib.hid hqb; clear hqb
          go_wp2_with fail
          go_roundw
          case rel => exact ⟨L1 ++ [k], r, (sl ++ [y], 0), (.slice (some ⟨gg, 0, none⟩) (sl.length + 1) cap), HK.out.2.2.2.2, HZ.out.2.2.2, by rw [Hqb.out], HM.out.1, HZ.out.1.below hbM, (HC.out.1.trans HZ.out.2.1 (fun i hi => HC.out.2 i hi)).then_below hbM, fun b hb => by
           rcases HZ.out.2.2.1 b hb with h | h
           ·exact HC.out.2 b h
           ·right; omega⟩
          case measure => rw [HM.out.2.2, HK.out.2.2.2.1]; have := HM.out.2.1; rw [Hqb.out] at this; omega
        ·have hLi : ¬ (0 : Int) < (LL.length : Int) := by omega
         have hstep := HN.out.2.2.2.2
         rw [if_neg hLp] at hstep
         by_cases hmo : cuts.length + 1 = t.length
         ·have e2 : ((cuts.length : Int) + 1 == (t.length : Int)) = true := by rw [beq_iff_eq]; omega
          rw [if_pos hmo] at hstep
          have hrun' := Hrun.out.1
          have hfin := Hrun.out.2
          have hsf6 := H6.out.2.1
          have hch6 := HC.out.1.then_below H6.out.1
          have hsub := HC.out.2
          have hres := hfin (sl, 5) (by rw [runL_stopat hrun' hstep]; rfl)
          have HZ := Lib.hid (And.intro hres (And.intro hsf6 (And.intro hch6 hsub))); clear hres
          go_wp2_with fail
          go_end0
          (try rw [HZ.out.1])
          exact ⟨_, rfl, sf_code HZ.out.2.1 (by decide), HZ.out.2.2.1.setCell (p := ⟨RB, 7, none⟩) (.inl (.inl rfl)) _, HZ.out.2.2.2⟩
         ·have e2 : ((cuts.length : Int) + 1 == (t.length : Int)) = false := by rw [beq_eq_false_iff_ne]; omega
          rw [if_neg hmo] at hstep
          have Hst := Lib.hid hstep; clear hstep
          have hsf6 := H6.out.2.1
          have hneP := hsf6.ne
          have hlo6 := hsf6.lo
          have hown6 := hsf6.own
          have hl12 : sl.length < 1200 := by have := HS.out.2.2.2; omega
          have hRl6 : RB < w6.heap.size := by omega
          have hbA : Below w6.heap.size w6 (w6.alloc (.cells #[.int .i64 (-1), .int .i64 0] 48)) := (Below.refl _ _).alloc (Nat.le_refl _) _
          have hzA : (w6.alloc (.cells #[.int .i64 (-1), .int .i64 0] 48)).heap.size = w6.heap.size + 1 := by simp
          have Hsf6 := Lib.hid hsf6; clear hsf6
          go_wp2_with (at_builtin; refine wp_app rfl _ _ 24 rfl B 48 (.agg #[.int .i64 0, .int .i64 0]) 2 16 Tryz.underlying24 inf_step rfl (by omega) _ _ _ rfl (hown6.alloc _) ⟨_, 0, none⟩ 1 1 [.int .i64 (-1), .int .i64 0] rfl rfl (World.news_of_block (heap_alloc_new _ _)) (by simp [Value.oneCell']) (by unfold maxLen; omega) (by omega) (by omega) ?_; intro v8 w8 hown8 hgrow8 hblk8; obtain ⟨gg, cap, rfl, hglt⟩ := own_some2 hown8; have hh8 : w8.heap[RB]? = some (.cells (sfCells m (.slice ta t.length tc) (.slice ga sl.length gc) 0) 101 (0, 0)) := ((hgrow8.block RB (by omega) (fun e => hneP e.symm)).trans ((hbA.block RB hRl6).trans Hsf6.out.hh)); have h86 : w8.cell? ⟨RB, 6, none⟩ = some (.slice ga sl.length gc) := (by rw [cell_of_block hh8]; rfl); have f86 := frozen_of_block hh8 6)
          obtain ⟨hP1, hP2, hP3⟩ := sf_push (x := (-1, 0)) Hsf6.out rfl hl12 hown8 hbA hgrow8 (by rcases hblk8 with h | h; exact .inl (h.symm.trans rfl); right; simp only [Value.ownBlock, Option.some.injEq] at h; omega)
          obtain ⟨wz, hwz⟩ : ∃ wz, w8.setCell ⟨RB, 6, none⟩ (.slice (some ⟨gg, 0, none⟩) (sl.length + 1) cap) = wz := ⟨_, rfl⟩
          rw [hwz] at hP1 hP2 ⊢
          have hCz := (Chg.of_below H6.out.1).trans hP2 (fun i hi => .inl hi)
          have hC5 := (Chg.of_below H6.out.2.2).trans hP2 (fun i hi => .inl hi)
          have hzz6 := hP2.size
          have IHr := HA.out.2.2.2.2.2.1 (cuts ++ [k]) (.slice na (cuts.length + 1) nc) (sl ++ [(-1, 0)]) _ wz (by simp; omega)
           ⟨hP1, HS.out.2.1.mono (fun b hb _ hf => by
             rcases hP3 b hf with h | h
             ·exact HS.out.2.2.1 b hb h
             ·omega) (hCz.keep fun b hb => HS.out.2.2.1 b hb), HN.out.1.mono (fun b hb hlt hf => by
             rcases hP3 b hf with h | h
             ·have h1 := HS.out.1.lt h
              rcases hb with (hb | hb) | hb
              ·exact HS.out.2.2.1 b hb h
              ·exact hb h
              ·omega
             ·omega) (hC5.keep fun b hb hf => by
             have h1 := HS.out.1.lt hf
             rcases hb with (hb | hb) | hb
             ·exact HS.out.2.2.1 b hb hf
             ·exact hb hf
             ·omega), fun e => by simp at e, hok.more hlt hkk, by simp; omega⟩
          have hst := Hst.out
          obtain ⟨rr, hrr⟩ : ∃ r, rfF n t (keysOf m) d (cuts ++ [k]) (sl ++ [(-1, 0)]) = r := ⟨_, rfl⟩
          rw [hrr] at IHr hst
          obtain ⟨rl, rc⟩ := rr
          have HI := Lib.hid (And.intro IHr (And.intro hCz (And.intro hP3 hst))); clear IHr hCz hC5 hP1 hP2 hP3 hst hrr hwz hown8 hgrow8 hblk8 hh8 h86 f86 hown6 hx6
          refine HI.out.1.mono ?_
          rintro e' wq ⟨gv2, rfl, h1, h2, h3⟩
          have hCq := HI.out.2.1.trans h2 (fun i hi => by
           rcases HI.out.2.2.1 i hi with h | h
           ·exact .inl h
           ·right; omega)
          have hSq : ∀ b, RF RB gv2 b → RF RB (.slice ga sl.length gc) b ∨ wr.heap.size ≤ b := fun b hb => by
           have := HI.out.2.1.size
           rcases h3 b hb with h | h
           ·rcases HI.out.2.2.1 b h with h | h
            ·exact .inl h
            ·right; omega
           ·right; omega
          have hrun' := Hrun.out.1
          have hst := HI.out.2.2.2
          have hkz : V1 (fun b => ¬ RF RB gv2 b) wq (.slice ka k.length kc) k := HK.out.1.mono (fun b h1 h2 h3 => by
           rcases hSq b h3 with h | h
           ·exact h1 h
           ·omega) (hCq.keep fun b h => h)
          have hrz := h1.cell
          have hxz : ∀ o, wq.cell? ⟨RB, o, none⟩ = (#[.int .i64 m.c, .int .i64 m.d, .int .i64 m.s, .int .i64 m.e, .int .i64 m.l, .slice ta t.length tc, gv2, .int .i64 rc] : Array Value)[o]? := fun o => by rw [hrz]; rfl
          have hzz := hCq.size
          have hrn : runL f (l, 0) (L1 ++ [k]) = ((rl, rc), decide (((rl, rc) : FSt).2 = 0)) := by rw [runL_go f (by rw [hrun']), hrun', runL_one, hst] <;> rfl
          have HZ := Lib.hid (And.intro h1 (And.intro hCq (And.intro hSq hrn))); clear hrn hrz h1 h2 h3 hCq hSq hst hrun'
          go_wp2_with fail
          refine (l02Next_any m HA.out.2.2.2.2.2.2.1 _ k _ hkz HK.out.2.1 HK.out.2.2.1).mono ?_
          rintro e' wM ⟨kv', he', hkv', hbM⟩
          rw [HK.out.2.2.2.1] at he' hkv'
          subst he'
          have hkv2 : (nextAns r).2 = true → V1 (fun b => ¬ RF RB gv2 b) wM kv' (nextAns r).1 := fun hh => (hkv' hh).mono (fun b h1 h2 hf => by
           have := HZ.out.1.lt hf
           rcases h1 with h1 | h1
           ·exact h1.elim
           ·omega) (fun _ _ _ => rfl)
          have HM := Lib.hid (And.intro hkv2 (And.intro (toCome_nextR HA.out.2.2.2.2.2.2.2.1 hkv2 HK.out.2.2.2.2) (toCome_more (m := m) HK.out.1))); clear hkv' hkv2 hxz
          obtain ⟨qb, hqb⟩ : ∃ qb, (nextAns r).2 = qb := ⟨_, rfl⟩
          rw [hqb]
          have Hqb := Lib.hid hqb; clear hqb
          go_wp2_with fail
          go_roundw
          case rel => exact ⟨L1 ++ [k], r, (rl, rc), gv2, HK.out.2.2.2.2, HZ.out.2.2.2, by rw [Hqb.out], HM.out.1, HZ.out.1.below hbM, (HC.out.1.trans HZ.out.2.1 (fun i hi => HC.out.2 i hi)).then_below hbM, fun b hb => by
           rcases HZ.out.2.2.1 b hb with h | h
           ·exact HC.out.2 b h
           ·right; omega⟩
          case measure => rw [HM.out.2.2, HK.out.2.2.2.1]; have := HM.out.2.1; rw [Hqb.out] at this; omega
      ·have e0 : (sc == (0 : Int)) = false := by rw [beq_eq_false_iff_ne]; exact hsc
       have hrun' : runL f (l, 0) L1 = ((sl, sc), false) := by rw [hrun]; simp [hsc]
       have hres := hfin (sl, sc) (by rw [runL_after hrun']; simp [hsc])
       have HZ := Lib.hid (And.intro hres (And.intro hsf (And.intro hch hsub))); clear hres hsf hkv hch hrun hrun' hL hfin hr hsub
       go_wp2_with fail
       go_end0
       (try rw [HZ.out.1])
       exact ⟨gv, rfl, HZ.out.2.1, HZ.out.2.2.1, HZ.out.2.2.2⟩
theorem own_basez {w : World} {B B' z : Nat} {e : TypeId} {v : Value} {n : Nat} {xs : List Value} (h : w.ownsRow B e z v n xs) (hB : B' ≤ B) : w.ownsRow B' e z v n xs :=
 ⟨h.1, h.2.imp id fun ⟨g, cap, cur, h1, h2, h3⟩ => ⟨g, cap, cur, h1, Nat.le_trans hB h2, h3⟩⟩
set_option maxRecDepth 100000 in
set_option maxHeartbeats 1000000 in
theorem RefuteRf_any {S : Nat → Prop} (m : Mk) (u : Value) (t : List (List Int)) (W : World) (h : V2 S W u t) :
  Calls Tryz.prog 39 #[.agg #[.int .i64 m.c, .int .i64 m.d, .int .i64 m.s, .int .i64 m.e, .int .i64 m.l, u]] W fun e' w' => ∃ v', e' = .returned (.tuple #[v', .int .i64 (refuteAns m t).2]) ∧ w'.ownsRow W.heap.size 48 2 v' (refuteAns m t).1.length (flatS (refuteAns m t).1) ∧ Below W.heap.size W w' := by
 obtain ⟨a, c, rfl, hmx⟩ := h.form
 obtain ⟨W1, hW1, hB01, hz01, HZ01, hc01, hh01⟩ := box_facts W #[.int .i64 m.c, .int .i64 m.d, .int .i64 m.s, .int .i64 m.e, .int .i64 m.l, .slice a t.length c] 35
 have hV1 : V2 (fun b => b < W1.heap.size) W1 (.slice a t.length c) t := (h.below hB01).mono (fun _ _ h => h) (fun _ _ _ => rfl)
 cases hy : isSys m t
 ·have hfin : refuteAns m t = ([], 1) := by unfold refuteAns; rw [if_pos hy]
  rw [hfin]
  have H := Lib.hid (And.intro hy hfin); clear hy hfin
  go_enter Tryz.func39, Tryz.ntmps39
  go_wp2_with fail
  rw [← hW1]
  refine (isSystemR_b m _ t _ _ H.out.1 hV1).mono ?_
  rintro e' w2 ⟨rfl, hb2⟩
  clear hc01 hh01
  go_wp2_with fail
  go_ret2
  exact ⟨_, rfl, ⟨rfl, .inl ⟨rfl, rfl⟩⟩, hB01.trans (hb2.mono (by omega))⟩
 ·have hok := PartOk.nil hy
  have hmk := Mk.ok_iff.1 hok.fits.ok
  have hrows := hok.fits.rows
  have hra := refAnsC hy
  have hfok := rfF_ok (n := m.c.toNat) (t := t) (keys := keysOf m) (d := t.length) (cuts := []) (l := []) (by simp)
  have hcall := fun (w : World) (gv : Value) (RB B : Nat) (ask : SfAsk m t (.slice a t.length c) RB B [] (.slice none 0 0) [] gv w) => l19From_any m t m.c.toNat (by omega) (.slice a t.length c) RB B t.length [] (.slice none 0 0) [] gv w (by simp) ask
  obtain ⟨r, hr⟩ : ∃ r, rfF m.c.toNat t (keysOf m) t.length [] [] = r := ⟨_, rfl⟩
  rw [hr] at hra hfok
  simp only [hr] at hcall
  obtain ⟨rl, rc⟩ := r
  obtain ⟨ans, hans⟩ : ∃ r, refuteAns m t = r := ⟨_, rfl⟩
  rw [hans] at hra ⊢
  have H := Lib.hid (And.intro hy (And.intro hcall (And.intro hok (And.intro hr hans)))); clear hy hcall hr hans
  have hwl : 1 ≤ t.length := hrows.1
  clear hrows hmk hok
  rcases hfok.2 with h0 | h0 | h0
  all_goals
   have h0' : rc = _ := h0
   clear h0
   subst h0'
   first | rw [if_pos rfl] at hra | rw [if_neg (by show ¬ (3 : Int) = 0; decide)] at hra | rw [if_neg (by show ¬ (5 : Int) = 0; decide)] at hra
   subst hra
   go_enter Tryz.func39, Tryz.ntmps39
   go_wp2_with fail
   rw [← hW1]
   refine (isSystemR_b m _ t _ _ H.out.1 hV1).mono ?_
   rintro e' w2 ⟨rfl, hb2⟩
   have hz2 := hb2.size
   have hx2 : ∀ o, w2.cell? ⟨W.heap.size, o, none⟩ = (#[.int .i64 m.c, .int .i64 m.d, .int .i64 m.s, .int .i64 m.e, .int .i64 m.l, .slice a t.length c] : Array Value)[o]? := fun o => by rw [(bcell hb2).1 _ _ hz01, hc01]
   have HW1 := Lib.hid hW1; clear hW1 hh01
   have hbA : Below w2.heap.size w2 (w2.alloc (.cells #[.int .i64 m.c, .int .i64 m.d, .int .i64 m.s, .int .i64 m.e, .int .i64 m.l, .slice a t.length c, .slice none 0 0, .int .i64 0] 101)) := (Below.refl _ _).alloc (Nat.le_refl _) _
   have hno : ∀ b, b < w2.heap.size → ¬ RF w2.heap.size (.slice none 0 0) b := fun b hb' h => by
    rcases h with h | h
    ·omega
    ·simp [Value.ownBlock] at h
   have hask : SfAsk m t (.slice a t.length c) w2.heap.size w2.heap.size [] (.slice none 0 0) [] (.slice none 0 0) (w2.alloc (.cells #[.int .i64 m.c, .int .i64 m.d, .int .i64 m.s, .int .i64 m.e, .int .i64 m.l, .slice a t.length c, .slice none 0 0, .int .i64 0] 101)) :=
    ⟨⟨heap_alloc_self _ _, ⟨rfl, .inl ⟨rfl, rfl⟩⟩, by simp [Value.ownBlock], ⟨Nat.zero_le _, .inl rfl⟩, hbA.size⟩, (hV1.below hb2).any.mono (fun b _ hb' => hno b hb') (fun b _ hb' => hbA.block b hb'), ⟨none, 0, rfl, Nat.le_refl _, Nat.zero_le _, fun k hk => by simp at hk⟩, fun _ => .inl rfl, H.out.2.2.1, by simp; omega⟩
   have Hask := Lib.hid (And.intro hask (And.intro hbA hno)); clear hask hbA hno
   go_wp2_with fail
   refine (H.out.2.1 _ _ _ _ Hask.out.1).mono ?_
   rintro e' w3 ⟨gv, rfl, hR, hch, hsub⟩
   have hb3 : Below W.heap.size W w3 := hB01.trans (((hb2.trans (Hask.out.2.1.mono hz2)).mono (by omega)).trans (hch.to_below (B := W.heap.size) (fun i hi => by
    rcases hi with hi | hi
    ·omega
    ·simp [Value.ownBlock] at hi) (by have := Hask.out.2.1.size; omega)))
   have hr3 := hR.cell
   have c6 : w3.cell? ⟨w2.heap.size, 6, none⟩ = some gv := by rw [hr3]; rfl
   have c7 := hr3 7
   unfold sfCells at c7
   simp only [List.getElem?_toArray, List.getElem?_cons_succ, List.getElem?_cons_zero] at c7
   have hFS := own_basez hR.own (show W.heap.size ≤ w2.heap.size by omega)
   obtain ⟨ga, gc, rfl, _, _⟩ := own_formz hR.own
   have HF := Lib.hid (And.intro hb3 hFS); clear hb3 hFS hR hch hsub hx2 hr3
   go_wp2_with fail
   first
   | (go_ret2; exact ⟨_, rfl, HF.out.2, HF.out.1⟩)
   | (go_region; all_goals (go_wp2_with fail; go_ret2; exact ⟨_, rfl, ⟨rfl, .inl ⟨rfl, rfl⟩⟩, HF.out.1.drew⟩))
end Go.Proofs.YtbekpololmahoaaGreatDoor
