/- IsRefutation, ReadSteps and ShiftSteps: both answers. No conditions. -/
import Derived.Test.YtmfgdoflddhngaaGreatMReadV
import Derived.Test.YtmfgdoflddhngaaGreatMKeys
import Derived.Test.YtmfgdoflddhngaaGreatMLib
import Derived.Test.YtmfgdoflddhngaaGreatMRowv
import Derived.Test.YtmfgdoflddhngaaGreatMCount
namespace Go.Proofs.YtmfgdoflddhngaaGreat
open Go.RowKit
set_option linter.unusedVariables false
set_option linter.unusedSimpArgs false

def rdRes (m : Mk) (t : List (List Int)) (steps : List (Int × Int)) : RSt × Bool := readF m.c.toNat t (keysOf m) steps t.length [] (0, [])
theorem rdRes_ok (m : Mk) (t : List (List Int)) (steps : List (Int × Int)) : RdOk steps (rdRes m t steps).1 := readF_ok ⟨Nat.zero_le _, rfl⟩
def refAns (m : Mk) (t : List (List Int)) (steps : List (Int × Int)) : Bool :=
  if isSys m t = false then false else if 1200 < steps.length then false else (rdRes m t steps).2 && decide ((rdRes m t steps).1.1 = steps.length)
def readAns (m : Mk) (t : List (List Int)) (steps : List (Int × Int)) : Int × Int :=
  if isSys m t = false then (0, 1) else if 1200 < steps.length then (0, 3) else (((rdRes m t steps).1.1 : Int), 0)
theorem tab_rows {m : Mk} {t : List (List Int)} (h : isSys m t = true) : 1 ≤ t.length ∧ t.length ≤ 10 := (PartOk.nil h).fits.rows
def StartPost (m : Mk) (tv sv : Value) (steps : List (Int × Int)) (W : World) (r : RSt × Bool) (e : Ending) (w' : World) : Prop :=
  ∃ gv, e = .returned (.bool r.2) ∧ Rd m tv sv steps W.heap.size W.heap.size r.1 gv w' ∧ Below W.heap.size W w'
theorem refute_start {S S' : Nat → Prop} (m : Mk) (t : List (List Int)) (steps : List (Int × Int)) (hsys : isSys m t = true) (hsl : steps.length ≤ 1200) (tv sv : Value) (W : World) (ht : V2 S W tv t) (hs : VS S' W sv steps) :
    Calls Tryz.prog 107 #[.pointer (some ⟨W.heap.size, 0, none⟩), .slice none 0 0] (W.alloc (.cells #[.int .i64 m.c, .int .i64 m.d, .int .i64 m.s, .int .i64 m.e, .int .i64 m.l, tv, sv, .int .i64 0, .slice none 0 0] 96)) (StartPost m tv sv steps W (rdRes m t steps)) := by
  have hok := PartOk.nil hsys
  have hmk := Mk.ok_iff.1 hok.fits.ok
  have hrows := hok.fits.rows
  have hb : Below W.heap.size W (W.alloc (.cells #[.int .i64 m.c, .int .i64 m.d, .int .i64 m.s, .int .i64 m.e, .int .i64 m.l, tv, sv, .int .i64 0, .slice none 0 0] 96)) := (Below.refl _ _).alloc (Nat.le_refl _) _
  have hkp : Keep (fun _ => True) W (W.alloc (.cells #[.int .i64 m.c, .int .i64 m.d, .int .i64 m.s, .int .i64 m.e, .int .i64 m.l, tv, sv, .int .i64 0, .slice none 0 0] 96)) := fun b _ hb' => hb.block b hb'
  have hno : ∀ b, b < W.heap.size → ¬ RF W.heap.size (.slice none 0 0) b := fun b hb' h => by
    rcases h with h | h
    · omega
    · simp [Value.ownBlock] at h
  refine (refute_any m t m.c.toNat (by omega) steps hsl tv sv W.heap.size W.heap.size t.length [] (.slice none 0 0) (0, []) (.slice none 0 0) _ (by simp)
    ⟨⟨heap_alloc_self _ _, ⟨rfl, .inl ⟨rfl, rfl⟩⟩, by simp [Value.ownBlock], ⟨Nat.zero_le _, rfl⟩, by simp⟩, ht.any.mono (fun b _ hb' => hno b hb') hkp, (hs.mono (S' := fun _ => True) (fun _ _ _ => trivial) (fun _ _ _ => rfl)).mono (fun b _ hb' => hno b hb') hkp,
      ⟨none, 0, rfl, Nat.le_refl _, Nat.zero_le _, fun k hk => by simp at hk⟩, fun _ => .inl rfl, hok, by simp; omega⟩).mono ?_
  rintro e w' ⟨gv, rfl, h1, h2, h3⟩
  exact ⟨gv, rfl, h1, ((Chg.of_below (F := fun _ => False) hb).trans h2 (fun i hi => by
    rcases hi with h | h
    · right; omega
    · simp [Value.ownBlock] at h)).to_below (fun i hi => hi.elim) (Nat.le_refl _)⟩
theorem read_startR {S S' : Nat → Prop} (m : Mk) (t : List (List Int)) (steps : List (Int × Int)) (hsys : isSys m t = true) (hsl : steps.length ≤ 1200) (tv sv : Value) (W : World) (ht : V2 S W tv t) (hs : VS S' W sv steps) :
    Calls Tryz.prog 110 #[.agg #[.int .i64 m.c, .int .i64 m.d, .int .i64 m.s, .int .i64 m.e, .int .i64 m.l, tv], .slice none 0 0, sv, .int .i64 0, .slice none 0 0] W fun e w' => e = .returned (.tuple #[.int .i64 ((rdRes m t steps).1.1 : Int), .bool (rdRes m t steps).2]) ∧ Below W.heap.size W w' := by
  have hok := PartOk.nil hsys
  have hmk := Mk.ok_iff.1 hok.fits.ok
  have hrows := hok.fits.rows
  refine (l19Read_any m t m.c.toNat (by omega) steps hsl tv sv (.slice none 0 0) (fun _ => False) t.length [] (.slice none 0 0) (0, []) W (by simp)
    ⟨.inl ⟨rfl, fun _ h => h⟩, ⟨Nat.zero_le _, rfl⟩, ht.mono (fun _ _ _ h => h) (fun _ _ _ => rfl), hs.mono (fun _ _ _ h => h) (fun _ _ _ => rfl), ⟨none, 0, rfl, Nat.le_refl _, Nat.zero_le _, fun k hk => by simp at hk⟩, fun _ => .inl rfl, hok, by simp; omega⟩).mono ?_
  rintro e w' ⟨rfl, _, h2⟩
  exact ⟨rfl, h2.to_below (fun i hi => hi.elim) (Nat.le_refl _)⟩
set_option maxRecDepth 100000 in
set_option maxHeartbeats 1000000 in
theorem IsRefutation_any {S S' : Nat → Prop} (m : Mk) (u v : Value) (t : List (List Int)) (steps : List (Int × Int)) (W : World) (h : V2 S W u t) (hs : VS S' W v steps) :
    Calls Tryz.prog 19 #[.agg #[.int .i64 m.c, .int .i64 m.d, .int .i64 m.s, .int .i64 m.e, .int .i64 m.l, u], v] W fun e' w' => e' = .returned (.bool (refAns m t steps)) ∧ Below W.heap.size W w' := by
  obtain ⟨a, c, rfl, hmx⟩ := h.form
  obtain ⟨a', c', rfl, hmx'⟩ := hs.form
  obtain ⟨W1, hW1, hB01, hz01, HZ01, hc01, hh01⟩ := box_facts W #[.int .i64 m.c, .int .i64 m.d, .int .i64 m.s, .int .i64 m.e, .int .i64 m.l, .slice a t.length c] 28
  have hV1 : V2 (fun _ => True) W1 (.slice a t.length c) t := (h.below hB01).mono (fun _ _ _ => trivial) (fun _ _ _ => rfl)
  have hS1 : VS (fun _ => True) W1 (.slice a' steps.length c') steps := (hs.below hB01).mono (fun _ _ _ => trivial) (fun _ _ _ => rfl)
  cases hy : isSys m t
  · have hfin : refAns m t steps = false := by unfold refAns; rw [if_pos hy]
    rw [hfin]
    have H := Lib.hid (And.intro hy hfin); clear hy hfin
    go_enter Tryz.func19, Tryz.ntmps19
    go_wp2_with fail
    rw [← hW1]
    refine (isSystem_b m _ t _ _ H.out.1 hV1).mono ?_
    rintro e' w2 ⟨rfl, hb2⟩
    clear hc01 hh01
    go_wp2_with fail
    go_ret
    exact ⟨rfl, hB01.trans (hb2.mono (by omega))⟩
  · by_cases hl : 1200 < steps.length
    · have hfin : refAns m t steps = false := by unfold refAns; rw [if_neg (by rw [hy]; decide), if_pos hl]
      rw [hfin]
      have hli : (1200 : Int) < (steps.length : Int) := by omega
      have H := Lib.hid (And.intro hy hfin); clear hy hfin
      go_enter Tryz.func19, Tryz.ntmps19
      go_wp2_with fail
      rw [← hW1]
      refine (isSystem_b m _ t _ _ H.out.1 hV1).mono ?_
      rintro e' w2 ⟨rfl, hb2⟩
      clear hc01 hh01
      go_wp2_with fail
      go_ret
      exact ⟨rfl, hB01.trans (hb2.mono (by omega))⟩
    · have hfin : refAns m t steps = ((rdRes m t steps).2 && decide ((rdRes m t steps).1.1 = steps.length)) := by unfold refAns; rw [if_neg (by rw [hy]; decide), if_neg hl]
      rw [hfin]
      have hli : ¬ (1200 : Int) < (steps.length : Int) := by omega
      have hst := fun w (hb : Below W1.heap.size W1 w) => refute_start m t steps hy (by omega) (.slice a t.length c) (.slice a' steps.length c') w (hV1.below hb) (hS1.below hb)
      obtain ⟨rr, hrr⟩ : ∃ r, rdRes m t steps = r := ⟨_, rfl⟩
      simp only [hrr] at hst ⊢
      obtain ⟨⟨rd, gs⟩, rb⟩ := rr
      have Hst := Lib.hid (And.intro hst hrr); clear hst hrr
      obtain ⟨q, hq⟩ : ∃ q, ((rd : Int) == (steps.length : Int)) = q := ⟨_, rfl⟩
      have hq2 : decide (rd = steps.length) = q := by rw [← hq, Bool.eq_iff_iff, beq_iff_eq, decide_eq_true_iff]; omega
      simp only [hq2]
      clear hq2
      have H := Lib.hid (And.intro hy hfin); clear hfin
      go_enter Tryz.func19, Tryz.ntmps19
      go_wp2_with fail
      rw [← hW1]
      refine (isSystem_b m _ t _ _ H.out.1 hV1).mono ?_
      rintro e' w2 ⟨rfl, hb2⟩
      have hx2 : ∀ o, w2.cell? ⟨W.heap.size, o, none⟩ = (#[.int .i64 m.c, .int .i64 m.d, .int .i64 m.s, .int .i64 m.e, .int .i64 m.l, .slice a t.length c] : Array Value)[o]? := fun o => by rw [(bcell hb2).1 _ _ hz01, hc01]
      have hz2 := hb2.size
      clear hc01 hh01
      have HW1 := Lib.hid hW1; clear hW1
      go_wp2_with fail
      refine (Hst.out.1 _ hb2).mono ?_
      rintro e' w3 ⟨gv, rfl, hR, hb3⟩
      have hr3 := hR.cell
      have c7 : w3.cell? ⟨w2.heap.size, 7, none⟩ = some (.int .i64 (rd : Int)) := by rw [hr3]; rfl
      have hB3 := hB01.trans ((hb2.trans (hb3.mono hz2)).mono (by omega))
      have HB3 := Lib.hid (And.intro hB3 hR); clear hB3 hR hr3 hx2
      cases rb <;> cases q
      all_goals
        go_wp2_with fail
        go_ret
        exact ⟨rfl, HB3.out.1⟩
set_option maxRecDepth 100000 in
set_option maxHeartbeats 1000000 in
theorem IsRefutationR_any {S S' : Nat → Prop} (m : Mk) (u v : Value) (t : List (List Int)) (steps : List (Int × Int)) (W : World) (h : V2 S W u t) (hs : VS S' W v steps) :
    Calls Tryz.prog 109 #[.agg #[.int .i64 m.c, .int .i64 m.d, .int .i64 m.s, .int .i64 m.e, .int .i64 m.l, u], v] W fun e' w' => e' = .returned (.bool (refAns m t steps)) ∧ Below W.heap.size W w' := by
  obtain ⟨a, c, rfl, hmx⟩ := h.form
  obtain ⟨a', c', rfl, hmx'⟩ := hs.form
  obtain ⟨W1, hW1, hB01, hz01, HZ01, hc01, hh01⟩ := box_facts W #[.int .i64 m.c, .int .i64 m.d, .int .i64 m.s, .int .i64 m.e, .int .i64 m.l, .slice a t.length c] 28
  have hV1 : V2 (fun _ => True) W1 (.slice a t.length c) t := (h.below hB01).mono (fun _ _ _ => trivial) (fun _ _ _ => rfl)
  have hS1 : VS (fun _ => True) W1 (.slice a' steps.length c') steps := (hs.below hB01).mono (fun _ _ _ => trivial) (fun _ _ _ => rfl)
  cases hy : isSys m t
  · have hfin : refAns m t steps = false := by unfold refAns; rw [if_pos hy]
    rw [hfin]
    have H := Lib.hid (And.intro hy hfin); clear hy hfin
    go_enter Tryz.func109, Tryz.ntmps109
    go_wp2_with fail
    rw [← hW1]
    refine (isSystemR_b m _ t _ _ H.out.1 hV1).mono ?_
    rintro e' w2 ⟨rfl, hb2⟩
    clear hc01 hh01
    go_wp2_with fail
    go_ret
    exact ⟨rfl, hB01.trans (hb2.mono (by omega))⟩
  · by_cases hl : 1200 < steps.length
    · have hfin : refAns m t steps = false := by unfold refAns; rw [if_neg (by rw [hy]; decide), if_pos hl]
      rw [hfin]
      have hli : (1200 : Int) < (steps.length : Int) := by omega
      have H := Lib.hid (And.intro hy hfin); clear hy hfin
      go_enter Tryz.func109, Tryz.ntmps109
      go_wp2_with fail
      rw [← hW1]
      refine (isSystemR_b m _ t _ _ H.out.1 hV1).mono ?_
      rintro e' w2 ⟨rfl, hb2⟩
      clear hc01 hh01
      go_wp2_with fail
      go_ret
      exact ⟨rfl, hB01.trans (hb2.mono (by omega))⟩
    · have hfin : refAns m t steps = ((rdRes m t steps).2 && decide ((rdRes m t steps).1.1 = steps.length)) := by unfold refAns; rw [if_neg (by rw [hy]; decide), if_neg hl]
      rw [hfin]
      have hli : ¬ (1200 : Int) < (steps.length : Int) := by omega
      have hst := fun w (hb : Below W1.heap.size W1 w) => read_startR m t steps hy (by omega) (.slice a t.length c) (.slice a' steps.length c') w (hV1.below hb) (hS1.below hb)
      obtain ⟨rr, hrr⟩ : ∃ r, rdRes m t steps = r := ⟨_, rfl⟩
      simp only [hrr] at hst ⊢
      obtain ⟨⟨rd, gs⟩, rb⟩ := rr
      have Hst := Lib.hid (And.intro hst hrr); clear hst hrr
      obtain ⟨q, hq⟩ : ∃ q, ((rd : Int) == (steps.length : Int)) = q := ⟨_, rfl⟩
      have hq2 : decide (rd = steps.length) = q := by rw [← hq, Bool.eq_iff_iff, beq_iff_eq, decide_eq_true_iff]; omega
      simp only [hq2]
      clear hq2
      have H := Lib.hid (And.intro hy hfin); clear hfin
      go_enter Tryz.func109, Tryz.ntmps109
      go_wp2_with fail
      rw [← hW1]
      refine (isSystemR_b m _ t _ _ H.out.1 hV1).mono ?_
      rintro e' w2 ⟨rfl, hb2⟩
      have hx2 : ∀ o, w2.cell? ⟨W.heap.size, o, none⟩ = (#[.int .i64 m.c, .int .i64 m.d, .int .i64 m.s, .int .i64 m.e, .int .i64 m.l, .slice a t.length c] : Array Value)[o]? := fun o => by rw [(bcell hb2).1 _ _ hz01, hc01]
      have hz2 := hb2.size
      clear hc01 hh01
      have HW1 := Lib.hid hW1; clear hW1
      go_wp2_with fail
      refine (Hst.out.1 _ hb2).mono ?_
      rintro e' w3 ⟨rfl, hb3⟩
      have hB3 := hB01.trans ((hb2.trans (hb3.mono hz2)).mono (by omega))
      have HB3 := Lib.hid hB3; clear hB3 hx2
      cases rb <;> cases q
      all_goals
        go_wp2_with fail
        go_ret
        exact ⟨rfl, HB3.out⟩
end Go.Proofs.YtmfgdoflddhngaaGreat

namespace Go.Proofs.YtmfgdoflddhngaaGreat
open Go.RowKit
set_option linter.unusedVariables false
set_option linter.unusedSimpArgs false

def marks (n : Nat) (k : Int) : List Int := (List.range n).map fun i => k + (i : Nat)
theorem rows_ne {ls : List (List Int)} {k : Nat} (h : k < ls.length) : ls ≠ [] := by intro e; subst e; simp at h

end Go.Proofs.YtmfgdoflddhngaaGreat

namespace Go.Proofs.YtmfgdoflddhngaaGreat
open Go.RowKit
set_option linter.unusedVariables false
set_option linter.unusedSimpArgs false

def Rg (lo hi : Nat) : Nat → Prop := fun b => lo ≤ b ∧ b < hi
def XR1 (lo hi : Nat) (w : World) (v : Value) (l : List Int) : Prop := ∃ b, X1 w v l b ∧ (l ≠ [] → lo ≤ b ∧ b < hi)
def XR2 (lo hi : Nat) (w : World) (v : Value) (ls : List (List Int)) : Prop :=
  ∃ ob bk, X2 w v ls ob bk ∧ (ls ≠ [] → lo ≤ ob ∧ ob < hi) ∧ ∀ k, k < ls.length → getl ls k ≠ [] → lo ≤ bk k ∧ bk k < hi
section
variable {lo hi lo' hi' s B : Nat} {w w' : World} {v : Value} {l : List Int} {ls : List (List Int)}
theorem XR2.of_F2 (h : F2 B w v ls) : XR2 B w.heap.size w v ls := by
  obtain ⟨ob, bk, h1, h2, h3⟩ := h
  exact ⟨ob, bk, h1, fun hn => ⟨h2 hn, (h1.lt hn).1⟩, fun k hk hn => ⟨h3 k hk hn, (h1.lt (rows_ne hk)).2 k hk hn⟩⟩
theorem XR1.below (h : XR1 lo hi w v l) (hb : Below w.heap.size w w') : XR1 lo hi w' v l := by
  obtain ⟨b, h1, h2⟩ := h
  exact ⟨b, h1.keep (fun hn => hb.block _ (h1.lt hn)), h2⟩
theorem XR2.below (h : XR2 lo hi w v ls) (hb : Below w.heap.size w w') : XR2 lo hi w' v ls := by
  obtain ⟨ob, bk, h1, h2, h3⟩ := h
  exact ⟨ob, bk, h1.keep (fun hn => hb.block _ (h1.lt hn).1) (fun k hk hn => hb.block _ ((h1.lt (rows_ne hk)).2 k hk hn)), h2, h3⟩
theorem XR1.chg (h : XR1 lo hi w v l) (hc : Chg (Rg lo' hi') w w') (hd : hi ≤ lo' ∨ hi' ≤ lo) : XR1 lo hi w' v l := by
  obtain ⟨b, h1, h2⟩ := h
  exact ⟨b, h1.keep (fun hn => hc.block _ (h1.lt hn) (fun hf => by have := h2 hn; obtain ⟨g1, g2⟩ := hf; omega)), h2⟩
theorem XR2.chg (h : XR2 lo hi w v ls) (hc : Chg (Rg lo' hi') w w') (hd : hi ≤ lo' ∨ hi' ≤ lo) : XR2 lo hi w' v ls := by
  obtain ⟨ob, bk, h1, h2, h3⟩ := h
  exact ⟨ob, bk, h1.keep (fun hn => hc.block _ (h1.lt hn).1 (fun hf => by have := h2 hn; obtain ⟨g1, g2⟩ := hf; omega)) (fun k hk hn => hc.block _ ((h1.lt (rows_ne hk)).2 k hk hn) (fun hf => by have := h3 k hk hn; obtain ⟨g1, g2⟩ := hf; omega)), h2, h3⟩
theorem XR1.v1 (h : XR1 lo hi w v l) : V1 (fun _ => True) w v l := by
  obtain ⟨b, h1, _⟩ := h; exact h1.v1 (fun _ => trivial)
theorem XR2.v2 (h : XR2 lo hi w v ls) : V2 (fun _ => True) w v ls := by
  obtain ⟨ob, bk, h1, _⟩ := h; exact h1.v2 (fun _ => trivial) (fun _ _ _ => trivial)
theorem XR1.form (h : XR1 lo hi w v l) : ∃ a c, v = .slice a l.length c := by
  obtain ⟨b, ⟨a, c, rfl, _⟩, _⟩ := h; exact ⟨a, c, rfl⟩
theorem XR2.form (h : XR2 lo hi w v ls) : ∃ a c, v = .slice a ls.length c := by
  obtain ⟨ob, bk, ⟨a, c, rfl, _⟩, _⟩ := h; exact ⟨a, c, rfl⟩
theorem F1.any (h : F1 B w v l) : V1 (fun _ => True) w v l := h.v1.any
theorem F2.any (h : F2 B w v ls) : V2 (fun _ => True) w v ls := h.v2.any
end

end Go.Proofs.YtmfgdoflddhngaaGreat

namespace Go.Proofs.YtmfgdoflddhngaaGreat
open Go.RowKit
set_option linter.unusedVariables false
set_option linter.unusedSimpArgs false

def XRS (lo hi : Nat) (w : World) (v : Value) (l : List (Int × Int)) : Prop := ∃ b, XS w v l b ∧ (l ≠ [] → lo ≤ b ∧ b < hi)
/-- Fresh steps. -/
def FS (B : Nat) (w : World) (v : Value) (l : List (Int × Int)) : Prop := ∃ b, XS w v l b ∧ (l ≠ [] → B ≤ b)
section
variable {lo hi lo' hi' s B : Nat} {w w' : World} {v : Value} {l : List (Int × Int)}
theorem XRS.below (h : XRS lo hi w v l) (hb : Below w.heap.size w w') : XRS lo hi w' v l := by
  obtain ⟨b, h1, h2⟩ := h
  exact ⟨b, h1.keep (fun hn => hb.block _ (h1.lt hn)), h2⟩
theorem XRS.chg (h : XRS lo hi w v l) (hc : Chg (Rg lo' hi') w w') (hd : hi ≤ lo' ∨ hi' ≤ lo) : XRS lo hi w' v l := by
  obtain ⟨b, h1, h2⟩ := h
  exact ⟨b, h1.keep (fun hn => hc.block _ (h1.lt hn) (fun hf => by have := h2 hn; obtain ⟨g1, g2⟩ := hf; omega)), h2⟩
theorem XRS.vs (h : XRS lo hi w v l) : VS (fun _ => True) w v l := by
  obtain ⟨b, h1, _⟩ := h; exact h1.vs (fun _ => trivial)
theorem XRS.form (h : XRS lo hi w v l) : ∃ a c, v = .slice a l.length c := by
  obtain ⟨b, ⟨a, c, rfl, _⟩, _⟩ := h; exact ⟨a, c, rfl⟩
theorem VS.old {S : Nat → Prop} (h : VS S w v l) : VS (fun b => b < w.heap.size) w v l := h.mono (fun _ _ h => h) (fun _ _ _ => rfl)
theorem FS.mono {B' : Nat} (h : FS B w v l) (hb : B' ≤ B) : FS B' w v l := by
  obtain ⟨b, h1, h2⟩ := h
  exact ⟨b, h1, fun hn => Nat.le_trans hb (h2 hn)⟩
theorem FS.vs (h : FS B w v l) : VS (fun _ => True) w v l := by
  obtain ⟨b, h1, _⟩ := h; exact h1.vs (fun _ => trivial)
theorem FS.nil : FS B w (.slice none 0 0) [] := ⟨0, ⟨none, 0, rfl, Nat.le_refl _, Nat.zero_le _, fun hn => absurd rfl hn⟩, fun hn => absurd rfl hn⟩
theorem FS.below (h : FS B w v l) (hb : Below w.heap.size w w') : FS B w' v l := by
  obtain ⟨b, h1, h2⟩ := h
  exact ⟨b, h1.keep (fun hn => hb.block _ (h1.lt hn)), h2⟩
end
end Go.Proofs.YtmfgdoflddhngaaGreat

namespace Go.Proofs.YtmfgdoflddhngaaGreat
open Go.RowKit
set_option linter.unusedVariables false
set_option linter.unusedSimpArgs false

def shiftAns (m : Mk) (t : List (List Int)) (steps : List (Int × Int)) : List (Int × Int) × Int :=
  if isSys m t = false then ([], 1) else if refAns m t steps = true then ((rdRes m t steps).1.2, 0) else ([], 5)
theorem refAns_len {m : Mk} {t : List (List Int)} {steps : List (Int × Int)} (h : refAns m t steps = true) : isSys m t = true ∧ steps.length ≤ 1200 ∧ (rdRes m t steps).2 = true ∧ (rdRes m t steps).1.1 = steps.length := by
  unfold refAns at h
  split at h
  · cases h
  · rename_i h1
    split at h
    · cases h
    · rw [Bool.and_eq_true, decide_eq_true_iff] at h
      exact ⟨by simpa using h1, by omega, h.1, h.2⟩
theorem shiftAns_len (m : Mk) (t : List (List Int)) (steps : List (Int × Int)) : (shiftAns m t steps).1.length ≤ 1048576 := by
  unfold shiftAns
  split
  · simp
  · split
    · rename_i h
      have h1 := refAns_len h
      have h2 := rdRes_ok m t steps
      show (rdRes m t steps).1.2.length ≤ _
      rw [h2.2]
      have := h2.1
      omega
    · simp
theorem flatS_get {l : List (Int × Int)} : ∀ {k : Nat}, k < l.length → (flatS l)[k * 2]? = some (.int .i64 (gets l k).1) ∧ (flatS l)[k * 2 + 1]? = some (.int .i64 (gets l k).2) := by
  induction l with
  | nil => intro k h; simp at h
  | cons x l ih =>
    intro k h
    cases k with
    | zero => exact ⟨rfl, rfl⟩
    | succ k =>
      have h1 := ih (k := k) (by simpa using h)
      have e : flatS (x :: l) = .int .i64 x.1 :: .int .i64 x.2 :: flatS l := rfl
      rw [e, show (k + 1) * 2 = k * 2 + 1 + 1 from by omega]
      exact h1
theorem own_FS {w : World} {B : Nat} {v : Value} {l : List (Int × Int)} (h : w.ownsRow B 101 2 v l.length (flatS l)) : FS B w v l := by
  rcases h.2 with ⟨rfl, h0⟩ | ⟨g, cap, cur, rfl, h1, h2, h3, h4, h5, h6⟩
  · have : l = [] := List.length_eq_zero_iff.1 h0
    subst this; exact FS.nil
  · refine ⟨g, ⟨_, _, rfl, h3, h4, fun _ => ⟨0, cur, _, rfl, h2, fun k hk => ?_⟩⟩, fun _ => h1⟩
    have h7 := flatS_get hk
    rw [← h6, List.getElem?_take, List.getElem?_take, if_pos (by omega), if_pos (by omega), Array.getElem?_toList, Array.getElem?_toList] at h7
    rw [Nat.zero_add]; exact h7
theorem run_append_zeroS {P : Program} {w : World} (base : Nat) (t ty e : TypeId) (i : TypeInfo) (size : Nat) (ht : P.underlying t = some (.slice e)) (hi : P.info? e = some i)
    (v : Value) (n : Nat) (xs : List Value) (hown : w.ownsRow base e size v n xs) (ad : Option Addr) (c : Nat) :
    (Builtin.append_ #[t, t] ty #[v, .slice ad 0 c]).run P w = .ok v w := by
  rcases hown.2 with ⟨rfl, rfl⟩ | ⟨g, cap, cur, rfl, _, _, hnc, _⟩
  · cases ad <;> simp [Builtin.append_, run_underlying ht, sizeOf, typeInfo, hi, Builtin.lenOf, Builtin.firstCells, loadCells, loadCellsFrom]
  · cases ad <;> simp [Builtin.append_, run_underlying ht, sizeOf, typeInfo, hi, Builtin.lenOf, Builtin.firstCells, loadCells, loadCellsFrom, hnc, storeCells]
theorem wp_app_zero {P : Program} {w : World} {ops : Array Oper} {rest : List Oper} {o : Oper} {a : Act} {Q : Exit → Act → World → Prop} (hgd : o.guard = none) (s x : Operand) (t : TypeId)
    (ho : o.op = .call { callee := .builtin .append, args := #[s, x], argTypes := #[t, t] })
    (base : Nat) (e : TypeId) (i : TypeInfo) (size : Nat) (ht : P.underlying t = some (.slice e)) (hi : P.info? e = some i)
    (v : Value) (n : Nat) (xs : List Value) (hs : a.eval s = v) (hown : w.ownsRow base e size v n xs) (ad : Option Addr) (c : Nat) (hx : a.eval x = .slice ad 0 c)
    (h : wpList P ops Q rest (a.put o.dst v) w) : wpList P ops Q (o :: rest) a w :=
  wpList_plain hgd fun _ hK => by
    have hrun := run_append_zeroS (P := P) (w := w) base t o.type e i size ht hi v n xs hown ad c
    unfold Oper.wp execOp
    simp only [ho, resolve, invoke, builtin, Sem.run_bind, Sem.run_pure, Result.andThen_ok, List.map_toArray, List.map_cons, List.map_nil, hs, hx, hrun]
    exact hK _ _ h
set_option maxRecDepth 100000 in
set_option maxHeartbeats 1000000 in
theorem ShiftSteps_any {S S' : Nat → Prop} (m : Mk) (u v : Value) (t : List (List Int)) (steps : List (Int × Int)) (W : World) (h : V2 S W u t) (hs : VS S' W v steps) :
    Calls Tryz.prog 16 #[.agg #[.int .i64 m.c, .int .i64 m.d, .int .i64 m.s, .int .i64 m.e, .int .i64 m.l, u], v] W fun e' w' => ∃ v', e' = .returned (.tuple #[v', .int .i64 (shiftAns m t steps).2]) ∧ FS W.heap.size w' v' (shiftAns m t steps).1 ∧ Below W.heap.size W w' := by
  obtain ⟨a, c, rfl, hmx⟩ := h.form
  obtain ⟨a', c', rfl, hmx'⟩ := hs.form
  obtain ⟨W1, hW1, hB01, hz01, HZ01, hc01, hh01⟩ := box_facts W #[.int .i64 m.c, .int .i64 m.d, .int .i64 m.s, .int .i64 m.e, .int .i64 m.l, .slice a t.length c] 28
  have hV1 : V2 (fun _ => True) W1 (.slice a t.length c) t := (h.below hB01).mono (fun _ _ _ => trivial) (fun _ _ _ => rfl)
  have hS1 : VS (fun _ => True) W1 (.slice a' steps.length c') steps := (hs.below hB01).mono (fun _ _ _ => trivial) (fun _ _ _ => rfl)
  cases hy : isSys m t
  · have hfin : shiftAns m t steps = ([], 1) := by unfold shiftAns; rw [if_pos hy]
    rw [hfin]
    have H := Lib.hid (And.intro hy hfin); clear hy hfin
    go_enter Tryz.func16, Tryz.ntmps16
    go_wp2_with fail
    rw [← hW1]
    refine (isSystem_b m _ t _ _ H.out.1 hV1).mono ?_
    rintro e' w2 ⟨rfl, hb2⟩
    clear hc01 hh01
    go_wp2_with fail
    go_ret2
    exact ⟨_, rfl, FS.nil, hB01.trans (hb2.mono (by omega))⟩
  · by_cases hl : 1200 < steps.length
    · have hr0 : refAns m t steps = false := by unfold refAns; rw [if_neg (by rw [hy]; decide), if_pos hl]
      have hfin : shiftAns m t steps = ([], 5) := by unfold shiftAns; rw [if_neg (by rw [hy]; decide), if_neg (by rw [hr0]; decide)]
      rw [hfin]
      have hli : (1200 : Int) < (steps.length : Int) := by omega
      clear hr0
      have H := Lib.hid (And.intro hy hfin); clear hy hfin
      go_enter Tryz.func16, Tryz.ntmps16
      go_wp2_with fail
      rw [← hW1]
      refine (isSystem_b m _ t _ _ H.out.1 hV1).mono ?_
      rintro e' w2 ⟨rfl, hb2⟩
      have hx2 : ∀ o, w2.cell? ⟨W.heap.size, o, none⟩ = (#[.int .i64 m.c, .int .i64 m.d, .int .i64 m.s, .int .i64 m.e, .int .i64 m.l, .slice a t.length c] : Array Value)[o]? := fun o => by rw [(bcell hb2).1 _ _ hz01, hc01]
      have hz2 := hb2.size
      clear hc01 hh01
      have HW1 := Lib.hid hW1; clear hW1
      have hBx : ∀ o, Below W.heap.size W (w2.alloc o) := fun o => hB01.trans ((hb2.alloc hz2 o).mono (by omega))
      have HBx := Lib.hid hBx; clear hBx
      go_wp2_with fail
      go_ret2
      exact ⟨_, rfl, FS.nil, HBx.out _⟩
    · have hli : ¬ (1200 : Int) < (steps.length : Int) := by omega
      have hst := fun w (hb : Below W1.heap.size W1 w) => refute_start m t steps hy (by omega) (.slice a t.length c) (.slice a' steps.length c') w (hV1.below hb) (hS1.below hb)
      have hrok := rdRes_ok m t steps
      have hra : refAns m t steps = ((rdRes m t steps).2 && decide ((rdRes m t steps).1.1 = steps.length)) := by unfold refAns; rw [if_neg (by rw [hy]; decide), if_neg hl]
      have hsa : shiftAns m t steps = if refAns m t steps = true then ((rdRes m t steps).1.2, 0) else ([], 5) := by unfold shiftAns; rw [if_neg (by rw [hy]; decide)]
      rw [hra] at hsa
      obtain ⟨rr, hrr⟩ : ∃ r, rdRes m t steps = r := ⟨_, rfl⟩
      simp only [hrr] at hst hsa hrok
      obtain ⟨⟨rd, gs⟩, rb⟩ := rr
      have hrl : rd ≤ steps.length := hrok.1
      obtain ⟨q, hq⟩ : ∃ q, decide (rd < steps.length) = q := ⟨_, rfl⟩
      have hfin : shiftAns m t steps = if (rb && !q) = true then (gs, 0) else ([], 5) := by
        rw [hsa]
        have : decide (rd = steps.length) = !q := by
          rw [← hq]
          by_cases e : rd = steps.length
          · rw [decide_eq_true e, decide_eq_false (by omega)]; rfl
          · rw [decide_eq_false e, decide_eq_true (by omega)]; rfl
        simp only [this]
      obtain ⟨ans, hans⟩ : ∃ r, shiftAns m t steps = r := ⟨_, rfl⟩
      rw [hans] at hfin ⊢
      have Hst := Lib.hid (And.intro hst (And.intro hrr (And.intro hfin (And.intro hans (And.intro hsa hra))))); clear hst hrr hfin hans hsa hra hrok
      have H := Lib.hid hy; clear hy
      go_enter Tryz.func16, Tryz.ntmps16
      go_wp2_with fail
      rw [← hW1]
      refine (isSystem_b m _ t _ _ H.out hV1).mono ?_
      rintro e' w2 ⟨rfl, hb2⟩
      have hx2 : ∀ o, w2.cell? ⟨W.heap.size, o, none⟩ = (#[.int .i64 m.c, .int .i64 m.d, .int .i64 m.s, .int .i64 m.e, .int .i64 m.l, .slice a t.length c] : Array Value)[o]? := fun o => by rw [(bcell hb2).1 _ _ hz01, hc01]
      have hz2 := hb2.size
      clear hc01 hh01
      have HW1 := Lib.hid hW1; clear hW1
      go_wp2_with fail
      refine (Hst.out.1 _ hb2).mono ?_
      rintro e' w3 ⟨gv, rfl, hR, hb3⟩
      have hr3 := hR.cell
      have c7 : w3.cell? ⟨w2.heap.size, 7, none⟩ = some (.int .i64 (rd : Int)) := by rw [hr3]; rfl
      have c8 : w3.cell? ⟨w2.heap.size, 8, none⟩ = some gv := by rw [hr3]; rfl
      have hB3 := hB01.trans ((hb2.trans (hb3.mono hz2)).mono (by omega))
      have hFS : FS W.heap.size w3 gv gs := (own_FS hR.own).mono (by omega)
      obtain ⟨ga, gc, rfl, _, _⟩ := own_formz hR.own
      have HB3 := Lib.hid (And.intro hB3 hFS); clear hB3 hR hr3 hx2 hFS
      cases rb <;> cases q
      all_goals
        have hfin := Hst.out.2.2.1
        first | rw [if_neg (by decide)] at hfin | rw [if_pos (by decide)] at hfin
        subst hfin
        first | have hqp := of_decide_eq_true hq | have hqp := of_decide_eq_false hq
        clear hq
        go_wp2_with fail
        go_ret2
        refine ⟨_, rfl, ?_, HB3.out.1⟩
        first | exact FS.nil | exact HB3.out.2
set_option maxRecDepth 100000 in
set_option maxHeartbeats 1000000 in
theorem ShiftStepsR_any {S S' : Nat → Prop} (m : Mk) (u v : Value) (t : List (List Int)) (steps : List (Int × Int)) (W : World) (h : V2 S W u t) (hs : VS S' W v steps) :
    Calls Tryz.prog 17 #[.agg #[.int .i64 m.c, .int .i64 m.d, .int .i64 m.s, .int .i64 m.e, .int .i64 m.l, u], v] W fun e' w' => ∃ v', e' = .returned (.tuple #[v', .int .i64 (shiftAns m t steps).2]) ∧ VS (fun b => b < w'.heap.size) w' v' (shiftAns m t steps).1 ∧ Below W.heap.size W w' := by
  obtain ⟨iS, hiS, hzS0, hzS1, hzS2⟩ := info_parts inf_step
  obtain ⟨a, c, rfl, hmx⟩ := h.form
  obtain ⟨a', c', rfl, hmx'⟩ := hs.form
  obtain ⟨W1, hW1, hB01, hz01, HZ01, hc01, hh01⟩ := box_facts W #[.int .i64 m.c, .int .i64 m.d, .int .i64 m.s, .int .i64 m.e, .int .i64 m.l, .slice a t.length c] 28
  have hV1 : V2 (fun _ => True) W1 (.slice a t.length c) t := (h.below hB01).mono (fun _ _ _ => trivial) (fun _ _ _ => rfl)
  have hS1 : VS (fun _ => True) W1 (.slice a' steps.length c') steps := (hs.below hB01).mono (fun _ _ _ => trivial) (fun _ _ _ => rfl)
  cases hy : isSys m t
  · have hfin : shiftAns m t steps = ([], 1) := by unfold shiftAns; rw [if_pos hy]
    rw [hfin]
    have H := Lib.hid (And.intro hy hfin); clear hy hfin
    go_enter Tryz.func17, Tryz.ntmps17
    go_wp2_with fail
    rw [← hW1]
    refine (isSystemR_b m _ t _ _ H.out.1 hV1).mono ?_
    rintro e' w2 ⟨rfl, hb2⟩
    clear hc01 hh01
    go_wp2_with fail
    go_ret2
    exact ⟨_, rfl, (FS.nil (B := 0)).vs.old, hB01.trans (hb2.mono (by omega))⟩
  · have hir := fun w (hb : Below W1.heap.size W1 w) => IsRefutationR_any m (.slice a t.length c) (.slice a' steps.length c') t steps w (hV1.below hb) (hS1.below hb)
    cases hra : refAns m t steps
    · have hfin : shiftAns m t steps = ([], 5) := by unfold shiftAns; rw [if_neg (by rw [hy]; decide), if_neg (by rw [hra]; decide)]
      rw [hfin]
      simp only [hra] at hir
      have Hir := Lib.hid (And.intro hir hra); clear hir hra
      have H := Lib.hid (And.intro hy hfin); clear hy hfin
      go_enter Tryz.func17, Tryz.ntmps17
      go_wp2_with fail
      rw [← hW1]
      refine (isSystemR_b m _ t _ _ H.out.1 hV1).mono ?_
      rintro e' w2 ⟨rfl, hb2⟩
      have hx2 : ∀ o, w2.cell? ⟨W.heap.size, o, none⟩ = (#[.int .i64 m.c, .int .i64 m.d, .int .i64 m.s, .int .i64 m.e, .int .i64 m.l, .slice a t.length c] : Array Value)[o]? := fun o => by rw [(bcell hb2).1 _ _ hz01, hc01]
      have hz2 := hb2.size
      clear hc01 hh01
      have HW1 := Lib.hid hW1; clear hW1
      go_wp2_with fail
      refine (Hir.out.1 _ hb2).mono ?_
      rintro e' w3 ⟨rfl, hb3⟩
      have HB3 := Lib.hid (hB01.trans ((hb2.trans (hb3.mono hz2)).mono (by omega)))
      clear hx2
      go_wp2_with fail
      go_ret2
      exact ⟨_, rfl, (FS.nil (B := 0)).vs.old, HB3.out⟩
    · obtain ⟨hsys, hsl, hrb, hrd⟩ := refAns_len hra
      have hrok := rdRes_ok m t steps
      have hok := PartOk.nil hsys
      have hmk := Mk.ok_iff.1 hok.fits.ok
      have hrows := hok.fits.rows
      have hfin : shiftAns m t steps = ((rdRes m t steps).1.2, 0) := by unfold shiftAns; rw [if_neg (by rw [hy]; decide), if_pos hra]
      rw [hfin]
      simp only [hra] at hir
      have hrun := fun (shv : Value) (F : Nat → Prop) (w : World) (hsh : ShV steps shv F w (0, [])) (hF : ∀ b, F b → W1.heap.size ≤ b) (hb : Below W1.heap.size W1 w) =>
        l19Read_any m t m.c.toNat (by omega) steps hsl (.slice a t.length c) (.slice a' steps.length c') shv F t.length [] (.slice none 0 0) (0, []) w (by simp)
          ⟨hsh, ⟨Nat.zero_le _, rfl⟩, hV1.mono (fun b _ hlt hf => by have := hF b hf; omega) (fun b _ hlt => hb.block b hlt), hS1.mono (fun b _ hlt hf => by have := hF b hf; omega) (fun b _ hlt => hb.block b hlt), ⟨none, 0, rfl, Nat.le_refl _, Nat.zero_le _, fun k hk => by simp at hk⟩, fun _ => .inl rfl, hok, by simp; omega⟩
      have hrd0 : readF m.c.toNat t (keysOf m) steps t.length [] (0, []) = rdRes m t steps := rfl
      simp only [hrd0] at hrun
      obtain ⟨rr, hrr⟩ : ∃ r, rdRes m t steps = r := ⟨_, rfl⟩
      simp only [hrr] at hrun hrok hrb hrd hfin ⊢
      obtain ⟨⟨rd, gs⟩, rb⟩ := rr
      obtain rfl : rb = true := hrb
      obtain rfl : rd = steps.length := hrd
      have hgl : gs.length = steps.length := hrok.2
      have hend : ∀ (w : World) (shv : Value) (F : Nat → Prop), ShV steps shv F w ((steps.length, gs) : RSt) → (∃ G c, shv = .slice (some ⟨G, 0, none⟩) steps.length c) → VS (fun b => b < w.heap.size) w shv gs := by
        rintro w shv F (⟨rfl, _⟩ | ⟨G, c, cs, rfl, _, h3, h4, h5, _, h6⟩) ⟨G', c', e⟩
        · cases e
        · have hx : XS w (.slice (some ⟨G, 0, none⟩) steps.length c) gs G := by
            refine ⟨_, c, by rw [hgl], by rw [hgl]; exact h3, h4, fun _ => ⟨0, cs, _, rfl, h5, fun k hk => ?_⟩⟩
            have h7 := h6 k (by omega)
            simp only [List.drop_length, List.append_nil] at h7
            rw [Nat.zero_add]; exact h7
          exact (hx.vs (S := fun _ => True) (fun _ => trivial)).old
      have Hir := Lib.hid (And.intro hir (And.intro hra (And.intro hrun (And.intro hend (And.intro hrr hfin))))); clear hir hra hrun hend hrr hfin hrd0 hrok
      have H := Lib.hid hy; clear hy hok hmk hsys
      go_enter Tryz.func17, Tryz.ntmps17
      go_wp2_with fail
      rw [← hW1]
      refine (isSystemR_b m _ t _ _ H.out hV1).mono ?_
      rintro e' w2 ⟨rfl, hb2⟩
      have hx2 : ∀ o, w2.cell? ⟨W.heap.size, o, none⟩ = (#[.int .i64 m.c, .int .i64 m.d, .int .i64 m.s, .int .i64 m.e, .int .i64 m.l, .slice a t.length c] : Array Value)[o]? := fun o => by rw [(bcell hb2).1 _ _ hz01, hc01]
      have hz2 := hb2.size
      clear hh01
      have HW1 := Lib.hid hW1; clear hW1
      go_wp2_with fail
      refine (Hir.out.1 _ hb2).mono ?_
      rintro e' w3 ⟨rfl, hb3⟩
      have hb03 := hb2.trans (hb3.mono hz2)
      have hz3 := hb03.size
      have hz1 := HZ01.out
      have hx3 : ∀ o, w3.cell? ⟨W.heap.size, o, none⟩ = (#[.int .i64 m.c, .int .i64 m.d, .int .i64 m.s, .int .i64 m.e, .int .i64 m.l, .slice a t.length c] : Array Value)[o]? := fun o => by rw [(bcell hb03).1 _ _ hz01, hc01]
      clear hx2 hc01
      have hown0 := own_lit0 w3 w3.heap.size 101 2 (Nat.le_refl _)
      have hbA : Below w3.heap.size w3 (w3.alloc (.cells #[] 101)) := (Below.refl _ _).alloc (Nat.le_refl _) _
      have hzA : (w3.alloc (.cells #[] 101)).heap.size = w3.heap.size + 1 := by simp
      have hxA : ∀ o, (w3.alloc (.cells #[] 101)).cell? ⟨W.heap.size, o, none⟩ = (#[.int .i64 m.c, .int .i64 m.d, .int .i64 m.s, .int .i64 m.e, .int .i64 m.l, .slice a t.length c] : Array Value)[o]? := fun o => by rw [(bcell hbA).1 _ _ (by omega), hx3]
      by_cases hn : steps = []
      · subst hn
        have hsh : ShV [] (.slice (some ⟨w3.heap.size, 0, none⟩) 0 0) (fun b => b = w3.heap.size) (w3.alloc (.cells #[] 101)) (0, []) := .inr ⟨_, 0, #[], rfl, fun b => Iff.rfl, Nat.le_refl _, Nat.zero_le _, heap_alloc_self _ _, Nat.le_refl _, fun k hk => by simp at hk⟩
        have hcall := Hir.out.2.2.1 _ _ _ hsh (fun b hb => by have e : b = w3.heap.size := hb; omega) (hb03.trans (hbA.mono hz3))
        have Hc := Lib.hid hcall; clear hcall hsh
        go_wp2_with (at_builtin; refine wp_app_zero rfl _ _ 29 rfl w3.heap.size 101 iS 2 Tryz.underlying29 hiS _ _ _ rfl hown0 _ _ rfl ?_)
        refine Hc.out.mono ?_
        rintro e' w5 ⟨rfl, hsh5, hch5⟩
        have hB5 := (hB01.trans ((hb03.trans (hbA.mono hz3)).mono (by omega))).trans (hch5.to_below (B := W.heap.size) (fun i hi => by have e : i = w3.heap.size := hi; omega) (by omega))
        have hV5 := Hir.out.2.2.2.1 _ _ _ hsh5 ⟨_, _, rfl⟩
        have HF := Lib.hid (And.intro hV5 hB5); clear hV5 hB5 hsh5 hch5
        go_wp2_with fail
        go_ret2
        exact ⟨_, rfl, HF.out.1, HF.out.2⟩
      · have hV3 := hS1.below hb03
        have hsp : 0 < steps.length := List.length_pos_iff.2 hn
        obtain ⟨bs, offs, rfl, _, _, _⟩ := hV3.cell hsp
        have hnews : ∀ j u, (flatS steps)[j]? = some u → (w3.alloc (.cells #[] 101)).cell? ((⟨bs, offs, none⟩ : Addr).add j) = some u := by
          intro j u hj
          have hjl : j < steps.length * 2 := by rw [← flatS_len]; exact (List.getElem?_eq_some_iff.1 hj).1
          obtain ⟨b1, off1, e, _, h1, h2⟩ := (hV3.below hbA).cell (k := j / 2) (by omega)
          simp only [Option.some.injEq, Addr.mk.injEq, and_true] at e
          obtain ⟨rfl, rfl⟩ := e
          have hg := flatS_get (l := steps) (k := j / 2) (by omega)
          have hadd : (⟨bs, offs, none⟩ : Addr).add j = ⟨bs, offs + j, none⟩ := by unfold Addr.add; split <;> simp_all
          rw [hadd]
          rcases Nat.mod_two_eq_zero_or_one j with hm | hm
          · have ej : j = j / 2 * 2 := by omega
            rw [ej] at hj ⊢
            rw [hg.1] at hj
            rw [← hj]; exact h1
          · have ej : j = j / 2 * 2 + 1 := by omega
            rw [ej] at hj ⊢
            rw [hg.2] at hj
            rw [← hj]; exact h2
        have Hnews := Lib.hid hnews; clear hnews
        have hfl := flatS_len steps
        have hone : ∀ u ∈ flatS steps, u.oneCell' = true := fun u hu => by
          unfold flatS at hu
          obtain ⟨x, _, hx⟩ := List.mem_flatMap.1 hu
          simp only [List.mem_cons, List.not_mem_nil, or_false] at hx
          rcases hx with rfl | rfl <;> rfl
        have Hone := Lib.hid hone; clear hone
        go_wp2_with (at_builtin; refine wp_app rfl _ _ 29 rfl w3.heap.size 101 (.agg #[.int .i64 0, .int .i64 0]) 2 16 Tryz.underlying29 inf_step rfl (by omega) _ _ _ rfl hown0 _ _ _ (flatS steps) rfl (by omega) Hnews.out Hone.out (by unfold maxLen; omega) (by omega) (by simp) ?_; intro v4 w4 hown4 hgrow4 hblk4; have hB4 := hbA.grown hgrow4 (by simp) (fun k hk => by have := hown0.lt k hk; exact this.1); have hx4 : ∀ o, w4.cell? ⟨W.heap.size, o, none⟩ = (#[.int .i64 m.c, .int .i64 m.d, .int .i64 m.s, .int .i64 m.e, .int .i64 m.l, .slice a t.length c] : Array Value)[o]? := (fun o => by rw [(bcell hB4).1 _ _ (by omega), hx3]))
        have hown5 : w4.ownsRow w3.heap.size 101 2 v4 steps.length (flatS steps) := by simpa using hown4
        rcases hown5.2 with ⟨rfl, h0⟩ | ⟨g, cap, cur, rfl, hg1, hh4, h43, h44, h45, h46⟩
        · omega
        · have hsh : ShV steps (.slice (some ⟨g, 0, none⟩) steps.length cap) (fun b => b = g) w4 (0, []) := by
            refine .inr ⟨g, cap, cur, rfl, fun b => Iff.rfl, h43, h44, hh4, by omega, fun k hk => ?_⟩
            have h7 := flatS_get hk
            rw [← h46, List.getElem?_take, List.getElem?_take, if_pos (by omega), if_pos (by omega), Array.getElem?_toList, Array.getElem?_toList] at h7
            simpa using h7
          have hB4z := hB4.size
          have hcall := Hir.out.2.2.1 _ _ w4 hsh (fun b hb => by have e : b = g := hb; omega) (hb03.trans (hB4.mono hz3))
          have Hc := Lib.hid hcall; clear hcall hsh hh4 h46 hown4 hown5 hgrow4 hblk4 h45
          refine Hc.out.mono ?_
          rintro e' w5 ⟨rfl, hsh5, hch5⟩
          have hB5 := (hB01.trans ((hb03.trans (hB4.mono hz3)).mono (by omega))).trans (hch5.to_below (B := W.heap.size) (fun i hi => by have e : i = g := hi; omega) (by omega))
          have hV5 := Hir.out.2.2.2.1 _ _ _ hsh5 ⟨_, _, rfl⟩
          have HF := Lib.hid (And.intro hV5 hB5); clear hV5 hB5 hsh5 hch5
          go_wp2_with fail
          go_ret2
          exact ⟨_, rfl, HF.out.1, HF.out.2⟩
end Go.Proofs.YtmfgdoflddhngaaGreat

namespace Go.Proofs.YtmfgdoflddhngaaGreat
open Go.RowKit
set_option linter.unusedVariables false
set_option linter.unusedSimpArgs false

theorem refAnsC {m : Mk} {t : List (List Int)} (hy : isSys m t = true) : refuteAns m t = if (rfF m.c.toNat t (keysOf m) t.length [] []).2 = 0 then ((rfF m.c.toNat t (keysOf m) t.length [] []).1, 0) else ([], (rfF m.c.toNat t (keysOf m) t.length [] []).2) := by unfold refuteAns; rw [if_neg (by rw [hy]; decide)]
end Go.Proofs.YtmfgdoflddhngaaGreat
