/- The first false opening of partial cuts: plain facts. No conditions. -/
import Derived.OwnWalk
import Derived.Test.YtjkfgldmeenmjaaShortO
import Derived.Test.YtjkfgldmeenmjaaMLocks
import Derived.Test.YtjkfgldmeenmjaaRowsR
namespace Go.Proofs.Ytjkfgldmeenmjaa
open Go.RowKit
set_option linter.unusedVariables false
set_option linter.unusedSimpArgs false

/-- The first false opening, or 4. -/
def firstPair (L : List (List Int)) : Int × Int × Int := if L.length = 0 then (0, 0, 4) else (geti (getl L 0) 0, geti (getl L 0) 1, 0)
def pfAns (m : Mk) (t cuts : List (List Int)) : Int × Int × Int := if partC m t cuts ≠ 0 then (0, 0, partC m t cuts) else firstPair (falseL m.c.toNat t cuts)
theorem falseL_get {n : Nat} {t cuts : List (List Int)} {k : Nat} (hk : k < (falseL n t cuts).length) : ∃ i d : Nat, i < cuts.length ∧ d < (getl t 0).length ∧ getl (falseL n t cuts) k = [(i : Int), (d : Int)] ∧ geti (getl t i) d = 0 ∧ opensB (lockR n t cuts d) (getl cuts i) = true := by
  obtain ⟨i, d, h1, h2, h3, h4, h5⟩ := mem_falseRows.1 (getl_mem hk)
  rw [locksTo_get h2] at h5
  exact ⟨i, d, h1, h2, h3, h4, h5⟩
/-- A false opening has a reason. -/
theorem false_reason {n : Nat} {t cuts : List (List Int)} {i d : Nat} (hlen : (getl cuts i).length = n) (ho : opensB (lockR n t cuts d) (getl cuts i) = true) : allR (reasRows t cuts i d n) ≠ [] := by
  have hne : ∀ c, c < n → 0 < (reasRow t cuts i d c cuts.length).length := fun c hc => by
    have h1 := opensB_iff.1 ho c (by omega)
    rw [lockR, hullR_get hc] at h1
    have h2 := ((diffI_sort _).2 _).1 h1
    unfold colOf at h2
    obtain ⟨k, hk, e⟩ := List.mem_map.1 h2
    obtain ⟨j, hj, rfl, hj1⟩ := mem_doorCuts hk
    exact List.length_pos_of_mem (mem_reasRow.2 ⟨j, hj, rfl, hj1, e⟩)
  intro hnil
  have : ((List.range n).map fun c => geti (reasRow t cuts i d c cuts.length) 0) ∈ allR (reasRows t cuts i d n) := by
    refine mem_allR.2 ⟨by simp [reasRows_len], fun k hk => ?_⟩
    rw [reasRows_len] at hk
    rw [reasRows_get hk, geti_eq (by simpa using hk)]
    simp only [List.getElem_map, List.getElem_range]
    exact geti_mem (hne k hk)
  rw [hnil] at this
  cases this
theorem false_best {n : Nat} {t cuts : List (List Int)} {i d N : Nat} (hlen : (getl cuts i).length = n) (ho : opensB (lockR n t cuts d) (getl cuts i) = true) : ∃ b, bestW N (allR (reasRows t cuts i d n)) = some b := by
  cases h : bestW N (allR (reasRows t cuts i d n)) with
  | none => exact absurd (bestW_none.1 h) (false_reason hlen ho)
  | some b => exact ⟨b, rfl⟩
/-- The blamed rows. -/
def blameAns (m : Mk) (t cuts : List (List Int)) : List Int × Int :=
  if (pfAns m t cuts).2.2 ≠ 0 then ([], (pfAns m t cuts).2.2) else
    (diffI ((bestW (reasRows t cuts (pfAns m t cuts).1.toNat (pfAns m t cuts).2.1.toNat m.c.toNat).length (allR (reasRows t cuts (pfAns m t cuts).1.toNat (pfAns m t cuts).2.1.toNat m.c.toNat))).getD [] ++ [(pfAns m t cuts).1]), 0)
/-- What is known where there is a false opening. -/
theorem pf_ok {m : Mk} {t cuts : List (List Int)} (h : (pfAns m t cuts).2.2 = 0) : partC m t cuts = 0 ∧ ∃ i d : Nat, i < cuts.length ∧ d < (getl t 0).length ∧ pfAns m t cuts = ((i : Int), (d : Int), 0) ∧ opensB (lockR m.c.toNat t cuts d) (getl cuts i) = true := by
  unfold pfAns at h ⊢
  by_cases hp : partC m t cuts = 0
  · rw [if_neg (by rw [hp]; decide)] at h ⊢
    refine ⟨hp, ?_⟩
    unfold firstPair at h ⊢
    by_cases hl : (falseL m.c.toNat t cuts).length = 0
    · rw [if_pos hl] at h; exact absurd h (by decide)
    · rw [if_neg hl]
      obtain ⟨i, d, h1, h2, h3, h4, h5⟩ := falseL_get (k := 0) (Nat.pos_of_ne_zero hl)
      exact ⟨i, d, h1, h2, by rw [h3]; rfl, h5⟩
  · rw [if_pos hp] at h; exact absurd h hp
theorem blameAns_len (m : Mk) (t cuts : List (List Int)) : (blameAns m t cuts).1.length ≤ 1048576 := by
  unfold blameAns
  split
  · simp
  · rename_i hp
    obtain ⟨hpc, i, d, hi, hd, he, ho⟩ := pf_ok (Classical.not_not.1 hp)
    have hf := fits_of hpc
    have hmk := Mk.ok_iff.1 hf.ok
    rw [he]
    simp only [Int.toNat_natCast]
    have hR := reasRows_ok (t := t) (cuts := cuts) (key := i) (door := d) (n := m.c.toNat) (by have := hf.few; have := hf.rows; omega)
    obtain ⟨b, hb⟩ := false_best (N := (reasRows t cuts i d m.c.toNat).length) (by have := hf.lens i hi; omega) ho
    rw [hb]
    have h2 := (allR_dig hR (bestW_some hb).1).2
    rw [reasRows_len] at h2
    exact Nat.le_trans (diffI_len _ (by simp; omega)) (by omega)
end Go.Proofs.Ytjkfgldmeenmjaa

namespace Go.Proofs.Ytjkfgldmeenmjaa
open Go.RowKit
set_option linter.unusedVariables false
set_option linter.unusedSimpArgs false

set_option maxRecDepth 100000 in
set_option maxHeartbeats 1000000 in
theorem PartFault_any {S S' : Nat → Prop} (m : Mk) (u v : Value) (t cuts : List (List Int)) (W : World) (h : V2 S W u t) (hc : V2 S' W v cuts) :
    Calls Try.prog 47 #[.agg #[.int .i64 m.c, .int .i64 m.d, .int .i64 m.s, .int .i64 m.e, .int .i64 m.l, u], v] W fun e' w' => e' = .returned (.tuple #[.int .i64 (pfAns m t cuts).1, .int .i64 (pfAns m t cuts).2.1, .int .i64 (pfAns m t cuts).2.2]) ∧ Below W.heap.size W w' := by
  obtain ⟨a, c, rfl, hmx⟩ := h.form
  obtain ⟨a', c', rfl, hmx'⟩ := hc.form
  obtain ⟨W1, hW1, hB01, hz01, HZ01, hc01, hh01⟩ := box_facts W #[.int .i64 m.c, .int .i64 m.d, .int .i64 m.s, .int .i64 m.e, .int .i64 m.l, .slice a t.length c] 34
  have hV1 : V2 (fun _ => True) W1 (.slice a t.length c) t := (h.below hB01).mono (fun _ _ _ => trivial) (fun _ _ _ => rfl)
  have hC1 : V2 (fun _ => True) W1 (.slice a' cuts.length c') cuts := (hc.below hB01).mono (fun _ _ _ => trivial) (fun _ _ _ => rfl)
  have hpart := partCode_any m _ _ t cuts W1 hV1 hC1
  by_cases hp : partC m t cuts = 0
  · rw [hp] at hpart
    have hf := fits_of hp
    have hmk := Mk.ok_iff.1 hf.ok
    have hpf := fun w (hb : Below W1.heap.size W1 w) => partFaults_any m _ _ t cuts m.c.toNat w hf (by omega) (hV1.below hb) (hC1.below hb)
    have hget := fun (hk : 0 < (falseL m.c.toNat t cuts).length) => falseL_get hk
    have hfin : pfAns m t cuts = firstPair (falseL m.c.toNat t cuts) := by unfold pfAns; rw [if_neg (by rw [hp]; decide)]
    rw [hfin]
    obtain ⟨L, hL⟩ : ∃ L, falseL m.c.toNat t cuts = L := ⟨_, rfl⟩
    rw [hL] at hget ⊢
    simp only [hL] at hpf
    by_cases hL0 : L.length = 0
    · have hfp : firstPair L = (0, 0, 4) := by unfold firstPair; rw [if_pos hL0]
      rw [hfp]
      have hd : ((L.length : Int) == 0) = true := by simp [hL0]
      have Hd := Lib.hid hd
      have H := Lib.hid (And.intro hpart (And.intro hpf (And.intro hfp (And.intro hf hL)))); clear hpart hpf hfp hf hL hL0 hd hfin hget hp hmk
      go_enter Try.func47, Try.ntmps47
      go_wp2_with fail
      rw [← hW1]
      refine H.out.1.mono ?_
      rintro e' w2 ⟨rfl, hb2⟩
      have hx2 : ∀ o, w2.cell? ⟨W.heap.size, o, none⟩ = (#[.int .i64 m.c, .int .i64 m.d, .int .i64 m.s, .int .i64 m.e, .int .i64 m.l, .slice a t.length c] : Array Value)[o]? := fun o => by rw [(bcell hb2).1 _ _ hz01, hc01]
      have hz2 : W.heap.size < w2.heap.size := by have := hb2.size; omega
      clear hc01 hh01
      have HW1 := Lib.hid hW1; clear hW1
      go_wp2_with fail
      refine (H.out.2.1 _ hb2).mono ?_
      rintro e' w3 ⟨v3, rfl, hF3, hb3⟩
      obtain ⟨a3, c3, rfl, _⟩ := hF3.v2.form
      have hd := Hd.out
      clear hx2 hF3
      go_wp2_with fail
      go_ret3
      exact ⟨rfl, hB01.trans ((hb2.trans (hb3.mono hb2.size)).mono (by omega))⟩
    · obtain ⟨i, d, hi, hdd, hge, _, _⟩ := hget (by omega)
      have hfp : firstPair L = ((i : Int), (d : Int), 0) := by unfold firstPair; rw [if_neg hL0, hge]; rfl
      rw [hfp]
      have hL1 : 0 < L.length := by omega
      have hd : ((L.length : Int) == 0) = false := by rw [beq_eq_false_iff_ne]; omega
      have Hd := Lib.hid hd
      have H := Lib.hid (And.intro hpart (And.intro hpf (And.intro hfp (And.intro hf (And.intro hL hge))))); clear hpart hpf hfp hf hL hL0 hd hfin hget hp hmk hge hdd hi
      go_enter Try.func47, Try.ntmps47
      go_wp2_with fail
      rw [← hW1]
      refine H.out.1.mono ?_
      rintro e' w2 ⟨rfl, hb2⟩
      have hx2 : ∀ o, w2.cell? ⟨W.heap.size, o, none⟩ = (#[.int .i64 m.c, .int .i64 m.d, .int .i64 m.s, .int .i64 m.e, .int .i64 m.l, .slice a t.length c] : Array Value)[o]? := fun o => by rw [(bcell hb2).1 _ _ hz01, hc01]
      have hz2 : W.heap.size < w2.heap.size := by have := hb2.size; omega
      clear hc01 hh01
      have HW1 := Lib.hid hW1; clear hW1
      go_wp2_with fail
      refine (H.out.2.1 _ hb2).mono ?_
      rintro e' w3 ⟨v3, rfl, hF3, hb3⟩
      obtain ⟨a3, c3, rfl, _⟩ := hF3.v2.form
      obtain ⟨b4, off4, a4, c4, rfl, _, hc4, hr4⟩ := hF3.v2.cell hL1
      rw [H.out.2.2.2.2.2] at hc4 hr4
      obtain ⟨b5, off5, rfl, _, hc5⟩ := hr4.cell (k := 0) (by simp)
      obtain ⟨b6, off6, e6, _, hc6⟩ := hr4.cell (k := 1) (by simp)
      obtain ⟨rfl, rfl⟩ : b5 = b6 ∧ off5 = off6 := by simpa using e6
      simp only [geti, List.getD_cons_zero, List.getD_cons_succ, List.length_cons, List.length_nil, Nat.add_zero, Nat.zero_add] at hc4 hc5 hc6
      have hd := Hd.out
      clear hx2 hF3 hr4 e6
      go_wp2_with fail
      go_region
      all_goals
        go_wp2_with fail
        go_ret3
        exact ⟨rfl, hB01.trans ((hb2.trans ((hb3.trans ((Below.refl _ _).drew.mono hb3.size)).mono hb2.size)).mono (by omega))⟩
  · have hfin : pfAns m t cuts = (0, 0, partC m t cuts) := by unfold pfAns; rw [if_pos hp]
    have e1 : (partC m t cuts != 0) = true := by simp [hp]
    rw [hfin]
    have Hp := Lib.hid hp; clear hp hfin
    generalize partC m t cuts = pc at *
    go_enter Try.func47, Try.ntmps47
    go_wp2_with fail
    rw [← hW1]
    refine hpart.mono ?_
    rintro e' w2 ⟨rfl, hb2⟩
    clear hc01 hh01
    go_wp2_with fail
    go_ret3
    exact ⟨rfl, hB01.trans (hb2.mono (by omega))⟩
set_option maxRecDepth 100000 in
set_option maxHeartbeats 1000000 in
theorem PartFaultR_any {S S' : Nat → Prop} (m : Mk) (u v : Value) (t cuts : List (List Int)) (W : World) (h : V2 S W u t) (hc : V2 S' W v cuts) :
    Calls Try.prog 41 #[.agg #[.int .i64 m.c, .int .i64 m.d, .int .i64 m.s, .int .i64 m.e, .int .i64 m.l, u], v] W fun e' w' => e' = .returned (.tuple #[.int .i64 (pfAns m t cuts).1, .int .i64 (pfAns m t cuts).2.1, .int .i64 (pfAns m t cuts).2.2]) ∧ Below W.heap.size W w' := by
  obtain ⟨a, c, rfl, hmx⟩ := h.form
  obtain ⟨a', c', rfl, hmx'⟩ := hc.form
  obtain ⟨W1, hW1, hB01, hz01, HZ01, hc01, hh01⟩ := box_facts W #[.int .i64 m.c, .int .i64 m.d, .int .i64 m.s, .int .i64 m.e, .int .i64 m.l, .slice a t.length c] 34
  have hV1 : V2 (fun _ => True) W1 (.slice a t.length c) t := (h.below hB01).mono (fun _ _ _ => trivial) (fun _ _ _ => rfl)
  have hC1 : V2 (fun _ => True) W1 (.slice a' cuts.length c') cuts := (hc.below hB01).mono (fun _ _ _ => trivial) (fun _ _ _ => rfl)
  have hpart := l16Code_any m _ _ t cuts W1 hV1 hC1
  by_cases hp : partC m t cuts = 0
  · rw [hp] at hpart
    have hf := fits_of hp
    have hmk := Mk.ok_iff.1 hf.ok
    have hpf := fun w (hb : Below W1.heap.size W1 w) => l15False_any m _ _ t cuts m.c.toNat w hf (by omega) (hV1.below hb) (hC1.below hb)
    have hget := fun (hk : 0 < (falseL m.c.toNat t cuts).length) => falseL_get hk
    have hfin : pfAns m t cuts = firstPair (falseL m.c.toNat t cuts) := by unfold pfAns; rw [if_neg (by rw [hp]; decide)]
    rw [hfin]
    obtain ⟨L, hL⟩ : ∃ L, falseL m.c.toNat t cuts = L := ⟨_, rfl⟩
    rw [hL] at hget ⊢
    simp only [hL] at hpf
    by_cases hL0 : L.length = 0
    · have hfp : firstPair L = (0, 0, 4) := by unfold firstPair; rw [if_pos hL0]
      rw [hfp]
      have hd : ((L.length : Int) == 0) = true := by simp [hL0]
      have Hd := Lib.hid hd
      have H := Lib.hid (And.intro hpart (And.intro hpf (And.intro hfp (And.intro hf hL)))); clear hpart hpf hfp hf hL hL0 hd hfin hget hp hmk
      go_enter Try.func41, Try.ntmps41
      go_wp2_with fail
      rw [← hW1]
      refine H.out.1.mono ?_
      rintro e' w2 ⟨rfl, hb2⟩
      have hx2 : ∀ o, w2.cell? ⟨W.heap.size, o, none⟩ = (#[.int .i64 m.c, .int .i64 m.d, .int .i64 m.s, .int .i64 m.e, .int .i64 m.l, .slice a t.length c] : Array Value)[o]? := fun o => by rw [(bcell hb2).1 _ _ hz01, hc01]
      have hz2 : W.heap.size < w2.heap.size := by have := hb2.size; omega
      clear hc01 hh01
      have HW1 := Lib.hid hW1; clear hW1
      go_wp2_with fail
      refine (H.out.2.1 _ hb2).mono ?_
      rintro e' w3 ⟨v3, rfl, hF3, hb3⟩
      obtain ⟨a3, c3, rfl, _⟩ := hF3.v2.form
      have hd := Hd.out
      clear hx2 hF3
      go_wp2_with fail
      go_ret3
      exact ⟨rfl, hB01.trans ((hb2.trans (hb3.mono hb2.size)).mono (by omega))⟩
    · obtain ⟨i, d, hi, hdd, hge, _, _⟩ := hget (by omega)
      have hfp : firstPair L = ((i : Int), (d : Int), 0) := by unfold firstPair; rw [if_neg hL0, hge]; rfl
      rw [hfp]
      have hL1 : 0 < L.length := by omega
      have hd : ((L.length : Int) == 0) = false := by rw [beq_eq_false_iff_ne]; omega
      have Hd := Lib.hid hd
      have H := Lib.hid (And.intro hpart (And.intro hpf (And.intro hfp (And.intro hf (And.intro hL hge))))); clear hpart hpf hfp hf hL hL0 hd hfin hget hp hmk hge hdd hi
      go_enter Try.func41, Try.ntmps41
      go_wp2_with fail
      rw [← hW1]
      refine H.out.1.mono ?_
      rintro e' w2 ⟨rfl, hb2⟩
      have hx2 : ∀ o, w2.cell? ⟨W.heap.size, o, none⟩ = (#[.int .i64 m.c, .int .i64 m.d, .int .i64 m.s, .int .i64 m.e, .int .i64 m.l, .slice a t.length c] : Array Value)[o]? := fun o => by rw [(bcell hb2).1 _ _ hz01, hc01]
      have hz2 : W.heap.size < w2.heap.size := by have := hb2.size; omega
      clear hc01 hh01
      have HW1 := Lib.hid hW1; clear hW1
      go_wp2_with fail
      refine (H.out.2.1 _ hb2).mono ?_
      rintro e' w3 ⟨v3, rfl, hF3, hb3⟩
      obtain ⟨a3, c3, rfl, _⟩ := hF3.v2.form
      obtain ⟨b4, off4, a4, c4, rfl, _, hc4, hr4⟩ := hF3.v2.cell hL1
      rw [H.out.2.2.2.2.2] at hc4 hr4
      obtain ⟨b5, off5, rfl, _, hc5⟩ := hr4.cell (k := 0) (by simp)
      obtain ⟨b6, off6, e6, _, hc6⟩ := hr4.cell (k := 1) (by simp)
      obtain ⟨rfl, rfl⟩ : b5 = b6 ∧ off5 = off6 := by simpa using e6
      simp only [geti, List.getD_cons_zero, List.getD_cons_succ, List.length_cons, List.length_nil, Nat.add_zero, Nat.zero_add] at hc4 hc5 hc6
      have hd := Hd.out
      clear hx2 hF3 hr4 e6
      go_wp2_with fail
      go_region
      all_goals
        go_wp2_with fail
        go_ret3
        exact ⟨rfl, hB01.trans ((hb2.trans ((hb3.trans ((Below.refl _ _).drew.mono hb3.size)).mono hb2.size)).mono (by omega))⟩
  · have hfin : pfAns m t cuts = (0, 0, partC m t cuts) := by unfold pfAns; rw [if_pos hp]
    have e1 : (partC m t cuts != 0) = true := by simp [hp]
    rw [hfin]
    have Hp := Lib.hid hp; clear hp hfin
    generalize partC m t cuts = pc at *
    go_enter Try.func41, Try.ntmps41
    go_wp2_with fail
    rw [← hW1]
    refine hpart.mono ?_
    rintro e' w2 ⟨rfl, hb2⟩
    clear hc01 hh01
    go_wp2_with fail
    go_ret3
    exact ⟨rfl, hB01.trans (hb2.mono (by omega))⟩
end Go.Proofs.Ytjkfgldmeenmjaa
