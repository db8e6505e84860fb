/- What the program and the reference answer on cuts and on designs: their codes. No conditions. -/
import Derived.Test.YtikdbjaimcciiaaGreatMLocks
import Derived.Test.YtikdbjaimcciiaaGreatMReas
namespace Go.Proofs.YtikdbjaimcciiaaGreat
open Go.RowKit
set_option linter.unusedVariables false
set_option linter.unusedSimpArgs false

/-- The code of a system and cuts for all rows. -/
def cutC (m : Mk) (t cuts : List (List Int)) : Int := if isSys m t = false then 1 else if cuts.length ≠ t.length then 2 else if allKeys m cuts = false then 2 else 0
theorem cutC_ok {m : Mk} {t cuts : List (List Int)} : cutC m t cuts = 0 ↔ isSys m t = true ∧ cuts.length = t.length ∧ allKeys m cuts = true := by
  unfold cutC
  cases isSys m t <;> cases allKeys m cuts <;> simp
theorem cutC_part {m : Mk} {t cuts : List (List Int)} (h : cutC m t cuts = 0) : partC m t cuts = 0 := by
  obtain ⟨h1, h2, h3⟩ := cutC_ok.1 h
  exact partC_ok.2 ⟨h1, by omega, h3⟩
theorem one6_keep {b : Nat} {w0 w w' : World} {cs : Array Value} (hb1 : b < w0.heap.size) (h : (∀ o, w.cell? ⟨b, o, none⟩ = cs[o]?) ∧ Below w0.heap.size w0 w) (hb : Below w.heap.size w w') :
    (∀ o, w'.cell? ⟨b, o, none⟩ = cs[o]?) ∧ Below w0.heap.size w0 w' := one_keep hb1 h hb

set_option maxRecDepth 100000 in
theorem cutsCode_any {S S' : Nat → Prop} (m : Mk) (u v : Value) (t cuts : List (List Int)) (W : World) (h : V2 S W u t) (hc : V2 S' W v cuts) :
    Calls Tryz.prog 85 #[.agg #[.int .i64 m.c, .int .i64 m.d, .int .i64 m.s, .int .i64 m.e, .int .i64 m.l, u], v] W fun e' w' => e' = .returned (.int .i64 (cutC m t cuts)) ∧ Below W.heap.size W w' := by
  obtain ⟨a, c, rfl, hmx⟩ := h.form
  obtain ⟨a', c', rfl, hmx'⟩ := hc.form
  obtain ⟨W1, hW1, hB01, hz01, HZ01, hc01, hh01⟩ := box_facts W #[.int .i64 m.c, .int .i64 m.d, .int .i64 m.s, .int .i64 m.e, .int .i64 m.l, .slice a t.length c] 28
  have hV1 := (h.below hB01).any
  have hC1 := (hc.below hB01).any
  cases hs : isSys m t
  · have hfin : cutC m t cuts = 1 := by unfold cutC; rw [if_pos hs]
    rw [hfin]
    have Hs := Lib.hid hs; clear hs hfin
    go_enter Tryz.func85, Tryz.ntmps85
    go_wp2_with fail
    rw [← hW1]
    refine (isSystem_b m _ t _ _ Hs.out hV1).mono ?_
    rintro e' w2 ⟨rfl, hb2⟩
    clear hc01 hh01
    go_wp2_with fail
    go_ret
    exact ⟨rfl, hB01.trans (hb2.mono (by omega))⟩
  · obtain ⟨hok, htab, _⟩ := isSys_parts hs
    have htl := (isTab_iff.1 htab).1
    clear htab
    by_cases hl : cuts.length = t.length
    · have hd : ((cuts.length : Int) != (t.length : Int)) = false := by simp [hl]
      cases hk : allKeys m cuts
      all_goals
        first | (have hfin : cutC m t cuts = 2 := (by unfold cutC; rw [if_neg (by rw [hs]; decide), if_neg (by omega), if_pos hk])) | (have hfin : cutC m t cuts = 0 := (by unfold cutC; rw [if_neg (by rw [hs]; decide), if_neg (by omega), if_neg (by rw [hk]; decide)]))
        rw [hfin]
        have Hs := Lib.hid hs; clear hs hfin
        have Hk := Lib.hid hk; clear hk
        have Hok := Lib.hid hok; clear hok
        have Hl := Lib.hid hl; clear hl
        go_enter Tryz.func85, Tryz.ntmps85
        go_wp2_with fail
        rw [← hW1]
        refine (isSystem_b m _ t _ _ Hs.out hV1).mono ?_
        rintro e' w2 ⟨rfl, hb2⟩
        have hx2 : ∀ o, w2.cell? ⟨W.heap.size, o, none⟩ = (#[.int .i64 m.c, .int .i64 m.d, .int .i64 m.s, .int .i64 m.e, .int .i64 m.l, .slice a t.length c] : Array Value)[o]? := fun o => by rw [(bcell hb2).1 _ _ hz01, hc01]
        clear hc01 hh01
        go_wp2_with (refine (areKeys_b m Hok.out _ cuts _ _ Hk.out (hC1.below hb2)).mono ?_; rintro e' w' ⟨rfl, hb3⟩)
        go_ret
        exact ⟨rfl, hB01.trans ((hb2.trans (hb3.mono hb2.size)).mono (by omega))⟩
    · have hfin : cutC m t cuts = 2 := by unfold cutC; rw [if_neg (by rw [hs]; decide), if_pos (by omega)]
      have hd : ((cuts.length : Int) != (t.length : Int)) = true := by simp; omega
      rw [hfin]
      have Hs := Lib.hid hs; clear hs hok hfin
      go_enter Tryz.func85, Tryz.ntmps85
      go_wp2_with fail
      rw [← hW1]
      refine (isSystem_b m _ t _ _ Hs.out hV1).mono ?_
      rintro e' w2 ⟨rfl, hb2⟩
      have hx2 : ∀ o, w2.cell? ⟨W.heap.size, o, none⟩ = (#[.int .i64 m.c, .int .i64 m.d, .int .i64 m.s, .int .i64 m.e, .int .i64 m.l, .slice a t.length c] : Array Value)[o]? := fun o => by rw [(bcell hb2).1 _ _ hz01, hc01]
      clear hc01 hh01
      go_wp2_with fail
      go_ret
      exact ⟨rfl, hB01.trans (hb2.mono (by omega))⟩

def cutsB (m : Mk) (t cuts : List (List Int)) : Bool := decide (cuts.length = t.length) && allKeys m cuts
theorem cutsB_no {m : Mk} {t cuts : List (List Int)} (hs : isSys m t = true) (hk : cutsB m t cuts = false) : cutC m t cuts = 2 := by
  unfold cutC
  rw [if_neg (by rw [hs]; decide)]
  by_cases hl : cuts.length = t.length
  · rw [if_neg (by omega)]
    unfold cutsB at hk
    rw [decide_eq_true hl, Bool.true_and] at hk
    rw [if_pos hk]
  · rw [if_pos hl]
theorem cutsB_yes {m : Mk} {t cuts : List (List Int)} (hs : isSys m t = true) (hk : cutsB m t cuts = true) : cutC m t cuts = 0 := by
  unfold cutsB at hk
  simp only [Bool.and_eq_true, decide_eq_true_eq] at hk
  exact cutC_ok.2 ⟨hs, hk.1, hk.2⟩
set_option maxRecDepth 100000 in
theorem l15Cuts_any {S S' : Nat → Prop} (m : Mk) (hok : m.ok = true) (u v : Value) (t cuts : List (List Int)) (W : World) (r : Bool) (hr : cutsB m t cuts = r) (h : V2 S W u t) (hc : V2 S' W v cuts) (ht : t.length ≤ 10) :
    Calls Tryz.prog 169 #[.agg #[.int .i64 m.c, .int .i64 m.d, .int .i64 m.s, .int .i64 m.e, .int .i64 m.l, u], v] W fun e' w' => e' = .returned (.bool r) ∧ Below W.heap.size W w' := by
  obtain ⟨a, c, rfl, hmx⟩ := h.form
  obtain ⟨a', c', rfl, hmx'⟩ := hc.form
  obtain ⟨W1, hW1, hB01, hz01, HZ01, hc01, hh01⟩ := box_facts W #[.int .i64 m.c, .int .i64 m.d, .int .i64 m.s, .int .i64 m.e, .int .i64 m.l, .slice a t.length c] 28
  have hC1 := (hc.below hB01).any
  unfold cutsB at hr
  by_cases hl : cuts.length = t.length
  · have hd : ((cuts.length : Int) == (t.length : Int)) = true := by simp [hl]
    rw [decide_eq_true hl, Bool.true_and] at hr
    have Hr := Lib.hid hr; clear hr
    have Hok := Lib.hid hok; clear hok
    have hl300 : cuts.length ≤ 300 := by omega
    have Hl := Lib.hid hl; clear hl
    go_enter Tryz.func169, Tryz.ntmps169
    go_wp2_with fail
    rw [← hW1]
    refine (l04Keys_b m Hok.out _ cuts _ _ Hr.out hC1 hl300).mono ?_
    rintro e' w2 ⟨rfl, hb2⟩
    clear hc01 hh01
    go_wp2_with fail
    go_ret
    exact ⟨rfl, hB01.trans (hb2.mono (by omega))⟩
  · have hd : ((cuts.length : Int) == (t.length : Int)) = false := by simp; omega
    rw [decide_eq_false hl, Bool.false_and] at hr
    subst hr
    go_enter Tryz.func169, Tryz.ntmps169
    go_wp2_with fail
    rw [← hW1]
    clear hc01 hh01
    go_ret
    exact ⟨rfl, hB01⟩
set_option maxRecDepth 100000 in
theorem l15Code_any {S S' : Nat → Prop} (m : Mk) (u v : Value) (t cuts : List (List Int)) (W : World) (h : V2 S W u t) (hc : V2 S' W v cuts) :
    Calls Tryz.prog 87 #[.agg #[.int .i64 m.c, .int .i64 m.d, .int .i64 m.s, .int .i64 m.e, .int .i64 m.l, u], v] W fun e' w' => e' = .returned (.int .i64 (cutC m t cuts)) ∧ Below W.heap.size W w' := by
  obtain ⟨a, c, rfl, hmx⟩ := h.form
  obtain ⟨a', c', rfl, hmx'⟩ := hc.form
  obtain ⟨W1, hW1, hB01, hz01, HZ01, hc01, hh01⟩ := box_facts W #[.int .i64 m.c, .int .i64 m.d, .int .i64 m.s, .int .i64 m.e, .int .i64 m.l, .slice a t.length c] 28
  have hV1 := (h.below hB01).any
  have hC1 := (hc.below hB01).any
  cases hs : isSys m t
  · have hfin : cutC m t cuts = 1 := by unfold cutC; rw [if_pos hs]
    rw [hfin]
    have Hs := Lib.hid hs; clear hs hfin
    go_enter Tryz.func87, Tryz.ntmps87
    go_wp2_with fail
    rw [← hW1]
    refine (isSystemR_b m _ t _ _ Hs.out hV1).mono ?_
    rintro e' w2 ⟨rfl, hb2⟩
    clear hc01 hh01
    go_wp2_with fail
    go_ret
    exact ⟨rfl, hB01.trans (hb2.mono (by omega))⟩
  · obtain ⟨hok, htab, _⟩ := isSys_parts hs
    have htl := (isTab_iff.1 htab).1
    clear htab
    cases hk : cutsB m t cuts
    all_goals
      first | (have hfin : cutC m t cuts = 2 := cutsB_no hs hk) | (have hfin : cutC m t cuts = 0 := cutsB_yes hs hk)
      rw [hfin]
      have Hs := Lib.hid hs; clear hs hfin
      have Hk := Lib.hid hk; clear hk
      have Hok := Lib.hid hok; clear hok
      go_enter Tryz.func87, Tryz.ntmps87
      go_wp2_with fail
      rw [← hW1]
      refine (isSystemR_b m _ t _ _ Hs.out hV1).mono ?_
      rintro e' w2 ⟨rfl, hb2⟩
      have hx2 : ∀ o, w2.cell? ⟨W.heap.size, o, none⟩ = (#[.int .i64 m.c, .int .i64 m.d, .int .i64 m.s, .int .i64 m.e, .int .i64 m.l, .slice a t.length c] : Array Value)[o]? := fun o => by rw [(bcell hb2).1 _ _ hz01, hc01]
      clear hc01 hh01
      have hz2 : W.heap.size < w2.heap.size := by have := hb2.size; omega
      go_wp2_with fail
      refine (l15Cuts_any m Hok.out _ _ t cuts _ _ Hk.out (hV1.below hb2) (hC1.below hb2) htl.2).mono ?_
      rintro e' w3 ⟨rfl, hb3⟩
      clear hx2
      go_wp2_with fail
      go_ret
      exact ⟨rfl, hB01.trans ((hb2.trans (hb3.mono hb2.size)).mono (by omega))⟩

/-- A design: cuts of all rows without false openings. -/
def designB (m : Mk) (t cuts : List (List Int)) : Bool := decide (cutC m t cuts = 0) && decide ((falseL m.c.toNat t cuts).length = 0)
def designC (m : Mk) (t cuts : List (List Int)) : Int := if designB m t cuts = true then 0 else 1
theorem designB_ok {m : Mk} {t cuts : List (List Int)} : designB m t cuts = true ↔ cutC m t cuts = 0 ∧ (falseL m.c.toNat t cuts).length = 0 := by
  unfold designB; simp
theorem designC_ok {m : Mk} {t cuts : List (List Int)} (h : designC m t cuts = 0) : cutC m t cuts = 0 ∧ (falseL m.c.toNat t cuts).length = 0 := by
  unfold designC at h
  split at h
  · rename_i h1; exact designB_ok.1 h1
  · cases h
theorem design_fits {m : Mk} {t cuts : List (List Int)} (h : designC m t cuts = 0) : Fits m t cuts ∧ cuts.length = t.length := by
  obtain ⟨h1, _⟩ := designC_ok h
  exact ⟨fits_of (cutC_part h1), (cutC_ok.1 h1).2.1⟩
theorem mc_nat {m : Mk} (h : m.ok = true) : ((m.c.toNat : Nat) : Int) = m.c := by have := Mk.ok_iff.1 h; omega

set_option maxRecDepth 100000 in
theorem IsDesign_b {S S' : Nat → Prop} (m : Mk) (u v : Value) (t cuts : List (List Int)) (W : World) (r : Bool) (hr : designB m t cuts = r) (h : V2 S W u t) (hc : V2 S' W v cuts) :
    Calls Tryz.prog 16 #[.agg #[.int .i64 m.c, .int .i64 m.d, .int .i64 m.s, .int .i64 m.e, .int .i64 m.l, u], v] W fun e' w' => e' = .returned (.bool r) ∧ Below W.heap.size W w' := by
  obtain ⟨a, c, rfl, hmx⟩ := h.form
  obtain ⟨a', c', rfl, hmx'⟩ := hc.form
  obtain ⟨W1, hW1, hB01, hz01, HZ01, hc01, hh01⟩ := box_facts W #[.int .i64 m.c, .int .i64 m.d, .int .i64 m.s, .int .i64 m.e, .int .i64 m.l, .slice a t.length c] 28
  have hV1 := (h.below hB01).any
  have hC1 := (hc.below hB01).any
  have hcode := cutsCode_any m _ _ t cuts W1 hV1 hC1
  unfold designB at hr
  by_cases hp : cutC m t cuts = 0
  · rw [decide_eq_true hp, Bool.true_and] at hr
    rw [hp] at hcode
    have hf := fits_of (cutC_part hp)
    have hmc := mc_nat hf.ok
    have hfl := falseRows_len t cuts (locksTo m.c.toNat t cuts (getl t 0).length) (getl t 0).length cuts.length
    have him : cuts.length * (getl t 0).length ≤ 10 * 12 := Nat.mul_le_mul (by have := hf.few; have := hf.rows; omega) hf.doors.2
    have hfl2 : (falseL m.c.toNat t cuts).length ≤ 120 := Nat.le_trans hfl him
    have Hf := Lib.hid (And.intro hf hmc); clear hf hmc hfl him
    have Hcode := Lib.hid hcode; clear hcode
    have Hp := Lib.hid hp; clear hp
    have hd : (((falseL m.c.toNat t cuts).length : Int) == 0) = r := by rw [← hr, Bool.eq_iff_iff]; simp
    have Hd := Lib.hid hd; clear hd hr
    go_enter Tryz.func16, Tryz.ntmps16
    go_wp2_with fail
    rw [← hW1]
    refine Hcode.out.mono ?_
    rintro e' w2 ⟨rfl, hb2⟩
    have hx2 : ∀ o, w2.cell? ⟨W.heap.size, o, none⟩ = (#[.int .i64 m.c, .int .i64 m.d, .int .i64 m.s, .int .i64 m.e, .int .i64 m.l, .slice a t.length c] : Array Value)[o]? := fun o => by rw [(bcell hb2).1 _ _ hz01, hc01]
    have hz2 : W.heap.size < w2.heap.size := by have := hb2.size; omega
    clear hc01 hh01
    go_wp2_with fail
    refine (partFaults_any m _ _ t cuts m.c.toNat _ Hf.out.1 Hf.out.2 (hV1.below hb2) (hC1.below hb2)).mono ?_
    rintro e' w3 ⟨v3, rfl, hF3, hb3⟩
    obtain ⟨a3, c3, rfl, _⟩ := hF3.v2.form
    have hd := Hd.out
    clear hx2 hF3
    go_wp2_with fail
    go_ret
    exact ⟨rfl, hB01.trans ((hb2.trans (hb3.mono hb2.size)).mono (by omega))⟩
  · rw [decide_eq_false hp, Bool.false_and] at hr
    subst hr
    have e1 : (cutC m t cuts == 0) = false := by simp [hp]
    have Hp := Lib.hid hp; clear hp
    generalize cutC m t cuts = pc at *
    go_enter Tryz.func16, Tryz.ntmps16
    go_wp2_with fail
    rw [← hW1]
    refine hcode.mono ?_
    rintro e' w2 ⟨rfl, hb2⟩
    clear hc01 hh01
    go_wp2_with fail
    go_ret
    exact ⟨rfl, hB01.trans (hb2.mono (by omega))⟩
set_option maxRecDepth 100000 in
theorem IsDesignR_b {S S' : Nat → Prop} (m : Mk) (u v : Value) (t cuts : List (List Int)) (W : World) (r : Bool) (hr : designB m t cuts = r) (h : V2 S W u t) (hc : V2 S' W v cuts) :
    Calls Tryz.prog 18 #[.agg #[.int .i64 m.c, .int .i64 m.d, .int .i64 m.s, .int .i64 m.e, .int .i64 m.l, u], v] W fun e' w' => e' = .returned (.bool r) ∧ Below W.heap.size W w' := by
  obtain ⟨a, c, rfl, hmx⟩ := h.form
  obtain ⟨a', c', rfl, hmx'⟩ := hc.form
  obtain ⟨W1, hW1, hB01, hz01, HZ01, hc01, hh01⟩ := box_facts W #[.int .i64 m.c, .int .i64 m.d, .int .i64 m.s, .int .i64 m.e, .int .i64 m.l, .slice a t.length c] 28
  have hV1 := (h.below hB01).any
  have hC1 := (hc.below hB01).any
  have hcode := l15Code_any m _ _ t cuts W1 hV1 hC1
  unfold designB at hr
  by_cases hp : cutC m t cuts = 0
  · rw [decide_eq_true hp, Bool.true_and] at hr
    rw [hp] at hcode
    have hf := fits_of (cutC_part hp)
    have hmc := mc_nat hf.ok
    have hfl := falseRows_len t cuts (locksTo m.c.toNat t cuts (getl t 0).length) (getl t 0).length cuts.length
    have him : cuts.length * (getl t 0).length ≤ 10 * 12 := Nat.mul_le_mul (by have := hf.few; have := hf.rows; omega) hf.doors.2
    have hfl2 : (falseL m.c.toNat t cuts).length ≤ 120 := Nat.le_trans hfl him
    have Hf := Lib.hid (And.intro hf hmc); clear hf hmc hfl him
    have Hcode := Lib.hid hcode; clear hcode
    have Hp := Lib.hid hp; clear hp
    have hd : (((falseL m.c.toNat t cuts).length : Int) == 0) = r := by rw [← hr, Bool.eq_iff_iff]; simp
    have Hd := Lib.hid hd; clear hd hr
    go_enter Tryz.func18, Tryz.ntmps18
    go_wp2_with fail
    rw [← hW1]
    refine Hcode.out.mono ?_
    rintro e' w2 ⟨rfl, hb2⟩
    have hx2 : ∀ o, w2.cell? ⟨W.heap.size, o, none⟩ = (#[.int .i64 m.c, .int .i64 m.d, .int .i64 m.s, .int .i64 m.e, .int .i64 m.l, .slice a t.length c] : Array Value)[o]? := fun o => by rw [(bcell hb2).1 _ _ hz01, hc01]
    have hz2 : W.heap.size < w2.heap.size := by have := hb2.size; omega
    clear hc01 hh01
    go_wp2_with fail
    refine (l15False_any m _ _ t cuts m.c.toNat _ Hf.out.1 Hf.out.2 (hV1.below hb2) (hC1.below hb2)).mono ?_
    rintro e' w3 ⟨v3, rfl, hF3, hb3⟩
    obtain ⟨a3, c3, rfl, _⟩ := hF3.v2.form
    have hd := Hd.out
    clear hx2 hF3
    go_wp2_with fail
    go_ret
    exact ⟨rfl, hB01.trans ((hb2.trans (hb3.mono hb2.size)).mono (by omega))⟩
  · rw [decide_eq_false hp, Bool.false_and] at hr
    subst hr
    have e1 : (cutC m t cuts == 0) = false := by simp [hp]
    have Hp := Lib.hid hp; clear hp
    generalize cutC m t cuts = pc at *
    go_enter Tryz.func18, Tryz.ntmps18
    go_wp2_with fail
    rw [← hW1]
    refine hcode.mono ?_
    rintro e' w2 ⟨rfl, hb2⟩
    clear hc01 hh01
    go_wp2_with fail
    go_ret
    exact ⟨rfl, hB01.trans (hb2.mono (by omega))⟩

set_option maxRecDepth 100000 in
theorem designCode_any {S S' : Nat → Prop} (m : Mk) (u v : Value) (t cuts : List (List Int)) (W : World) (h : V2 S W u t) (hc : V2 S' W v cuts) :
    Calls Tryz.prog 89 #[.agg #[.int .i64 m.c, .int .i64 m.d, .int .i64 m.s, .int .i64 m.e, .int .i64 m.l, u], v] W fun e' w' => e' = .returned (.int .i64 (designC m t cuts)) ∧ Below W.heap.size W w' := by
  obtain ⟨a, c, rfl, hmx⟩ := h.form
  obtain ⟨a', c', rfl, hmx'⟩ := hc.form
  obtain ⟨W1, hW1, hB01, hz01, HZ01, hc01, hh01⟩ := box_facts W #[.int .i64 m.c, .int .i64 m.d, .int .i64 m.s, .int .i64 m.e, .int .i64 m.l, .slice a t.length c] 28
  have hV1 := (h.below hB01).any
  have hC1 := (hc.below hB01).any
  cases hd : designB m t cuts
  all_goals
    first | (have hfin : designC m t cuts = 1 := (by unfold designC; rw [if_neg (by rw [hd]; decide)])) | (have hfin : designC m t cuts = 0 := (by unfold designC; rw [if_pos hd]))
    rw [hfin]
    have Hd := Lib.hid hd; clear hd hfin
    go_enter Tryz.func89, Tryz.ntmps89
    go_wp2_with fail
    rw [← hW1]
    refine (IsDesign_b m _ _ t cuts _ _ Hd.out hV1 hC1).mono ?_
    rintro e' w2 ⟨rfl, hb2⟩
    clear hc01 hh01
    go_wp2_with fail
    go_ret
    exact ⟨rfl, hB01.trans (hb2.mono (by omega))⟩
set_option maxRecDepth 100000 in
theorem l21Code_any {S S' : Nat → Prop} (m : Mk) (u v : Value) (t cuts : List (List Int)) (W : World) (h : V2 S W u t) (hc : V2 S' W v cuts) :
    Calls Tryz.prog 95 #[.agg #[.int .i64 m.c, .int .i64 m.d, .int .i64 m.s, .int .i64 m.e, .int .i64 m.l, u], v] W fun e' w' => e' = .returned (.int .i64 (designC m t cuts)) ∧ Below W.heap.size W w' := by
  obtain ⟨a, c, rfl, hmx⟩ := h.form
  obtain ⟨a', c', rfl, hmx'⟩ := hc.form
  obtain ⟨W1, hW1, hB01, hz01, HZ01, hc01, hh01⟩ := box_facts W #[.int .i64 m.c, .int .i64 m.d, .int .i64 m.s, .int .i64 m.e, .int .i64 m.l, .slice a t.length c] 28
  have hV1 := (h.below hB01).any
  have hC1 := (hc.below hB01).any
  cases hd : designB m t cuts
  all_goals
    first | (have hfin : designC m t cuts = 1 := (by unfold designC; rw [if_neg (by rw [hd]; decide)])) | (have hfin : designC m t cuts = 0 := (by unfold designC; rw [if_pos hd]))
    rw [hfin]
    have Hd := Lib.hid hd; clear hd hfin
    go_enter Tryz.func95, Tryz.ntmps95
    go_wp2_with fail
    rw [← hW1]
    refine (IsDesignR_b m _ _ t cuts _ _ Hd.out hV1 hC1).mono ?_
    rintro e' w2 ⟨rfl, hb2⟩
    clear hc01 hh01
    go_wp2_with fail
    go_ret
    exact ⟨rfl, hB01.trans (hb2.mono (by omega))⟩
end Go.Proofs.YtikdbjaimcciiaaGreat
