/- The mean severity: the sum of all severities, and how many there are. No conditions. -/
import Derived.OwnWalk
import Derived.Test.YtlfnadmbelngeaaGreatWorst
namespace Go.Proofs.YtlfnadmbelngeaaGreat
open Go.RowKit
set_option linter.unusedVariables false
set_option linter.unusedSimpArgs false

/-- The first k counts, each taken as often as its place says (counted from 1). -/
def wsum (l : List Int) : Nat → Int
  | 0 => 0
  | k + 1 => wsum l k + ((k : Int) + 1) * geti l k
theorem wsum_bd {l : List Int} (h : Few l) : ∀ k, k ≤ l.length → 0 ≤ wsum l k ∧ wsum l k ≤ k * 1001000000 := by
  intro k
  induction k with
  | zero => intro _; exact ⟨Int.le_refl _, by simp [wsum]⟩
  | succ k ih =>
    intro hk
    have h1 := ih (by omega)
    have h2 := h.2 _ (geti_mem (show k < l.length by omega))
    have h4 := h.1
    have h3 : ((k : Int) + 1) * geti l k ≤ 1001 * 1000000 := Int.mul_le_mul (by omega) h2.2 h2.1 (by omega)
    have h5 : 0 ≤ ((k : Int) + 1) * geti l k := Int.mul_nonneg (by omega) h2.1
    unfold wsum
    generalize ((k : Int) + 1) * geti l k = q at *
    omega
def meanAns (m : Mk) (t cuts : List (List Int)) : Int × Int × Int := (wsum (profAns m t cuts).1 (profAns m t cuts).1.length, (profAns m t cuts).1.sum, (profAns m t cuts).2)
set_option maxRecDepth 100000 in
theorem MeanSeverity_any {S S' : Nat → Prop} (m : Mk) (u v : Value) (t cuts : List (List Int)) (W : World) (h : V2 S W u t) (hc : V2 S' W v cuts) :
    Calls Tryz.prog 22 #[.agg #[.int .i64 m.c, .int .i64 m.d, .int .i64 m.s, .int .i64 m.e, .int .i64 m.l, u], v] W fun e' w' => e' = .returned (.tuple #[.int .i64 (meanAns m t cuts).1, .int .i64 (meanAns m t cuts).2.1, .int .i64 (meanAns m t cuts).2.2]) ∧ Below W.heap.size W w' := by
  obtain ⟨a, c, rfl, hmx⟩ := h.form
  obtain ⟨a', c', rfl, hmx'⟩ := hc.form
  obtain ⟨W1, hW1, hB01, hz01, HZ01, hc01, hh01⟩ := box_facts W #[.int .i64 m.c, .int .i64 m.d, .int .i64 m.s, .int .i64 m.e, .int .i64 m.l, .slice a t.length c] 34
  have hV1 := (h.below hB01).any
  have hC1 := (hc.below hB01).any
  have hpr := ProfileOf_any m _ _ t cuts W1 hV1 hC1
  have hfew := profAns_few m t cuts
  unfold meanAns
  obtain ⟨l, hl⟩ : ∃ x, (profAns m t cuts).1 = x := ⟨_, rfl⟩
  obtain ⟨z, hz⟩ : ∃ x, (profAns m t cuts).2 = x := ⟨_, rfl⟩
  rw [hl] at hpr hfew ⊢
  rw [hz] at hpr ⊢
  obtain ⟨r, hr⟩ : ∃ x, wsum l l.length = x := ⟨_, rfl⟩
  obtain ⟨r2, hr2⟩ : ∃ x, l.sum = x := ⟨_, rfl⟩
  rw [hr, hr2]
  have hlen := hfew.1
  have Hfew := Lib.hid hfew
  have Hpr := Lib.hid (And.intro hpr (And.intro hl (And.intro hz (And.intro hr hr2)))); clear hpr hl hz hr hr2 hfew
  go_enter Tryz.func22, Tryz.ntmps22
  go_wp2_with fail
  rw [← hW1]
  refine Hpr.out.1.mono ?_
  rintro e' w2 ⟨v', rfl, hF, hb2⟩
  have hV := hF.v1
  obtain ⟨la, lc, rfl, hlm⟩ := hV.form
  clear hc01 hh01 hF
  go_wp2_with fail
  go_loop [9, 10, 11, 20] (fun s _ _ i => ∃ k : Nat, k ≤ l.length ∧ i = .int .i64 (k : Int) ∧ s = .int .i64 (wsum l k)) (fun _ _ _ i => l.length - (intOf i).toNat)
  case atStart => exact ⟨0, Nat.zero_le _, rfl, rfl⟩
  case round =>
    obtain ⟨k, hk, rfl, rfl⟩ := hrel
    have hst : wsum l (k + 1) = wsum l k + ((k : Int) + 1) * geti l k := rfl
    have hbd := wsum_bd Hfew.out k hk
    obtain ⟨q, hq⟩ : ∃ q, wsum l k = q := ⟨_, rfl⟩
    rw [hq] at hst hbd ⊢
    by_cases hkk : k < l.length
    · obtain ⟨b2, off2, rfl, _, hc2⟩ := hV.cell hkk
      have hx1 := Hfew.out.2 _ (geti_mem hkk)
      obtain ⟨x, hx⟩ : ∃ x, geti l k = x := ⟨_, rfl⟩
      rw [hx] at hst hc2 hx1
      have hm1 : ((k : Int) + 1) * x ≤ 1001 * 1000000 := Int.mul_le_mul (by omega) hx1.2 hx1.1 (by omega)
      have hm0 : 0 ≤ ((k : Int) + 1) * x := Int.mul_nonneg (by omega) hx1.1
      have hqb : 0 ≤ q ∧ q ≤ 1000 * 1001000000 := by omega
      obtain ⟨y, hy⟩ : ∃ y, ((k : Int) + 1) * x = y := ⟨_, rfl⟩
      have hxy : x * ((k : Int) + 1) = y := by rw [Int.mul_comm]; exact hy
      have hw1 : IntKind.i64.wrap (((k : Int) + 1) * x) = y := by rw [hy]; exact IntWalk.i64_in _ (by omega)
      have hw1' : IntKind.i64.wrap (x * ((k : Int) + 1)) = y := by rw [hxy]; exact IntWalk.i64_in _ (by omega)
      rw [hy] at hst hm0 hm1
      have hw2 : IntKind.i64.wrap (q + y) = q + y := IntWalk.i64_in _ (by omega)
      have Hq := Lib.hid (And.intro hq (And.intro hx (And.intro hxy hst))); clear hq hx hst hbd
      go_wp2_with fail
      go_round
      case rel => exact ⟨k + 1, by omega, by go_num, by rw [Hq.out.2.2.2]⟩
      case measure => simp [intOf]; omega
    · obtain rfl : k = l.length := by omega
      have Hst := Lib.hid (And.intro hst hbd); clear hst hbd
      have Hq := Lib.hid hq; clear hq
      go_wp2_with fail
      refine (sum_any _ l _ r2 Hpr.out.2.2.2.2 hV Hfew.out).mono ?_
      rintro e' w3 ⟨rfl, rfl⟩
      go_wp2_with fail
      go_ret3
      obtain rfl : q = r := Hq.out.symm.trans Hpr.out.2.2.2.1
      exact ⟨rfl, hB01.trans (hb2.mono (by omega))⟩
set_option maxRecDepth 100000 in
theorem MeanSeverityR_any {S S' : Nat → Prop} (m : Mk) (u v : Value) (t cuts : List (List Int)) (W : World) (h : V2 S W u t) (hc : V2 S' W v cuts) :
    Calls Tryz.prog 21 #[.agg #[.int .i64 m.c, .int .i64 m.d, .int .i64 m.s, .int .i64 m.e, .int .i64 m.l, u], v] W fun e' w' => e' = .returned (.tuple #[.int .i64 (meanAns m t cuts).1, .int .i64 (meanAns m t cuts).2.1, .int .i64 (meanAns m t cuts).2.2]) ∧ Below W.heap.size W w' := by
  obtain ⟨a, c, rfl, hmx⟩ := h.form
  obtain ⟨a', c', rfl, hmx'⟩ := hc.form
  obtain ⟨W1, hW1, hB01, hz01, HZ01, hc01, hh01⟩ := box_facts W #[.int .i64 m.c, .int .i64 m.d, .int .i64 m.s, .int .i64 m.e, .int .i64 m.l, .slice a t.length c] 34
  have hV1 := (h.below hB01).any
  have hC1 := (hc.below hB01).any
  have hcode := l21Code_any m _ _ t cuts W1 hV1 hC1
  by_cases hp : designC m t cuts = 0
  · rw [hp] at hcode
    have hf := (design_fits hp).1
    have hmc := mc_nat hf.ok
    have hdoors := hf.doors
    have hkl := keysOf_length hf.ok
    have hol := outsOf_length cuts (keysOf m)
    obtain ⟨locks, hlocks⟩ : ∃ x, x = locksTo m.c.toNat t cuts (getl t 0).length := ⟨_, rfl⟩
    obtain ⟨D, hD⟩ : ∃ D, (getl t 0).length = D := ⟨_, rfl⟩
    have hll : locks.length = D := by rw [hlocks, locksTo_len, hD]
    have hprof : profAns m t cuts = (cntL locks (outsOf cuts (keysOf m)) 1 D, 0) := by unfold profAns; rw [if_neg (by rw [hp]; decide), ← hlocks, hD]
    have hfin : meanAns m t cuts = (wsum (cntL locks (outsOf cuts (keysOf m)) 1 D) D, (cntL locks (outsOf cuts (keysOf m)) 1 D).sum, 0) := by unfold meanAns; rw [hprof]; show (wsum _ _, _, (0 : Int)) = _; rw [cntL_len]
    have hfew := profAns_few m t cuts
    rw [hprof] at hfew
    have hpr := l22Profile_any (S := fun _ => True) (S' := fun _ => True) m (.slice a t.length c) (.slice a' cuts.length c') t cuts m.c.toNat
    rw [← hlocks, hD] at hpr
    rw [hfin]
    rw [hD] at hdoors
    obtain ⟨l, hl⟩ : ∃ x, cntL locks (outsOf cuts (keysOf m)) 1 D = x := ⟨_, rfl⟩
    have hlD : l.length = D := by rw [← hl, cntL_len]
    rw [hl] at hpr hfew hfin ⊢
    subst hlD
    obtain ⟨r, hr⟩ : ∃ x, wsum l l.length = x := ⟨_, rfl⟩
    obtain ⟨r2, hr2⟩ : ∃ x, l.sum = x := ⟨_, rfl⟩
    rw [hr, hr2]
    have hlen := hfew.1
    have Hfew := Lib.hid hfew; clear hfew
    have Hf := Lib.hid (And.intro hf (And.intro hmc hpr)); clear hf hmc hpr hol hkl
    have Hp := Lib.hid (And.intro hp (And.intro hfin (And.intro hlocks (And.intro hD (And.intro hll (And.intro hr (And.intro hr2 (And.intro hl hprof)))))))); clear hp hfin hlocks hD hll hr hr2 hl hprof
    have Hcode := Lib.hid hcode; clear hcode
    go_enter Tryz.func21, Tryz.ntmps21
    go_wp2_with fail
    rw [← hW1]
    refine Hcode.out.mono ?_
    rintro e' w2 ⟨rfl, hb2⟩
    have hx2 : ∀ o, w2.cell? ⟨W.heap.size, o, none⟩ = (#[.int .i64 m.c, .int .i64 m.d, .int .i64 m.s, .int .i64 m.e, .int .i64 m.l, .slice a t.length c] : Array Value)[o]? := fun o => by rw [(bcell hb2).1 _ _ hz01, hc01]
    have hz2 : W.heap.size < w2.heap.size := by have := hb2.size; omega
    clear hc01 hh01
    go_wp2_with fail
    refine (Hf.out.2.2 _ Hf.out.1 Hf.out.2.1 (hV1.below hb2) (hC1.below hb2)).mono ?_
    rintro e' w3 ⟨G, rfl, hblk, hb3⟩
    have hx := hblk.x1 (off := 0) (by omega) (by omega)
    rw [List.drop_zero, Nat.sub_zero] at hx
    have hV := (hx.v1 (S := fun _ => True) (fun _ => trivial))
    clear hx hblk hx2
    obtain ⟨ga, hga⟩ : ∃ x, x = (some ⟨G, 0, none⟩ : Option Addr) := ⟨_, rfl⟩
    rw [← hga] at hV ⊢
    clear hga
    go_wp2_with fail
    go_loop [9, 10] (fun s i => ∃ k : Nat, k ≤ l.length ∧ i = .int .i64 (k : Int) ∧ s = .int .i64 (wsum l k)) (fun _ i => l.length - (intOf i).toNat)
    case atStart => exact ⟨0, Nat.zero_le _, rfl, rfl⟩
    case round =>
      obtain ⟨k, hk, rfl, rfl⟩ := hrel
      have hst : wsum l (k + 1) = wsum l k + ((k : Int) + 1) * geti l k := rfl
      have hbd := wsum_bd Hfew.out k hk
      obtain ⟨q, hq⟩ : ∃ q, wsum l k = q := ⟨_, rfl⟩
      rw [hq] at hst hbd ⊢
      by_cases hkk : k < l.length
      · obtain ⟨b2, off2, rfl, _, hc2⟩ := hV.cell hkk
        have hx1 := Hfew.out.2 _ (geti_mem hkk)
        obtain ⟨x, hx⟩ : ∃ x, geti l k = x := ⟨_, rfl⟩
        rw [hx] at hst hc2 hx1
        have hm1 : ((k : Int) + 1) * x ≤ 1001 * 1000000 := Int.mul_le_mul (by omega) hx1.2 hx1.1 (by omega)
        have hm0 : 0 ≤ ((k : Int) + 1) * x := Int.mul_nonneg (by omega) hx1.1
        have hqb : 0 ≤ q ∧ q ≤ 1000 * 1001000000 := by omega
        obtain ⟨y, hy⟩ : ∃ y, ((k : Int) + 1) * x = y := ⟨_, rfl⟩
        have hxy : x * ((k : Int) + 1) = y := by rw [Int.mul_comm]; exact hy
        have hw1 : IntKind.i64.wrap (((k : Int) + 1) * x) = y := by rw [hy]; exact IntWalk.i64_in _ (by omega)
        have hw1' : IntKind.i64.wrap (x * ((k : Int) + 1)) = y := by rw [hxy]; exact IntWalk.i64_in _ (by omega)
        rw [hy] at hst hm0 hm1
        have hw2 : IntKind.i64.wrap (q + y) = q + y := IntWalk.i64_in _ (by omega)
        have Hq := Lib.hid (And.intro hq (And.intro hx (And.intro hxy hst))); clear hq hx hst hbd
        go_wp2_with fail
        go_round
        case rel => exact ⟨k + 1, by omega, by go_num, by rw [Hq.out.2.2.2]⟩
        case measure => simp [intOf]; omega
      · obtain rfl : k = l.length := by omega
        have Hst := Lib.hid (And.intro hst hbd); clear hst hbd
        have Hq := Lib.hid hq; clear hq
        go_wp2_with fail
        refine (l01Sum_any _ l _ r2 Hp.out.2.2.2.2.2.2.1 hV Hfew.out).mono ?_
        rintro e' w4 ⟨rfl, rfl⟩
        go_wp2_with fail
        go_ret3
        obtain rfl : q = r := Hq.out.symm.trans Hp.out.2.2.2.2.2.1
        exact ⟨rfl, hB01.trans ((hb2.trans (hb3.mono hb2.size)).mono (by omega))⟩
  · have hfin : meanAns m t cuts = (0, 0, designC m t cuts) := by unfold meanAns profAns; rw [if_pos hp]; (try rfl)
    have e1 : (designC m t cuts != 0) = true := by simp [hp]
    rw [hfin]
    have Hp := Lib.hid (And.intro hp hfin); clear hp hfin
    generalize designC m t cuts = pc at *
    go_enter Tryz.func21, Tryz.ntmps21
    go_wp2_with fail
    rw [← hW1]
    refine hcode.mono ?_
    rintro e' w2 ⟨rfl, hb2⟩
    clear hc01 hh01
    go_wp2_with fail
    go_ret3
    exact ⟨rfl, hB01.trans (hb2.mono (by omega))⟩
end Go.Proofs.YtlfnadmbelngeaaGreat
