/- The mean severity: the sum of all severities, and how many there are. No conditions. -/
import Derived.OwnWalk
import Derived.Test.YtmfgdoflddhngaaGreatMProfR
import Derived.Test.YtmfgdoflddhngaaGreatMOpeners
namespace Go.Proofs.YtmfgdoflddhngaaGreat
open Go.RowKit
set_option linter.unusedVariables false
set_option linter.unusedSimpArgs false

/-- The first k counts, each taken as often as its place says (counted from 1). -/
def wsum (l : List Int) : Nat → Int
  | 0 => 0
  | k + 1 => wsum l k + ((k : Int) + 1) * geti l k
theorem wsum_bd {l : List Int} (h : Few l) : ∀ k, k ≤ l.length → 0 ≤ wsum l k ∧ wsum l k ≤ k * 1001000000 := by
  intro k
  induction k with
  | zero => intro _; exact ⟨Int.le_refl _, by simp [wsum]⟩
  | succ k ih =>
    intro hk
    have h1 := ih (by omega)
    have h2 := h.2 _ (geti_mem (show k < l.length by omega))
    have h4 := h.1
    have h3 : ((k : Int) + 1) * geti l k ≤ 1001 * 1000000 := Int.mul_le_mul (by omega) h2.2 h2.1 (by omega)
    have h5 : 0 ≤ ((k : Int) + 1) * geti l k := Int.mul_nonneg (by omega) h2.1
    unfold wsum
    generalize ((k : Int) + 1) * geti l k = q at *
    omega
def meanAns (m : Mk) (t cuts : List (List Int)) : Int × Int × Int := (wsum (profAns m t cuts).1 (profAns m t cuts).1.length, (profAns m t cuts).1.sum, (profAns m t cuts).2)
set_option maxRecDepth 100000 in
theorem MeanSeverity_any {S S' : Nat → Prop} (m : Mk) (u v : Value) (t cuts : List (List Int)) (W : World) (h : V2 S W u t) (hc : V2 S' W v cuts) :
    Calls Tryz.prog 40 #[.agg #[.int .i64 m.c, .int .i64 m.d, .int .i64 m.s, .int .i64 m.e, .int .i64 m.l, u], v] W fun e' w' => e' = .returned (.tuple #[.int .i64 (meanAns m t cuts).1, .int .i64 (meanAns m t cuts).2.1, .int .i64 (meanAns m t cuts).2.2]) ∧ Below W.heap.size W w' := by
  obtain ⟨a, c, rfl, hmx⟩ := h.form
  obtain ⟨a', c', rfl, hmx'⟩ := hc.form
  obtain ⟨W1, hW1, hB01, hz01, HZ01, hc01, hh01⟩ := box_facts W #[.int .i64 m.c, .int .i64 m.d, .int .i64 m.s, .int .i64 m.e, .int .i64 m.l, .slice a t.length c] 28
  have hV1 := (h.below hB01).any
  have hC1 := (hc.below hB01).any
  have hpr := ProfileOf_any m _ _ t cuts W1 hV1 hC1
  have hfew := profAns_few m t cuts
  unfold meanAns
  obtain ⟨l, hl⟩ : ∃ x, (profAns m t cuts).1 = x := ⟨_, rfl⟩
  obtain ⟨z, hz⟩ : ∃ x, (profAns m t cuts).2 = x := ⟨_, rfl⟩
  rw [hl] at hpr hfew ⊢
  rw [hz] at hpr ⊢
  obtain ⟨r, hr⟩ : ∃ x, wsum l l.length = x := ⟨_, rfl⟩
  obtain ⟨r2, hr2⟩ : ∃ x, l.sum = x := ⟨_, rfl⟩
  rw [hr, hr2]
  have hlen := hfew.1
  have Hfew := Lib.hid hfew
  have Hpr := Lib.hid (And.intro hpr (And.intro hl (And.intro hz (And.intro hr hr2)))); clear hpr hl hz hr hr2 hfew
  go_enter Tryz.func40, Tryz.ntmps40
  go_wp2_with fail
  rw [← hW1]
  refine Hpr.out.1.mono ?_
  rintro e' w2 ⟨v', rfl, hF, hb2⟩
  have hV := hF.v1
  obtain ⟨la, lc, rfl, hlm⟩ := hV.form
  clear hc01 hh01 hF
  go_wp2_with fail
  go_loop [9, 10, 11, 20] (fun s _ _ i => ∃ k : Nat, k ≤ l.length ∧ i = .int .i64 (k : Int) ∧ s = .int .i64 (wsum l k)) (fun _ _ _ i => l.length - (intOf i).toNat)
  case atStart => exact ⟨0, Nat.zero_le _, rfl, rfl⟩
  case round =>
    obtain ⟨k, hk, rfl, rfl⟩ := hrel
    have hst : wsum l (k + 1) = wsum l k + ((k : Int) + 1) * geti l k := rfl
    have hbd := wsum_bd Hfew.out k hk
    obtain ⟨q, hq⟩ : ∃ q, wsum l k = q := ⟨_, rfl⟩
    rw [hq] at hst hbd ⊢
    by_cases hkk : k < l.length
    · obtain ⟨b2, off2, rfl, _, hc2⟩ := hV.cell hkk
      have hx1 := Hfew.out.2 _ (geti_mem hkk)
      obtain ⟨x, hx⟩ : ∃ x, geti l k = x := ⟨_, rfl⟩
      rw [hx] at hst hc2 hx1
      have hm1 : ((k : Int) + 1) * x ≤ 1001 * 1000000 := Int.mul_le_mul (by omega) hx1.2 hx1.1 (by omega)
      have hm0 : 0 ≤ ((k : Int) + 1) * x := Int.mul_nonneg (by omega) hx1.1
      have hqb : 0 ≤ q ∧ q ≤ 1000 * 1001000000 := by omega
      obtain ⟨y, hy⟩ : ∃ y, ((k : Int) + 1) * x = y := ⟨_, rfl⟩
      have hxy : x * ((k : Int) + 1) = y := by rw [Int.mul_comm]; exact hy
      have hw1 : IntKind.i64.wrap (((k : Int) + 1) * x) = y := by rw [hy]; exact IntWalk.i64_in _ (by omega)
      have hw1' : IntKind.i64.wrap (x * ((k : Int) + 1)) = y := by rw [hxy]; exact IntWalk.i64_in _ (by omega)
      rw [hy] at hst hm0 hm1
      have hw2 : IntKind.i64.wrap (q + y) = q + y := IntWalk.i64_in _ (by omega)
      have Hq := Lib.hid (And.intro hq (And.intro hx (And.intro hxy hst))); clear hq hx hst hbd
      go_wp2_with fail
      go_round
      case rel => exact ⟨k + 1, by omega, by go_num, by rw [Hq.out.2.2.2]⟩
      case measure => simp [intOf]; omega
    · obtain rfl : k = l.length := by omega
      have Hst := Lib.hid (And.intro hst hbd); clear hst hbd
      have Hq := Lib.hid hq; clear hq
      go_wp2_with fail
      refine (sum_any _ l _ r2 Hpr.out.2.2.2.2 hV Hfew.out).mono ?_
      rintro e' w3 ⟨rfl, rfl⟩
      go_wp2_with fail
      go_ret3
      obtain rfl : q = r := Hq.out.symm.trans Hpr.out.2.2.2.1
      exact ⟨rfl, hB01.trans (hb2.mono (by omega))⟩
set_option maxRecDepth 100000 in
theorem MeanSeverityR_any {S S' : Nat → Prop} (m : Mk) (u v : Value) (t cuts : List (List Int)) (W : World) (h : V2 S W u t) (hc : V2 S' W v cuts) :
    Calls Tryz.prog 41 #[.agg #[.int .i64 m.c, .int .i64 m.d, .int .i64 m.s, .int .i64 m.e, .int .i64 m.l, u], v] W fun e' w' => e' = .returned (.tuple #[.int .i64 (meanAns m t cuts).1, .int .i64 (meanAns m t cuts).2.1, .int .i64 (meanAns m t cuts).2.2]) ∧ Below W.heap.size W w' := by
  obtain ⟨a, c, rfl, hmx⟩ := h.form
  obtain ⟨a', c', rfl, hmx'⟩ := hc.form
  obtain ⟨W1, hW1, hB01, hz01, HZ01, hc01, hh01⟩ := box_facts W #[.int .i64 m.c, .int .i64 m.d, .int .i64 m.s, .int .i64 m.e, .int .i64 m.l, .slice a t.length c] 28
  have hV1 := (h.below hB01).any
  have hC1 := (hc.below hB01).any
  have hcode := l21Code_any m _ _ t cuts W1 hV1 hC1
  by_cases hp : designC m t cuts = 0
  · rw [hp] at hcode
    have hf := (design_fits hp).1
    have hmc := mc_nat hf.ok
    have hdoors := hf.doors
    have hkl := keysOf_length hf.ok
    have hol := outsOf_length cuts (keysOf m)
    obtain ⟨locks, hlocks⟩ : ∃ x, x = locksTo m.c.toNat t cuts (getl t 0).length := ⟨_, rfl⟩
    obtain ⟨D, hD⟩ : ∃ D, (getl t 0).length = D := ⟨_, rfl⟩
    have hll : locks.length = D := by rw [hlocks, locksTo_len, hD]
    have hprof : profAns m t cuts = (cntL locks (outsOf cuts (keysOf m)) 1 D, 0) := by unfold profAns; rw [if_neg (by rw [hp]; decide), ← hlocks, hD]
    have hfin : meanAns m t cuts = (wsum (cntL locks (outsOf cuts (keysOf m)) 1 D) D, (cntL locks (outsOf cuts (keysOf m)) 1 D).sum, 0) := by unfold meanAns; rw [hprof]; show (wsum _ _, _, (0 : Int)) = _; rw [cntL_len]
    have hfew := profAns_few m t cuts
    rw [hprof] at hfew
    have hpr := l22Profile_any (S := fun _ => True) (S' := fun _ => True) m (.slice a t.length c) (.slice a' cuts.length c') t cuts m.c.toNat
    rw [← hlocks, hD] at hpr
    rw [hfin]
    rw [hD] at hdoors
    obtain ⟨l, hl⟩ : ∃ x, cntL locks (outsOf cuts (keysOf m)) 1 D = x := ⟨_, rfl⟩
    have hlD : l.length = D := by rw [← hl, cntL_len]
    rw [hl] at hpr hfew hfin ⊢
    subst hlD
    obtain ⟨r, hr⟩ : ∃ x, wsum l l.length = x := ⟨_, rfl⟩
    obtain ⟨r2, hr2⟩ : ∃ x, l.sum = x := ⟨_, rfl⟩
    rw [hr, hr2]
    have hlen := hfew.1
    have Hfew := Lib.hid hfew; clear hfew
    have Hf := Lib.hid (And.intro hf (And.intro hmc hpr)); clear hf hmc hpr hol hkl
    have Hp := Lib.hid (And.intro hp (And.intro hfin (And.intro hlocks (And.intro hD (And.intro hll (And.intro hr (And.intro hr2 (And.intro hl hprof)))))))); clear hp hfin hlocks hD hll hr hr2 hl hprof
    have Hcode := Lib.hid hcode; clear hcode
    go_enter Tryz.func41, Tryz.ntmps41
    go_wp2_with fail
    rw [← hW1]
    refine Hcode.out.mono ?_
    rintro e' w2 ⟨rfl, hb2⟩
    have hx2 : ∀ o, w2.cell? ⟨W.heap.size, o, none⟩ = (#[.int .i64 m.c, .int .i64 m.d, .int .i64 m.s, .int .i64 m.e, .int .i64 m.l, .slice a t.length c] : Array Value)[o]? := fun o => by rw [(bcell hb2).1 _ _ hz01, hc01]
    have hz2 : W.heap.size < w2.heap.size := by have := hb2.size; omega
    clear hc01 hh01
    go_wp2_with fail
    refine (Hf.out.2.2 _ Hf.out.1 Hf.out.2.1 (hV1.below hb2) (hC1.below hb2)).mono ?_
    rintro e' w3 ⟨G, rfl, hblk, hb3⟩
    have hx := hblk.x1 (off := 0) (by omega) (by omega)
    rw [List.drop_zero, Nat.sub_zero] at hx
    have hV := (hx.v1 (S := fun _ => True) (fun _ => trivial))
    clear hx hblk hx2
    obtain ⟨ga, hga⟩ : ∃ x, x = (some ⟨G, 0, none⟩ : Option Addr) := ⟨_, rfl⟩
    rw [← hga] at hV ⊢
    clear hga
    go_wp2_with fail
    go_loop [9, 10] (fun s i => ∃ k : Nat, k ≤ l.length ∧ i = .int .i64 (k : Int) ∧ s = .int .i64 (wsum l k)) (fun _ i => l.length - (intOf i).toNat)
    case atStart => exact ⟨0, Nat.zero_le _, rfl, rfl⟩
    case round =>
      obtain ⟨k, hk, rfl, rfl⟩ := hrel
      have hst : wsum l (k + 1) = wsum l k + ((k : Int) + 1) * geti l k := rfl
      have hbd := wsum_bd Hfew.out k hk
      obtain ⟨q, hq⟩ : ∃ q, wsum l k = q := ⟨_, rfl⟩
      rw [hq] at hst hbd ⊢
      by_cases hkk : k < l.length
      · obtain ⟨b2, off2, rfl, _, hc2⟩ := hV.cell hkk
        have hx1 := Hfew.out.2 _ (geti_mem hkk)
        obtain ⟨x, hx⟩ : ∃ x, geti l k = x := ⟨_, rfl⟩
        rw [hx] at hst hc2 hx1
        have hm1 : ((k : Int) + 1) * x ≤ 1001 * 1000000 := Int.mul_le_mul (by omega) hx1.2 hx1.1 (by omega)
        have hm0 : 0 ≤ ((k : Int) + 1) * x := Int.mul_nonneg (by omega) hx1.1
        have hqb : 0 ≤ q ∧ q ≤ 1000 * 1001000000 := by omega
        obtain ⟨y, hy⟩ : ∃ y, ((k : Int) + 1) * x = y := ⟨_, rfl⟩
        have hxy : x * ((k : Int) + 1) = y := by rw [Int.mul_comm]; exact hy
        have hw1 : IntKind.i64.wrap (((k : Int) + 1) * x) = y := by rw [hy]; exact IntWalk.i64_in _ (by omega)
        have hw1' : IntKind.i64.wrap (x * ((k : Int) + 1)) = y := by rw [hxy]; exact IntWalk.i64_in _ (by omega)
        rw [hy] at hst hm0 hm1
        have hw2 : IntKind.i64.wrap (q + y) = q + y := IntWalk.i64_in _ (by omega)
        have Hq := Lib.hid (And.intro hq (And.intro hx (And.intro hxy hst))); clear hq hx hst hbd
        go_wp2_with fail
        go_round
        case rel => exact ⟨k + 1, by omega, by go_num, by rw [Hq.out.2.2.2]⟩
        case measure => simp [intOf]; omega
      · obtain rfl : k = l.length := by omega
        have Hst := Lib.hid (And.intro hst hbd); clear hst hbd
        have Hq := Lib.hid hq; clear hq
        go_wp2_with fail
        refine (l01Sum_any _ l _ r2 Hp.out.2.2.2.2.2.2.1 hV Hfew.out).mono ?_
        rintro e' w4 ⟨rfl, rfl⟩
        go_wp2_with fail
        go_ret3
        obtain rfl : q = r := Hq.out.symm.trans Hp.out.2.2.2.2.2.1
        exact ⟨rfl, hB01.trans ((hb2.trans (hb3.mono hb2.size)).mono (by omega))⟩
  · have hfin : meanAns m t cuts = (0, 0, designC m t cuts) := by unfold meanAns profAns; rw [if_pos hp]; (try rfl)
    have e1 : (designC m t cuts != 0) = true := by simp [hp]
    rw [hfin]
    have Hp := Lib.hid (And.intro hp hfin); clear hp hfin
    generalize designC m t cuts = pc at *
    go_enter Tryz.func41, Tryz.ntmps41
    go_wp2_with fail
    rw [← hW1]
    refine hcode.mono ?_
    rintro e' w2 ⟨rfl, hb2⟩
    clear hc01 hh01
    go_wp2_with fail
    go_ret3
    exact ⟨rfl, hB01.trans (hb2.mono (by omega))⟩
end Go.Proofs.YtmfgdoflddhngaaGreat

namespace Go.Proofs.YtmfgdoflddhngaaGreat
open Go.RowKit
set_option linter.unusedVariables false
set_option linter.unusedSimpArgs false

def addN (f : List Int → Nat) (ks : List (List Int)) : Nat := (ks.map f).sum
theorem addN_cons (f : List Int → Nat) (k : List Int) (ks : List (List Int)) : addN f (k :: ks) = f k + addN f ks := by simp [addN]
theorem doors_add (locks : List (List (List Int))) (d : Nat) : ∀ ks : List (List Int), addN (fun key => (doorsTo locks key (d + 1)).length) ks = addN (fun key => (doorsTo locks key d).length) ks + ks.countP (opensB (getll locks d))
  | [] => rfl
  | k :: ks => by
    rw [addN_cons, addN_cons, doors_add locks d ks, List.countP_cons]
    have : (doorsTo locks k (d + 1)).length = (doorsTo locks k d).length + if opensB (getll locks d) k = true then 1 else 0 := by
      rw [doorsTo]
      split <;> simp
    omega
theorem doors_none (locks : List (List (List Int))) : ∀ ks : List (List Int), addN (fun key => (doorsTo locks key 0).length) ks = 0
  | [] => rfl
  | k :: ks => by rw [addN_cons, doors_none locks ks]; rfl
theorem tab_sum {m : Mk} {t cuts : List (List Int)} {D : Nat} : ∀ k, k ≤ D → (tabL m t cuts k).sum = ((addN (fun key => (doorsTo (locksTo m.c.toNat t cuts D) key k).length) (outsOf cuts (keysOf m)) : Nat) : Int)
  | 0, _ => by rw [doors_none]; rfl
  | k + 1, h => by
    rw [tabL_succ, List.sum_append, tab_sum (D := D) k (by omega), doors_add, locksTo_get (show k < D by omega)]
    have : doorGh m t cuts k = (outsOf cuts (keysOf m)).countP (opensB (lockR m.c.toNat t cuts k)) := ghostsN_outs _ _ _
    rw [this]
    simp
theorem part_add (f : List Int → Nat) (k : Nat) : ∀ ks : List (List Int), addN (fun x => if f x ≤ k + 1 then f x else 0) ks = addN (fun x => if f x ≤ k then f x else 0) ks + (k + 1) * ks.countP (fun x => decide (f x = k + 1))
  | [] => rfl
  | x :: ks => by
    rw [addN_cons, addN_cons, part_add f k ks, List.countP_cons, Nat.mul_add]
    by_cases h : f x = k + 1
    · rw [if_pos (by omega), if_neg (by omega)]
      simp [h]; omega
    · by_cases h2 : f x ≤ k
      · rw [if_pos (by omega), if_pos h2]
        simp [h]; omega
      · rw [if_neg (by omega), if_neg h2]
        simp [h]
theorem part_none (f : List Int → Nat) : ∀ ks : List (List Int), addN (fun x => if f x ≤ 0 then f x else 0) ks = 0
  | [] => rfl
  | x :: ks => by
    rw [addN_cons, part_none f ks]
    split <;> omega
theorem part_all (f : List Int → Nat) (D : Nat) (h : ∀ x, f x ≤ D) : ∀ ks : List (List Int), addN (fun x => if f x ≤ D then f x else 0) ks = addN f ks
  | [] => rfl
  | x :: ks => by rw [addN_cons, addN_cons, part_all f D h ks, if_pos (h x)]
theorem wsum_cnt (locks : List (List (List Int))) (ks : List (List Int)) (D : Nat) : ∀ k, k ≤ D → wsum (cntL locks ks 1 D) k = ((addN (fun x => if ndoors locks x ≤ k then ndoors locks x else 0) ks : Nat) : Int)
  | 0, _ => by rw [part_none]; rfl
  | k + 1, h => by
    rw [wsum, wsum_cnt locks ks D k (by omega), part_add, cntL_get (by omega)]
    unfold cntN
    rw [show 1 + k = k + 1 from by omega]
    simp
/-- The law. -/
theorem gh_law {m : Mk} {t cuts : List (List Int)} (h : (ghTabAns m t cuts).2 = 0) :
    (ghTabAns m t cuts).1.sum = (meanAns m t cuts).1 ∧ (profAns m t cuts).1.sum = (meanAns m t cuts).2.1 ∧ ∀ k, k < (ghTabAns m t cuts).1.length → doorGhAns m t cuts k = (geti (ghTabAns m t cuts).1 k, 0) := by
  by_cases hp : designC m t cuts = 0
  · have hd := (design_fits hp).1.doors
    have e1 : ghTabAns m t cuts = (tabL m t cuts (getl t 0).length, 0) := by unfold ghTabAns; rw [if_neg (by rw [hp]; decide)]
    have e2 : profAns m t cuts = (cntL (locksTo m.c.toNat t cuts (getl t 0).length) (outsOf cuts (keysOf m)) 1 (getl t 0).length, 0) := by unfold profAns; rw [if_neg (by rw [hp]; decide)]
    refine ⟨?_, rfl, fun k hk => ?_⟩
    · unfold meanAns
      rw [e1, e2]
      show (tabL m t cuts _).sum = wsum _ _
      rw [cntL_len, tab_sum _ (Nat.le_refl _), wsum_cnt _ _ _ _ (Nat.le_refl _), part_all]
      · unfold ndoors doorsOf
        rw [locksTo_len]
      · intro x
        have := ndoors_le (locksTo m.c.toNat t cuts (getl t 0).length) x
        rw [locksTo_len] at this
        exact this
    · rw [e1] at hk ⊢
      have hk : k < (tabL m t cuts (getl t 0).length).length := hk
      show _ = (geti (tabL m t cuts (getl t 0).length) k, 0)
      rw [geti_eq hk]
      rw [tabL_len] at hk
      unfold doorGhAns
      rw [if_neg (by rw [hp]; decide), if_neg]
      · simp [tabL]
      · rw [inB_iff.2 (by omega)]; decide
  · exfalso
    unfold ghTabAns at h
    rw [if_pos hp] at h
    exact hp h
end Go.Proofs.YtmfgdoflddhngaaGreat

namespace Go.Proofs.YtmfgdoflddhngaaGreat
open Go.RowKit
set_option linter.unusedVariables false
set_option linter.unusedSimpArgs false

/-- One more at each of some places. -/
def incL (l ds : List Int) : List Int := ds.foldl (fun l d => l.set d.toNat (geti l d.toNat + 1)) l
theorem incL_nil (l : List Int) : incL l [] = l := rfl
theorem incL_snoc (l ds : List Int) (d : Int) : incL l (ds ++ [d]) = (incL l ds).set d.toNat (geti (incL l ds) d.toNat + 1) := by
  unfold incL; rw [List.foldl_append]; rfl
theorem incL_len (l ds : List Int) : (incL l ds).length = l.length := by
  unfold incL
  induction ds generalizing l with
  | nil => rfl
  | cons d ds ih => rw [List.foldl_cons, ih]; simp
theorem geti_set {l : List Int} {p j : Nat} {x : Int} (hp : p < l.length) : geti (l.set p x) j = if p = j then x else geti l j := by
  unfold geti
  rw [List.getD_eq_getElem?_getD, List.getD_eq_getElem?_getD, List.getElem?_set]
  by_cases e : p = j
  · simp [e, e ▸ hp]
  · simp [e]
theorem incL_take {l ds : List Int} {q : Nat} (h : q < ds.length) : incL l (ds.take (q + 1)) = (incL l (ds.take q)).set (geti ds q).toNat (geti (incL l (ds.take q)) (geti ds q).toNat + 1) := by
  rw [take_geti h, incL_snoc]
theorem incL_bd {l ds : List Int} (hds : ∀ x ∈ ds, 0 ≤ x ∧ x < (l.length : Int)) (j : Nat) : ∀ q, q ≤ ds.length → geti l j ≤ geti (incL l (ds.take q)) j ∧ geti (incL l (ds.take q)) j ≤ geti l j + q
  | 0, _ => by simp [incL_nil]
  | q + 1, h => by
    have ih := incL_bd hds j q (by omega)
    have h1 := hds _ (geti_mem (show q < ds.length from h))
    rw [incL_take h, geti_set (by rw [incL_len]; omega)]
    split
    · rename_i e; rw [e]; omega
    · omega
/-- How many of some keys open each door. -/
def tabC (locks : List (List (List Int))) (ks : List (List Int)) (D : Nat) : List Int := (List.range D).map fun d => ((ks.countP (opensB (getll locks d)) : Nat) : Int)
theorem tabC_len (locks : List (List (List Int))) (ks : List (List Int)) (D : Nat) : (tabC locks ks D).length = D := by simp [tabC]
theorem tabC_get {locks : List (List (List Int))} {ks : List (List Int)} {D j : Nat} (h : j < D) : geti (tabC locks ks D) j = ((ks.countP (opensB (getll locks j)) : Nat) : Int) := by
  rw [geti_eq (by rw [tabC_len]; exact h)]; simp [tabC]
theorem tabC_nil (locks : List (List (List Int))) (D : Nat) : tabC locks [] D = List.replicate D 0 := by
  apply List.ext_getElem (by simp [tabC])
  intro i h1 h2
  simp [tabC]
theorem incL_doors {locks : List (List (List Int))} {key l : List Int} (j : Nat) : ∀ k, k ≤ l.length → geti (incL l (doorsTo locks key k)) j = geti l j + if j < k ∧ opensB (getll locks j) key = true then 1 else 0
  | 0, _ => by simp [doorsTo, incL_nil]
  | k + 1, h => by
    have ih := incL_doors (locks := locks) (key := key) (l := l) j k (by omega)
    rw [doorsTo]
    by_cases ho : opensB (getll locks k) key = true
    · rw [if_pos ho, incL_snoc, geti_set (by rw [incL_len]; simp; omega)]
      simp only [Int.toNat_natCast]
      by_cases e : k = j
      · subst e
        have ih' := ih
        rw [if_neg (by omega)] at ih'
        rw [if_pos rfl, if_pos ⟨by omega, ho⟩, ih']; omega
      · rw [if_neg e, ih]
        congr 1
        by_cases h1 : j < k ∧ opensB (getll locks j) key = true
        · rw [if_pos h1, if_pos ⟨by omega, h1.2⟩]
        · rw [if_neg h1, if_neg (fun h2 => h1 ⟨by omega, h2.2⟩)]
    · rw [if_neg ho, ih]
      congr 1
      by_cases h1 : j < k ∧ opensB (getll locks j) key = true
      · rw [if_pos h1, if_pos ⟨by omega, h1.2⟩]
      · rw [if_neg h1, if_neg (fun h2 => h1 ⟨by
          by_cases e : j = k
          · subst e; exact absurd h2.2 ho
          · omega, h2.2⟩)]
theorem tabC_snoc (locks : List (List (List Int))) (ks : List (List Int)) (key : List Int) : incL (tabC locks ks locks.length) (doorsOf locks key) = tabC locks (ks ++ [key]) locks.length := by
  apply List.ext_getElem (by rw [incL_len, tabC_len, tabC_len])
  intro j h1 h2
  have hj : j < locks.length := by rw [tabC_len] at h2; exact h2
  have e1 : geti (incL (tabC locks ks locks.length) (doorsOf locks key)) j = _ := incL_doors (locks := locks) (key := key) (l := tabC locks ks locks.length) j locks.length (by rw [tabC_len]; exact Nat.le_refl _)
  rw [geti_eq h1, tabC_get hj] at e1
  have e2 := tabC_get (locks := locks) (ks := ks ++ [key]) hj
  rw [geti_eq h2] at e2
  rw [e1, e2, List.countP_append]
  simp only [List.countP_cons, List.countP_nil, Nat.zero_add]
  by_cases ho : opensB (getll locks j) key = true
  · rw [if_pos ⟨hj, ho⟩, if_pos ho]; simp
  · rw [if_neg (fun h => ho h.2), if_neg ho]; simp
theorem tab_ghosts {m : Mk} {t cuts : List (List Int)} {D : Nat} (hD : (getl t 0).length = D) : tabC (locksTo m.c.toNat t cuts D) (outsOf cuts (keysOf m)) D = tabL m t cuts D := by
  unfold tabC tabL
  refine List.map_congr_left fun d hd => ?_
  rw [locksTo_get (List.mem_range.1 hd), doorGh, ghostsN_outs]
def TabInv (locks : List (List (List Int))) (G OB : Nat) (s : List (List Int)) (F : Nat → Prop) (w : World) : Prop :=
  (∀ b, F b ↔ b = G ∨ b = OB) ∧ BlkI w G (tabC locks s locks.length) ∧ ∃ T, w.heap[OB]? = some (.cells #[.slice (some ⟨G, 0, none⟩) locks.length locks.length] T (0, 0))
theorem enters_tab : Enters 136 := fun args w => by kernel_rfl
set_option maxRecDepth 100000 in
theorem tab1_any {S : Nat → Prop} (kv dv : Value) (ds : List Int) (l : List Int) (G OB : Nat) (T : TypeId) (w : World) (hd : V1 S w dv ds) (hS : ∀ b, S b → ¬ b = G) (hb : BlkI w G l) (hds : ∀ x ∈ ds, 0 ≤ x ∧ x < (l.length : Int)) (hl : l.length ≤ 1000) (hdl : ds.length ≤ 1000)
    (hx : ∀ j, j < l.length → 0 ≤ geti l j ∧ geti l j ≤ 1000000) (hOB : w.heap[OB]? = some (.cells #[.slice (some ⟨G, 0, none⟩) l.length l.length] T (0, 0))) (hne : OB ≠ G) :
    Calls Tryz.prog 136 #[kv, dv, .pointer (some ⟨OB, 0, none⟩)] w fun e w' => e = .returned (.bool true) ∧ BlkI w' G (incL l ds) ∧ Chg (fun b => b = G) w w' := by
  obtain ⟨da, dc, rfl, hdm⟩ := hd.form
  obtain ⟨N, hN⟩ : ∃ N, l.length = N := ⟨_, rfl⟩
  have hoc := cell_of_block hOB 0
  simp at hoc
  rw [hN] at hoc
  have hlO := lt_of_cell hoc
  have hblt := hb.lt
  have H := Lib.hid (And.intro hb (And.intro hds (And.intro hx (And.intro hN hd)))); clear hb hds hx hN hd hOB
  go_enter Tryz.func136, Tryz.ntmps136
  go_wp2_with fail
  go_loopw [7, 10] (fun _ ix wr => ∃ q : Nat, q ≤ ds.length ∧ ix = .int .i64 (q : Int) ∧ BlkI wr G (incL l (ds.take q)) ∧ Chg (fun b => b = G) w wr) (fun _ ix _ => ds.length - (intOf ix).toNat)
  case atStart => exact ⟨0, Nat.zero_le _, rfl, H.out.1, Chg.refl _ _⟩
  case round =>
    obtain ⟨q, hq, rfl, hblk, hch⟩ := hrel
    have hzr := hch.size
    by_cases hqq : q < ds.length
    · obtain ⟨b2, off2, rfl, _, hc2⟩ := (H.out.2.2.2.2.mono (S' := fun _ => True) (fun _ _ _ => trivial) (hch.keep hS)).cell hqq
      have h1 := H.out.2.1 _ (geti_mem hqq)
      have hst := incL_take (l := l) hqq
      obtain ⟨p, hp⟩ : ∃ p : Nat, geti ds q = (p : Int) := ⟨(geti ds q).toNat, by omega⟩
      rw [hp, Int.toNat_natCast] at hst
      rw [hp] at h1 hc2
      have hN := H.out.2.2.2.1
      have hbd := incL_bd H.out.2.1 p q hq
      have hxp := H.out.2.2.1 p (by omega)
      have hcell := hblk.cell (k := p) (by rw [incL_len]; omega)
      have hfr := hblk.frozen p
      obtain ⟨x, hxe⟩ : ∃ x, geti (incL l (ds.take q)) p = x := ⟨_, rfl⟩
      rw [hxe] at hcell hbd hst
      have hxb : 0 ≤ x ∧ x ≤ 1001000 := by omega
      have hocr := cell_keep hoc (hch.block _ hlO hne)
      have hw2 : IntKind.i64.wrap (x + 1) = x + 1 := IntWalk.i64_in _ (by omega)
      have hp0 : (0 : Int) ≤ (p : Int) := by omega
      have hpN : (p : Int) < (N : Int) := by omega
      have Hst := Lib.hid (And.intro hst (And.intro hblk hxe)); clear hst hblk hxe hp hbd hxp hN
      go_wp2_with fail
      go_roundw
      case rel => exact ⟨q + 1, by omega, by go_num, by rw [Hst.out.1]; exact Hst.out.2.1.set p (x + 1), Chg.setCell (F := fun b => b = G) hch (p := ⟨G, p, none⟩) (.inl rfl) _⟩
      case measure => simp [intOf]; omega
    · obtain rfl : q = ds.length := by omega
      rw [List.take_length] at hblk
      have Hb := Lib.hid hblk; clear hblk
      go_wp2_with fail
      go_ret
      exact ⟨rfl, Hb.out, hch⟩
theorem tab_ok (m : Mk) (hm : m.ok = true) (cuts : List (List Int)) (locks : List (List (List Int))) (G OB : Nat) (W : World) (hN2 : locks.length ≤ 1000) (hne : G ≠ OB) :
    VisD m.c.toNat W (fun b => b = G ∨ b = OB) 136 #[.pointer (some ⟨OB, 0, none⟩)] keepStep [] (keysOf m) cuts locks (TabInv locks G OB) := by
  refine ⟨enters_tab, ?_, ?_, ?_⟩
  · rintro s F w w' ⟨h1, h2, T, h3⟩ _ h4
    exact ⟨h1, h2.keep (h4 _ ((h1 G).2 (.inl rfl))), T, by rw [h4 _ ((h1 OB).2 (.inr rfl))]; exact h3⟩
  · rintro s F w ⟨h1, h2, T, h3⟩ b hb
    rcases (h1 b).1 hb with e | e
    · rw [e]; exact h2.lt
    · rw [e]; exact lt_of_heap h3
  · rintro s F S S2 w v dv key done rest hL hr ⟨h1, h2, T, h3⟩ hchg hsub hV hS hD hS2 hlen
    rw [keep_run, List.nil_append] at hr
    simp only [Prod.mk.injEq, and_true] at hr
    have hle := keysOf_length hm
    rw [hL] at hle
    have hol := outsOf_length cuts done
    rw [hr] at hol
    simp at hle
    have htl := tabC_len locks s locks.length
    refine (tab1_any v dv (doorsOf locks key) (tabC locks s locks.length) G OB T w hD (fun b hb e => hS2 b hb ((h1 b).2 (.inl e))) h2 (fun x hx => ?_) (by omega) (Nat.le_trans (doorsOf_len _ _) hN2) (fun j hj => ?_) (by rw [htl]; exact h3) (fun e => hne e.symm)).mono ?_
    · obtain ⟨d, hd, rfl, _⟩ := mem_doorsTo.1 hx
      rw [htl]; omega
    · rw [htl] at hj
      rw [tabC_get hj]
      have : s.countP (opensB (getll locks j)) ≤ s.length := List.countP_le_length
      omega
    · rintro e w' ⟨rfl, hb', hc'⟩
      rw [tabC_snoc] at hb'
      exact ⟨F, rfl, ⟨h1, hb', T, by rw [hc'.block _ (lt_of_heap h3) (fun e => hne e.symm)]; exact h3⟩, hc'.mono (fun b hb => (h1 b).2 (.inl hb)), fun b hb => .inl hb⟩

set_option maxRecDepth 100000 in
set_option maxHeartbeats 1000000 in
theorem GhostTable_any {S S' : Nat → Prop} (m : Mk) (u v : Value) (t cuts : List (List Int)) (W : World) (h : V2 S W u t) (hc : V2 S' W v cuts) :
    Calls Tryz.prog 36 #[.agg #[.int .i64 m.c, .int .i64 m.d, .int .i64 m.s, .int .i64 m.e, .int .i64 m.l, u], v] W fun e' w' => ∃ v', e' = .returned (.tuple #[v', .int .i64 (ghTabAns m t cuts).2]) ∧ F1 W.heap.size w' v' (ghTabAns m t cuts).1 ∧ Below W.heap.size W w' := by
  obtain ⟨a, c, rfl, hmx⟩ := h.form
  obtain ⟨a', c', rfl, hmx'⟩ := hc.form
  obtain ⟨W1, hW1, hB01, hz01, HZ01, hc01, hh01⟩ := box_facts W #[.int .i64 m.c, .int .i64 m.d, .int .i64 m.s, .int .i64 m.e, .int .i64 m.l, .slice a t.length c] 28
  have hV1 := (h.below hB01).any
  have hC1 := (hc.below hB01).any
  have hcode := designCode_any m _ _ t cuts W1 hV1 hC1
  by_cases hp : designC m t cuts = 0
  · rw [hp] at hcode
    have hf := (design_fits hp).1
    have hmc := mc_nat hf.ok
    have hdoors := hf.doors
    have hkl := keysOf_length hf.ok
    have hol := outsOf_length cuts (keysOf m)
    obtain ⟨locks, hlocks⟩ : ∃ x, x = locksTo m.c.toNat t cuts (getl t 0).length := ⟨_, rfl⟩
    obtain ⟨D, hD⟩ : ∃ D, (getl t 0).length = D := ⟨_, rfl⟩
    have hll : locks.length = D := by rw [hlocks, locksTo_len, hD]
    have hfin : ghTabAns m t cuts = (tabL m t cuts D, 0) := by unfold ghTabAns; rw [if_neg (by rw [hp]; decide), hD]
    have hrows := hf.rows
    have hV0 := (h.below hB01).old
    have hC0 := (hc.below hB01).old
    obtain ⟨b0, off0, a0, c0, rfl, hb0, hcc0, hr0⟩ := hV0.cell (k := 0) (by omega)
    simp only [Nat.add_zero] at hcc0
    have htg := tab_ghosts (m := m) (cuts := cuts) hD
    have hlocks' : locks = locksTo m.c.toNat t cuts D := by rw [hlocks, hD]
    rw [← hlocks', ← hll] at htg
    have hok := tab_ok m hf.ok cuts locks
    rw [hD] at hcc0 hdoors
    rw [hfin, ← hll]
    rw [← hll] at hcc0 hdoors
    rw [← htg]
    have Hf := Lib.hid (And.intro hf (And.intro hmc (And.intro hlocks hok))); clear hf hmc hlocks hok hr0 hol hkl hlocks'
    have Hp := Lib.hid (And.intro hp (And.intro hfin (And.intro htg (And.intro hll hD)))); clear hp hfin htg hll hD
    have Hcode := Lib.hid hcode; clear hcode
    have h12 : locks.length ≤ 12 := hdoors.2
    obtain ⟨N, hN⟩ : ∃ N, locks.length = N := ⟨_, rfl⟩
    rw [hN] at hcc0 h12
    have HN := Lib.hid hN; clear hN hdoors
    go_enter Tryz.func36, Tryz.ntmps36
    go_wp2_with fail
    rw [← hW1]
    refine Hcode.out.mono ?_
    rintro e' w2 ⟨rfl, hb2⟩
    have hz2 : W.heap.size < w2.heap.size := by have := hb2.size; omega
    have hx2 : ∀ o, w2.cell? ⟨W.heap.size, o, none⟩ = (#[.int .i64 m.c, .int .i64 m.d, .int .i64 m.s, .int .i64 m.e, .int .i64 m.l, .slice (some ⟨b0, off0, none⟩) t.length c] : Array Value)[o]? := fun o => by rw [(bcell hb2).1 _ _ hz01, hc01]
    have hccw := cell_keep hcc0 (hb2.block _ (lt_of_cell hcc0))
    have Hc01 := Lib.hid (And.intro hc01 (And.intro hcc0 hW1)); clear hc01 hcc0 hW1
    clear hh01
    go_wp2_with (at_make; refine wp_mk _ rfl _ _ 46 rfl 2 (.int .i64 0) 1 8 Tryz.underlying46 inf_int N rfl rfl (by omega) (by omega) ?_; intro w3 cs0 hh0 hs0 ht0 hB0 hsz0; have hx3 : ∀ o, w3.cell? ⟨W.heap.size, o, none⟩ = (#[.int .i64 m.c, .int .i64 m.d, .int .i64 m.s, .int .i64 m.e, .int .i64 m.l, .slice (some ⟨b0, off0, none⟩) t.length c] : Array Value)[o]? := (fun o => by rw [(bcell hB0).1 _ _ hz2, hx2]); have hz3 : W.heap.size < w3.heap.size := (by have := hB0.size; omega))
    have hblk := blk_made hh0 ht0
    obtain ⟨w4, hw4, hb34, hz34, HZ34, hc34, hh34⟩ := box_facts w3 #[.slice (some ⟨w2.heap.size, 0, none⟩) N N] 46
    rw [← hw4]
    have Hw4 := Lib.hid hw4; clear hw4
    have hz2b : w2.heap.size < w3.heap.size := hblk.lt
    have hb24 := hB0.trans (hb34.mono hB0.size)
    have hb14 := hb2.trans (hb24.mono hb2.size)
    have hblk4 : BlkI w4 w2.heap.size (tabC locks [] locks.length) := by rw [tabC_nil, HN.out]; exact hblk.keep (hb34.block _ hz2b)
    have hI : TabInv locks w2.heap.size w3.heap.size [] (fun b => b = w2.heap.size ∨ b = w3.heap.size) w4 := ⟨fun b => Iff.rfl, hblk4, _, by rw [HN.out]; exact hh34⟩
    have hV3 : V2 (fun b => ¬ (b = w2.heap.size ∨ b = w3.heap.size)) w4 (.slice (some ⟨b0, off0, none⟩) t.length c) t := (hV0.below hb14).mono (fun b h1 h2 => by have h1' : b < W1.heap.size := h1; have := hb2.size; omega) (fun _ _ _ => rfl)
    have hC3 : V2 (fun b => ¬ (b = w2.heap.size ∨ b = w3.heap.size)) w4 (.slice a' cuts.length c') cuts := (hC0.below hb14).mono (fun b h1 h2 => by have h1' : b < W1.heap.size := h1; have := hb2.size; omega) (fun _ _ _ => rfl)
    have hvd := Hf.out.2.2.2 w2.heap.size w3.heap.size w4 (by rw [HN.out]; omega) (by omega)
    have hlk := Hf.out.2.2.1
    have hall := eachOutsider_any (.slice (some ⟨b0, off0, none⟩) t.length c) (.slice a' cuts.length c') Hf.out.1 Hf.out.2.1 w4 (by rw [← hlk]; exact hvd) hI hV3 hC3
    rw [← hlk, keep_run, List.nil_append] at hall
    clear hvd hI hx3 hx2 hlk
    refine hall.mono ?_
    rintro e' w5 ⟨F', ⟨hF', hblk5, T5, hO5⟩, hchg, hsub, rfl⟩
    rw [HN.out] at hO5
    have hc5 := cell_of_block hO5 0
    simp at hc5
    have Hfin := Lib.hid (And.intro hblk5 hchg); clear hblk5 hchg hall hO5
    go_wp2_with fail
    go_ret2
    have hX := Hfin.out.1.x1 (off := 0) (Nat.zero_le _) (by rw [tabC_len, HN.out]; omega)
    rw [List.drop_zero, Nat.sub_zero, tabC_len, HN.out] at hX
    refine ⟨_, rfl, ⟨w2.heap.size, ?_, fun _ => by have := hb2.size; omega⟩, hB01.trans ((hb14.trans (Hfin.out.2.to_below (fun i hi => by have := hb2.size; omega) hb14.size)).mono (by omega))⟩
    rw [HN.out]
    exact hX
  · have hfin : ghTabAns m t cuts = ([], designC m t cuts) := by unfold ghTabAns; rw [if_pos hp]; (try rfl)
    have e1 : (designC m t cuts != 0) = true := by simp [hp]
    rw [hfin]
    have Hp := Lib.hid (And.intro hp hfin); clear hp hfin
    generalize designC m t cuts = pc at *
    go_enter Tryz.func36, Tryz.ntmps36
    go_wp2_with fail
    rw [← hW1]
    refine hcode.mono ?_
    rintro e' w2 ⟨rfl, hb2⟩
    clear hc01 hh01
    go_wp2_with fail
    go_ret2
    exact ⟨_, rfl, F1.nil2, hB01.trans (hb2.mono (by omega))⟩
end Go.Proofs.YtmfgdoflddhngaaGreat

namespace Go.Proofs.YtmfgdoflddhngaaGreat
open Go.RowKit
set_option linter.unusedVariables false
set_option linter.unusedSimpArgs false

set_option maxRecDepth 100000 in
theorem ProfileOfR_any {S S' : Nat → Prop} (m : Mk) (u v : Value) (t cuts : List (List Int)) (W : World) (h : V2 S W u t) (hc : V2 S' W v cuts) :
    Calls Tryz.prog 39 #[.agg #[.int .i64 m.c, .int .i64 m.d, .int .i64 m.s, .int .i64 m.e, .int .i64 m.l, u], v] W fun e' w' => ∃ v', e' = .returned (.tuple #[v', .int .i64 (profAns m t cuts).2]) ∧ V1 (fun b => b < w'.heap.size) w' v' (profAns m t cuts).1 ∧ Below W.heap.size W w' := by
  obtain ⟨a, c, rfl, hmx⟩ := h.form
  obtain ⟨a', c', rfl, hmx'⟩ := hc.form
  obtain ⟨W1, hW1, hB01, hz01, HZ01, hc01, hh01⟩ := box_facts W #[.int .i64 m.c, .int .i64 m.d, .int .i64 m.s, .int .i64 m.e, .int .i64 m.l, .slice a t.length c] 28
  have hV1 := (h.below hB01).any
  have hC1 := (hc.below hB01).any
  have hcode := l21Code_any m _ _ t cuts W1 hV1 hC1
  by_cases hp : designC m t cuts = 0
  · rw [hp] at hcode
    have hf := (design_fits hp).1
    have hmc := mc_nat hf.ok
    have hdoors := hf.doors
    have hkl := keysOf_length hf.ok
    have hol := outsOf_length cuts (keysOf m)
    obtain ⟨locks, hlocks⟩ : ∃ x, x = locksTo m.c.toNat t cuts (getl t 0).length := ⟨_, rfl⟩
    obtain ⟨D, hD⟩ : ∃ D, (getl t 0).length = D := ⟨_, rfl⟩
    have hll : locks.length = D := by rw [hlocks, locksTo_len, hD]
    have hfin : profAns m t cuts = (cntL locks (outsOf cuts (keysOf m)) 1 D, 0) := by unfold profAns; rw [if_neg (by rw [hp]; decide), ← hlocks, hD]
    have hpr := l22Profile_any (S := fun _ => True) (S' := fun _ => True) m (.slice a t.length c) (.slice a' cuts.length c') t cuts m.c.toNat
    rw [← hlocks, hD] at hpr
    rw [hfin]
    rw [hD] at hdoors
    have Hf := Lib.hid (And.intro hf (And.intro hmc hpr)); clear hf hmc hpr hol hkl
    have Hp := Lib.hid (And.intro hp (And.intro hfin (And.intro hlocks (And.intro hD hll)))); clear hp hfin hlocks hD hll
    have Hcode := Lib.hid hcode; clear hcode
    go_enter Tryz.func39, Tryz.ntmps39
    go_wp2_with fail
    rw [← hW1]
    refine Hcode.out.mono ?_
    rintro e' w2 ⟨rfl, hb2⟩
    have hx2 : ∀ o, w2.cell? ⟨W.heap.size, o, none⟩ = (#[.int .i64 m.c, .int .i64 m.d, .int .i64 m.s, .int .i64 m.e, .int .i64 m.l, .slice a t.length c] : Array Value)[o]? := fun o => by rw [(bcell hb2).1 _ _ hz01, hc01]
    have hz2 : W.heap.size < w2.heap.size := by have := hb2.size; omega
    clear hc01 hh01
    go_wp2_with fail
    refine (Hf.out.2.2 _ Hf.out.1 Hf.out.2.1 (hV1.below hb2) (hC1.below hb2)).mono ?_
    rintro e' w3 ⟨G, rfl, hblk, hb3⟩
    have hx := hblk.x1 (off := 0) (by omega) (by rw [cntL_len]; omega)
    rw [List.drop_zero, Nat.sub_zero, cntL_len] at hx
    have Hx := Lib.hid (hx.v1 (S := fun b => b < w3.heap.size) (fun _ => hblk.lt)); clear hx hblk hx2
    go_wp2_with fail
    go_ret2
    exact ⟨_, rfl, Hx.out, hB01.trans ((hb2.trans (hb3.mono hb2.size)).mono (by omega))⟩
  · have hfin : profAns m t cuts = ([], designC m t cuts) := by unfold profAns; rw [if_pos hp]; (try rfl)
    have e1 : (designC m t cuts != 0) = true := by simp [hp]
    rw [hfin]
    have Hp := Lib.hid (And.intro hp hfin); clear hp hfin
    generalize designC m t cuts = pc at *
    go_enter Tryz.func39, Tryz.ntmps39
    go_wp2_with fail
    rw [← hW1]
    refine hcode.mono ?_
    rintro e' w2 ⟨rfl, hb2⟩
    clear hc01 hh01
    go_wp2_with fail
    go_ret2
    exact ⟨_, rfl, (F1.nil0 (B := 0)).v1.old, hB01.trans (hb2.mono (by omega))⟩
end Go.Proofs.YtmfgdoflddhngaaGreat
