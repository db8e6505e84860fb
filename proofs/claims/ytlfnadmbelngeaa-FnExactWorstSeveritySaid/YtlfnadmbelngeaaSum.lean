/- Sums of lists; how many outsiders open some door. No conditions. -/
import Derived.Test.YtlfnadmbelngeaaProf
import Derived.Test.YtlfnadmbelngeaaGhosts
namespace Go.Proofs.Ytlfnadmbelngeaa
open Go.RowKit
set_option linter.unusedVariables false
set_option linter.unusedSimpArgs false

def Few (l : List Int) : Prop := l.length ≤ 1000 ∧ ∀ x ∈ l, 0 ≤ x ∧ x ≤ 1000000
theorem sum_take_bd {l : List Int} (h : Few l) (k : Nat) : 0 ≤ (l.take k).sum ∧ (l.take k).sum ≤ 1000000 * 1000 := by
  have := sum_bd (l := l.take k) (B := 1000000) fun x hx => h.2 x (List.mem_of_mem_take hx)
  have h2 : (l.take k).length ≤ 1000 := Nat.le_trans (List.length_take_le' _ _) h.1
  omega
theorem sum_any {S : Nat → Prop} (v : Value) (l : List Int) (W : World) (r : Int) (hr : l.sum = r) (h : V1 S W v l) (hs : Few l) :
    Calls Try.prog 47 #[v] W fun e' w' => e' = .returned (.int .i64 r) ∧ W = w' := by
  have hV := h
  obtain ⟨a, c, rfl, hm⟩ := h.form
  have Hr := Lib.hid hr; clear hr
  have Hs := Lib.hid hs; clear hs
  go_enter Try.func47, Try.ntmps47
  go_wp2_with fail
  go_loop [3, 5, 8] (fun s _ i => ∃ k : Nat, k ≤ l.length ∧ i = .int .i64 (k : Int) ∧ s = .int .i64 (l.take k).sum) (fun _ _ i => l.length - (intOf i).toNat)
  case atStart => exact ⟨0, Nat.zero_le _, rfl, rfl⟩
  case round =>
    obtain ⟨k, hk, rfl, rfl⟩ := hrel
    have hbd := sum_take_bd Hs.out k
    obtain ⟨q, hq⟩ : ∃ q, (l.take k).sum = q := ⟨_, rfl⟩
    rw [hq] at hbd ⊢
    have Hq := Lib.hid hq; clear hq
    by_cases hkk : k < l.length
    · obtain ⟨b2, off2, rfl, _, hc2⟩ := hV.cell hkk
      have hx := Hs.out.2 _ (geti_mem hkk)
      have hst := sum_take hkk
      have Hst := Lib.hid hst; clear hst
      go_wp2_with fail
      go_round
      case rel => exact ⟨k + 1, by omega, by go_num, by rw [Hst.out, Hq.out]⟩
      case measure => simp [intOf]; omega
    · obtain rfl : k = l.length := by omega
      go_wp2_with fail
      go_ret
      exact ⟨ret_int (by rw [← Hr.out, ← Hq.out, List.take_length]), rfl⟩
theorem l01Sum_any {S : Nat → Prop} (v : Value) (l : List Int) (W : World) (r : Int) (hr : l.sum = r) (h : V1 S W v l) (hs : Few l) :
    Calls Try.prog 45 #[v] W fun e' w' => e' = .returned (.int .i64 r) ∧ W = w' := by
  have hV := h
  obtain ⟨a, c, rfl, hm⟩ := h.form
  have Hr := Lib.hid hr; clear hr
  have Hs := Lib.hid hs; clear hs
  go_enter Try.func45, Try.ntmps45
  go_wp2_with fail
  go_loop [3, 4] (fun s i => ∃ k : Nat, k ≤ l.length ∧ i = .int .i64 (k : Int) ∧ s = .int .i64 (l.take k).sum) (fun _ i => l.length - (intOf i).toNat)
  case atStart => exact ⟨0, Nat.zero_le _, rfl, rfl⟩
  case round =>
    obtain ⟨k, hk, rfl, rfl⟩ := hrel
    have hbd := sum_take_bd Hs.out k
    obtain ⟨q, hq⟩ : ∃ q, (l.take k).sum = q := ⟨_, rfl⟩
    rw [hq] at hbd ⊢
    have Hq := Lib.hid hq; clear hq
    by_cases hkk : k < l.length
    · obtain ⟨b2, off2, rfl, _, hc2⟩ := hV.cell hkk
      have hx := Hs.out.2 _ (geti_mem hkk)
      have hst := sum_take hkk
      have Hst := Lib.hid hst; clear hst
      go_wp2_with fail
      go_round
      case rel => exact ⟨k + 1, by omega, by go_num, by rw [Hst.out, Hq.out]⟩
      case measure => simp [intOf]; omega
    · obtain rfl : k = l.length := by omega
      go_wp2_with fail
      go_ret
      exact ⟨ret_int (by rw [← Hr.out, ← Hq.out, List.take_length]), rfl⟩

theorem cntL_drop (locks : List (List (List Int))) (ks : List (List Int)) (n : Nat) : (cntL locks ks 0 (n + 1)).drop 1 = cntL locks ks 1 n := by
  apply List.ext_getElem (by simp [cntL])
  intro i h1 h2
  simp [cntL, Nat.add_comm]
theorem cntL_few {locks : List (List (List Int))} {ks : List (List Int)} {lo n : Nat} (hn : n ≤ 1000) (hk : ks.length ≤ 1000000) : Few (cntL locks ks lo n) := by
  refine ⟨by rw [cntL_len]; exact hn, fun x hx => ?_⟩
  unfold cntL at hx
  rw [List.mem_map] at hx
  obtain ⟨j, _, rfl⟩ := hx
  have := cntN_le locks ks (lo + j)
  omega
/-- The outsiders that open some door, counted. -/
theorem ghosts_sum {locks : List (List (List Int))} {cuts ks : List (List Int)} {D : Nat} (hD : locks.length = D) : (cntL locks (outsOf cuts ks) 1 D).sum = ((selL locks cuts true ks).length : Int) := by
  rw [cnt_sum]
  congr 1
  unfold outsOf selL
  rw [List.countP_filter, List.countP_eq_length_filter]
  congr 1
  apply List.filter_congr
  intro k _
  unfold selK
  have := ndoors_le locks k
  have e : decide (1 ≤ ndoors locks k ∧ ndoors locks k < 1 + D) = decide (0 < ndoors locks k) := by rw [decide_eq_decide]; omega
  rw [e]
  cases decide (0 < ndoors locks k) <;> rfl

/-- The number of ghosts of a system. -/
def sysGhostAns (m : Mk) (t cuts : List (List Int)) : Int × Int :=
  if designC m t cuts ≠ 0 then (0, designC m t cuts) else (((selL (locksTo m.c.toNat t cuts (getl t 0).length) cuts true (keysOf m)).length : Nat), 0)
set_option maxRecDepth 100000 in
theorem CountSystemGhosts_any {S S' : Nat → Prop} (m : Mk) (u v : Value) (t cuts : List (List Int)) (W : World) (h : V2 S W u t) (hc : V2 S' W v cuts) :
    Calls Try.prog 31 #[.agg #[.int .i64 m.c, .int .i64 m.d, .int .i64 m.s, .int .i64 m.e, .int .i64 m.l, u], v] W fun e' w' => e' = .returned (.tuple #[.int .i64 (sysGhostAns m t cuts).1, .int .i64 (sysGhostAns m t cuts).2]) ∧ Below W.heap.size W w' := by
  obtain ⟨a, c, rfl, hmx⟩ := h.form
  obtain ⟨a', c', rfl, hmx'⟩ := hc.form
  obtain ⟨W1, hW1, hB01, hz01, HZ01, hc01, hh01⟩ := box_facts W #[.int .i64 m.c, .int .i64 m.d, .int .i64 m.s, .int .i64 m.e, .int .i64 m.l, .slice a t.length c] 34
  have hV1 := (h.below hB01).any
  have hC1 := (hc.below hB01).any
  have hcode := designCode_any m _ _ t cuts W1 hV1 hC1
  by_cases hp : designC m t cuts = 0
  · rw [hp] at hcode
    have hf := (design_fits hp).1
    have hmc := mc_nat hf.ok
    have hdoors := hf.doors
    have hkl := keysOf_length hf.ok
    have hol := outsOf_length cuts (keysOf m)
    obtain ⟨locks, hlocks⟩ : ∃ x, x = locksTo m.c.toNat t cuts (getl t 0).length := ⟨_, rfl⟩
    obtain ⟨D, hD⟩ : ∃ D, (getl t 0).length = D := ⟨_, rfl⟩
    have hll : locks.length = D := by rw [hlocks, locksTo_len, hD]
    have hfin : sysGhostAns m t cuts = ((((selL locks cuts true (keysOf m)).length : Nat) : Int), 0) := by unfold sysGhostAns; rw [if_neg (by rw [hp]; decide), ← hlocks]
    have hsum := ghosts_sum (cuts := cuts) (ks := keysOf m) hll
    have hpr := profileOf_any (S := fun _ => True) (S' := fun _ => True) m (.slice a t.length c) (.slice a' cuts.length c') t cuts m.c.toNat
    rw [← hlocks, hD] at hpr
    rw [hfin]
    rw [hD] at hdoors
    obtain ⟨r, hr⟩ : ∃ r, (((selL locks cuts true (keysOf m)).length : Nat) : Int) = r := ⟨_, rfl⟩
    rw [hr] at hsum ⊢
    have hfew := cntL_few (locks := locks) (ks := outsOf cuts (keysOf m)) (lo := 1) (n := D) (by omega) (by omega)
    have Hf := Lib.hid (And.intro hf (And.intro hmc (And.intro hpr (And.intro hsum hfew)))); clear hf hmc hpr hsum hfew hol hkl
    have Hp := Lib.hid (And.intro hp (And.intro hfin (And.intro hlocks (And.intro hD (And.intro hll hr))))); clear hp hfin hlocks hD hll hr
    have Hcode := Lib.hid hcode; clear hcode
    go_enter Try.func31, Try.ntmps31
    go_wp2_with fail
    rw [← hW1]
    refine Hcode.out.mono ?_
    rintro e' w2 ⟨rfl, hb2⟩
    have hx2 : ∀ o, w2.cell? ⟨W.heap.size, o, none⟩ = (#[.int .i64 m.c, .int .i64 m.d, .int .i64 m.s, .int .i64 m.e, .int .i64 m.l, .slice a t.length c] : Array Value)[o]? := fun o => by rw [(bcell hb2).1 _ _ hz01, hc01]
    have hz2 : W.heap.size < w2.heap.size := by have := hb2.size; omega
    clear hc01 hh01
    go_wp2_with fail
    refine (Hf.out.2.2.1 _ Hf.out.1 Hf.out.2.1 (hV1.below hb2) (hC1.below hb2)).mono ?_
    rintro e' w3 ⟨G, rfl, hG, hblk, hb3⟩
    have hx := hblk.x1 (off := 1) (by rw [cntL_len]; omega) (by rw [cntL_len]; omega)
    rw [cntL_drop, cntL_len] at hx
    have Hx := Lib.hid (hx.v1 (S := fun _ => True) (fun _ => trivial)); clear hx hblk hx2
    have h1D : (1 : Int) ≤ ((D : Int) + 1) := by omega
    go_wp2_with fail
    refine (sum_any _ (cntL locks (outsOf cuts (keysOf m)) 1 D) _ r Hf.out.2.2.2.1 Hx.out Hf.out.2.2.2.2).mono ?_
    rintro e' w4 ⟨rfl, rfl⟩
    go_wp2_with fail
    go_ret2
    exact ⟨rfl, hB01.trans ((hb2.trans (hb3.mono hb2.size)).mono (by omega))⟩
  · have hfin : sysGhostAns m t cuts = (0, designC m t cuts) := by unfold sysGhostAns; rw [if_pos hp]; (try rfl)
    have e1 : (designC m t cuts != 0) = true := by simp [hp]
    rw [hfin]
    have Hp := Lib.hid (And.intro hp hfin); clear hp hfin
    generalize designC m t cuts = pc at *
    go_enter Try.func31, Try.ntmps31
    go_wp2_with fail
    rw [← hW1]
    refine hcode.mono ?_
    rintro e' w2 ⟨rfl, hb2⟩
    clear hc01 hh01
    go_wp2_with fail
    go_ret2
    exact ⟨rfl, hB01.trans (hb2.mono (by omega))⟩
end Go.Proofs.Ytlfnadmbelngeaa
