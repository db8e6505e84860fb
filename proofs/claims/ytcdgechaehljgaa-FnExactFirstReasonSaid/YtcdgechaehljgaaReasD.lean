/- What the program and the reference answer on reasons: how many there are, and whether one is a reason. No conditions. -/
import Derived.Test.YtcdgechaehljgaaReasC
namespace Go.Proofs.Ytcdgechaehljgaa
open Go.RowKit
set_option linter.unusedVariables false
set_option linter.unusedSimpArgs false

def prodTo (ls : List (List Int)) : Nat → Nat
  | 0 => 1
  | k + 1 => prodTo ls k * (getl ls k).length
theorem prodTo_le {ls : List (List Int)} (h : ∀ k, k < ls.length → (getl ls k).length ≤ 10) : ∀ k, k ≤ ls.length → prodTo ls k ≤ 10 ^ k
  | 0, _ => Nat.le_refl _
  | k + 1, hk => by
    unfold prodTo
    rw [Nat.pow_succ]
    exact Nat.mul_le_mul (prodTo_le h k (by omega)) (h k (by omega))
theorem prodTo_small {ls : List (List Int)} (h : ∀ k, k < ls.length → (getl ls k).length ≤ 10) (hl : ls.length ≤ 6) {k : Nat} (hk : k ≤ ls.length) : prodTo ls k ≤ 1000000 :=
  Nat.le_trans (prodTo_le h k hk) (Nat.le_trans (Nat.pow_le_pow_right (by decide) (by omega : k ≤ 6)) (by decide))
theorem reasRows_small {t cuts : List (List Int)} {key door n : Nat} (hc : cuts.length ≤ 10) : ∀ k, k < (reasRows t cuts key door n).length → (getl (reasRows t cuts key door n) k).length ≤ 10 := fun k hk => by
  rw [reasRows_len] at hk
  rw [reasRows_get hk]
  exact Nat.le_trans (reasRow_len _ _ _ _ _ _) hc

def cntReasAns (m : Mk) (t cuts : List (List Int)) (key door : Int) : Int × Int :=
  if reasC m t cuts key door ≠ 0 then (0, reasC m t cuts key door) else ((prodTo (reasRows t cuts key.toNat door.toNat m.c.toNat) m.c.toNat : Nat), 0)

theorem l18Number_any {S : Nat → Prop} (v : Value) (ls : List (List Int)) (W : World) (h : V2 S W v ls) (hs : ∀ k, k < ls.length → (getl ls k).length ≤ 10) (hl : ls.length ≤ 6) :
    Calls Try.prog 66 #[v] W fun e' w' => e' = .returned (.int .i64 (prodTo ls ls.length)) ∧ W = w' := by
  have hV := h
  obtain ⟨a, c, rfl, hmx⟩ := h.form
  have Hs := Lib.hid hs; clear hs
  go_enter Try.func66, Try.ntmps66
  go_wp2_with fail
  go_loop [3, 4] (fun s i => ∃ k : Nat, k ≤ ls.length ∧ i = .int .i64 (k : Int) ∧ s = .int .i64 (prodTo ls k : Int)) (fun _ i => ls.length - (intOf i).toNat)
  case atStart => exact ⟨0, Nat.zero_le _, rfl, rfl⟩
  case round =>
    obtain ⟨k, hk, rfl, rfl⟩ := hrel
    by_cases hkk : k < ls.length
    · obtain ⟨b1, off1, a1, c1, rfl, _, hc1, hr1⟩ := hV.cell hkk
      have hp1 := prodTo_small Hs.out hl (show k + 1 ≤ ls.length by omega)
      have hst : ((prodTo ls k : Nat) : Int) * ((getl ls k).length : Int) = ((prodTo ls (k + 1) : Nat) : Int) := by rw [prodTo]; push_cast; rfl
      have hw : wrap64 (((prodTo ls k : Nat) : Int) * ((getl ls k).length : Int)) = ((prodTo ls (k + 1) : Nat) : Int) := by rw [hst]; exact IntWalk.wrap64_in _ ⟨by omega, by omega⟩
      have Hw := Lib.hid hw; clear hw hst
      go_wp2_with fail
      go_round
      case rel => exact ⟨k + 1, by omega, by go_num, by rw [Hw.out]⟩
      case measure => simp [intOf]; omega
    · obtain rfl : k = ls.length := by omega
      go_wp2_with fail
      go_ret
      exact ⟨rfl, rfl⟩

set_option maxRecDepth 100000 in
theorem CountReasons_any {S S' : Nat → Prop} (m : Mk) (u v : Value) (t cuts : List (List Int)) (key door : Int) (W : World) (h : V2 S W u t) (hc : V2 S' W v cuts) :
    Calls Try.prog 27 #[.agg #[.int .i64 m.c, .int .i64 m.d, .int .i64 m.s, .int .i64 m.e, .int .i64 m.l, u], v, .int .i64 key, .int .i64 door] W fun e' w' => e' = .returned (.tuple #[.int .i64 (cntReasAns m t cuts key door).1, .int .i64 (cntReasAns m t cuts key door).2]) ∧ Below W.heap.size W w' := by
  obtain ⟨a, c, rfl, hmx⟩ := h.form
  obtain ⟨a', c', rfl, hmx'⟩ := hc.form
  obtain ⟨W1, hW1, hB01, hz01, HZ01, hc01, hh01⟩ := box_facts W #[.int .i64 m.c, .int .i64 m.d, .int .i64 m.s, .int .i64 m.e, .int .i64 m.l, .slice a t.length c] 32
  have hV1 : V2 (fun _ => True) W1 (.slice a t.length c) t := (h.below hB01).mono (fun _ _ _ => trivial) (fun _ _ _ => rfl)
  have hC1 : V2 (fun _ => True) W1 (.slice a' cuts.length c') cuts := (hc.below hB01).mono (fun _ _ _ => trivial) (fun _ _ _ => rfl)
  have hpart := reasonCode_any m _ _ t cuts key door W1 hV1 hC1
  by_cases hp : reasC m t cuts key door = 0
  · rw [hp] at hpart
    have hfin : cntReasAns m t cuts key door = (((prodTo (reasRows t cuts key.toNat door.toNat m.c.toNat) m.c.toNat : Nat) : Int), 0) := by unfold cntReasAns; rw [if_neg (by rw [hp]; decide)]
    rw [hfin]
    obtain ⟨hpc, k, d, rfl, rfl, hk, hd, _⟩ := reasC_ok hp
    have hf := fits_of hpc
    have hmk := Mk.ok_iff.1 hf.ok
    simp only [Int.toNat_natCast]
    obtain ⟨n, hn, hn6, hn0⟩ : ∃ n : Nat, m.c.toNat = n ∧ n ≤ 6 ∧ (n : Int) = m.c := ⟨_, rfl, by omega, by omega⟩
    rw [hn]
    have hsm := reasRows_small (t := t) (key := k) (door := d) (n := n) (show cuts.length ≤ 10 by have := hf.few; have := hf.rows; omega)
    have hlen := reasRows_len t cuts k d n
    have Hn := Lib.hid (And.intro hn hn0); clear hn hn0 hfin hp hpc hmk
    have Hf := Lib.hid hf; clear hf
    generalize hR : reasRows t cuts k d n = R at *
    have HR := Lib.hid hR; clear hR
    have Hsm := Lib.hid hsm; clear hsm
    have Hlen := Lib.hid hlen
    have hlR : R.length ≤ 6 := by omega
    have hlR2 : R.length ≤ n := by omega
    have hlR3 : n ≤ R.length := by omega
    clear hlen
    go_enter Try.func27, Try.ntmps27
    go_wp2_with fail
    rw [← hW1]
    refine hpart.mono ?_
    rintro e' w2 ⟨rfl, hb2⟩
    have hx2 : ∀ o, w2.cell? ⟨W.heap.size, o, none⟩ = (#[.int .i64 m.c, .int .i64 m.d, .int .i64 m.s, .int .i64 m.e, .int .i64 m.l, .slice a t.length c] : Array Value)[o]? := fun o => by rw [(bcell hb2).1 _ _ hz01, hc01]
    clear hc01 hh01
    have HW1 := Lib.hid hW1; clear hW1
    go_wp2_with fail
    refine (reasonRows_any m _ _ t cuts k d n _ Hf.out hk hd Hn.out.2 (hV1.below hb2) (hC1.below hb2)).mono ?_
    rintro e' w3 ⟨v3, rfl, hF, hb3⟩
    rw [HR.out] at hF
    obtain ⟨a3, c3, rfl, hl3⟩ := hF.v2.form
    clear hx2
    go_wp2_with fail
    go_loop [11, 13, 28] (fun s _ i => ∃ j : Nat, j ≤ R.length ∧ i = .int .i64 (j : Int) ∧ s = .int .i64 (prodTo R j : Int)) (fun _ _ i => R.length - (intOf i).toNat)
    case atStart => exact ⟨0, Nat.zero_le _, rfl, rfl⟩
    case round =>
      obtain ⟨j, hj, rfl, rfl⟩ := hrel
      by_cases hjj : j < R.length
      · obtain ⟨b1, off1, a1, c1, rfl, _, hc1, hr1⟩ := hF.v2.cell hjj
        have hp1 := prodTo_small Hsm.out hlR (show j + 1 ≤ R.length by omega)
        have hst : ((prodTo R j : Nat) : Int) * ((getl R j).length : Int) = ((prodTo R (j + 1) : Nat) : Int) := by rw [prodTo]; push_cast; rfl
        have hw : wrap64 (((prodTo R j : Nat) : Int) * ((getl R j).length : Int)) = ((prodTo R (j + 1) : Nat) : Int) := by rw [hst]; exact IntWalk.wrap64_in _ ⟨by omega, by omega⟩
        have Hw := Lib.hid hw; clear hw hst
        go_wp2_with fail
        go_round
        case rel => exact ⟨j + 1, by omega, by go_num, by rw [Hw.out]⟩
        case measure => simp [intOf]; omega
      · have hjn : j = n := by omega
        have Hjn := Lib.hid hjn; clear hjn
        go_wp2_with fail
        go_ret2
        exact ⟨by rw [Hjn.out]; rfl, hB01.trans ((hb2.trans (hb3.mono hb2.size)).mono (by omega))⟩
  · have hfin : cntReasAns m t cuts key door = (0, reasC m t cuts key door) := by unfold cntReasAns; rw [if_pos hp]
    have e1 : (reasC m t cuts key door != 0) = true := by simp [hp]
    rw [hfin]
    have Hp := Lib.hid hp; clear hp hfin
    generalize reasC m t cuts key door = pc at *
    go_enter Try.func27, Try.ntmps27
    go_wp2_with fail
    rw [← hW1]
    refine hpart.mono ?_
    rintro e' w2 ⟨rfl, hb2⟩
    clear hc01 hh01
    go_wp2_with fail
    go_ret2
    exact ⟨rfl, hB01.trans (hb2.mono (by omega))⟩
set_option maxRecDepth 100000 in
theorem CountReasonsR_any {S S' : Nat → Prop} (m : Mk) (u v : Value) (t cuts : List (List Int)) (key door : Int) (W : World) (h : V2 S W u t) (hc : V2 S' W v cuts) :
    Calls Try.prog 25 #[.agg #[.int .i64 m.c, .int .i64 m.d, .int .i64 m.s, .int .i64 m.e, .int .i64 m.l, u], v, .int .i64 key, .int .i64 door] W fun e' w' => e' = .returned (.tuple #[.int .i64 (cntReasAns m t cuts key door).1, .int .i64 (cntReasAns m t cuts key door).2]) ∧ Below W.heap.size W w' := by
  obtain ⟨a, c, rfl, hmx⟩ := h.form
  obtain ⟨a', c', rfl, hmx'⟩ := hc.form
  obtain ⟨W1, hW1, hB01, hz01, HZ01, hc01, hh01⟩ := box_facts W #[.int .i64 m.c, .int .i64 m.d, .int .i64 m.s, .int .i64 m.e, .int .i64 m.l, .slice a t.length c] 32
  have hV1 : V2 (fun _ => True) W1 (.slice a t.length c) t := (h.below hB01).mono (fun _ _ _ => trivial) (fun _ _ _ => rfl)
  have hC1 : V2 (fun _ => True) W1 (.slice a' cuts.length c') cuts := (hc.below hB01).mono (fun _ _ _ => trivial) (fun _ _ _ => rfl)
  have hpart := l18Code_any m _ _ t cuts key door W1 hV1 hC1
  by_cases hp : reasC m t cuts key door = 0
  · rw [hp] at hpart
    have hfin : cntReasAns m t cuts key door = (((prodTo (reasRows t cuts key.toNat door.toNat m.c.toNat) m.c.toNat : Nat) : Int), 0) := by unfold cntReasAns; rw [if_neg (by rw [hp]; decide)]
    rw [hfin]
    obtain ⟨hpc, k, d, rfl, rfl, hk, hd, _⟩ := reasC_ok hp
    have hf := fits_of hpc
    have hmk := Mk.ok_iff.1 hf.ok
    simp only [Int.toNat_natCast]
    obtain ⟨n, hn, hn6, hn0⟩ : ∃ n : Nat, m.c.toNat = n ∧ n ≤ 6 ∧ (n : Int) = m.c := ⟨_, rfl, by omega, by omega⟩
    rw [hn]
    have hsm := reasRows_small (t := t) (key := k) (door := d) (n := n) (show cuts.length ≤ 10 by have := hf.few; have := hf.rows; omega)
    have hlen := reasRows_len t cuts k d n
    have Hn := Lib.hid (And.intro hn hn0); clear hn hn0 hfin hp hpc hmk
    have Hf := Lib.hid hf; clear hf
    have Hsm := Lib.hid hsm; clear hsm
    have Hlen := Lib.hid hlen; clear hlen
    go_enter Try.func25, Try.ntmps25
    go_wp2_with fail
    rw [← hW1]
    refine hpart.mono ?_
    rintro e' w2 ⟨rfl, hb2⟩
    have hx2 : ∀ o, w2.cell? ⟨W.heap.size, o, none⟩ = (#[.int .i64 m.c, .int .i64 m.d, .int .i64 m.s, .int .i64 m.e, .int .i64 m.l, .slice a t.length c] : Array Value)[o]? := fun o => by rw [(bcell hb2).1 _ _ hz01, hc01]
    clear hc01 hh01
    have HW1 := Lib.hid hW1; clear hW1
    go_wp2_with fail
    refine (l18Rows_any m _ _ t cuts k d n _ Hf.out hk hd Hn.out.2 (hV1.below hb2) (hC1.below hb2)).mono ?_
    rintro e' w3 ⟨v3, rfl, hF, hb3⟩
    clear hx2
    go_wp2_with fail
    refine (l18Number_any _ _ _ hF.v2 Hsm.out (by rw [Hlen.out]; exact hn6)).mono ?_
    rintro e' w4 ⟨rfl, rfl⟩
    rw [Hlen.out]
    go_wp2_with fail
    go_ret2
    exact ⟨rfl, hB01.trans ((hb2.trans (hb3.mono hb2.size)).mono (by omega))⟩
  · have hfin : cntReasAns m t cuts key door = (0, reasC m t cuts key door) := by unfold cntReasAns; rw [if_pos hp]
    have e1 : (reasC m t cuts key door != 0) = true := by simp [hp]
    rw [hfin]
    have Hp := Lib.hid hp; clear hp hfin
    generalize reasC m t cuts key door = pc at *
    go_enter Try.func25, Try.ntmps25
    go_wp2_with fail
    rw [← hW1]
    refine hpart.mono ?_
    rintro e' w2 ⟨rfl, hb2⟩
    clear hc01 hh01
    go_wp2_with fail
    go_ret2
    exact ⟨rfl, hB01.trans (hb2.mono (by omega))⟩
end Go.Proofs.Ytcdgechaehljgaa
