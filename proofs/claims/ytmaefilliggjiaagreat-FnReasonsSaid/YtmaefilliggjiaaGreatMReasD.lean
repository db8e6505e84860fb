/- What the program and the reference answer on reasons: how many there are, and whether one is a reason. No conditions. -/
import Derived.Deep.RegionHeld3
import Derived.OwnWalk
import Derived.Test.YtmaefilliggjiaaGreatMDraw14
import Derived.Test.YtmaefilliggjiaaGreatMClone2
import Derived.Test.YtmaefilliggjiaaGreatMBegins
import Derived.Test.YtmaefilliggjiaaGreatMLocksR
import Derived.Test.YtmaefilliggjiaaGreatMHullR
import Derived.Test.YtmaefilliggjiaaGreatMDraw1
import Derived.Test.YtmaefilliggjiaaGreatMRefFirst
namespace Go.Proofs.YtmaefilliggjiaaGreat
open Go.RowKit
set_option linter.unusedVariables false
set_option linter.unusedSimpArgs false
def prodTo (ls : List (List Int)) : Nat → Nat
 | 0 => 1
 | k + 1 => prodTo ls k * (getl ls k).length
theorem prodTo_le {ls : List (List Int)} (h : ∀ k, k < ls.length → (getl ls k).length ≤ 10) : ∀ k, k ≤ ls.length → prodTo ls k ≤ 10 ^ k
 | 0, _ => Nat.le_refl _
 | k + 1, hk => by
   unfold prodTo
   rw [Nat.pow_succ]
   exact Nat.mul_le_mul (prodTo_le h k (by omega)) (h k (by omega))
theorem prodTo_small {ls : List (List Int)} (h : ∀ k, k < ls.length → (getl ls k).length ≤ 10) (hl : ls.length ≤ 6) {k : Nat} (hk : k ≤ ls.length) : prodTo ls k ≤ 1000000 :=
 Nat.le_trans (prodTo_le h k hk) (Nat.le_trans (Nat.pow_le_pow_right (by decide) (by omega : k ≤ 6)) (by decide))
theorem reasRows_small {t cuts : List (List Int)} {key door n : Nat} (hc : cuts.length ≤ 10) : ∀ k, k < (reasRows t cuts key door n).length → (getl (reasRows t cuts key door n) k).length ≤ 10 := fun k hk => by
 rw [reasRows_len] at hk
 rw [reasRows_get hk]
 exact Nat.le_trans (reasRow_len _ _ _ _ _ _) hc
def cntReasAns (m : Mk) (t cuts : List (List Int)) (key door : Int) : Int × Int :=
 if reasC m t cuts key door ≠ 0 then (0, reasC m t cuts key door) else ((prodTo (reasRows t cuts key.toNat door.toNat m.c.toNat) m.c.toNat : Nat), 0)
theorem l18Number_any {S : Nat → Prop} (v : Value) (ls : List (List Int)) (W : World) (h : V2 S W v ls) (hs : ∀ k, k < ls.length → (getl ls k).length ≤ 10) (hl : ls.length ≤ 6) :
  Calls Tryz.prog 121 #[v] W fun e' w' => e' = .returned (.int .i64 (prodTo ls ls.length)) ∧ W = w' := by
 have hV := h
 obtain ⟨a, c, rfl, hmx⟩ := h.form
 have Hs := Lib.hid hs; clear hs
 go_enter Tryz.func121, Tryz.ntmps121
 go_wp2_with fail
 go_loop [3, 4] (fun s i => ∃ k : Nat, k ≤ ls.length ∧ i = .int .i64 (k : Int) ∧ s = .int .i64 (prodTo ls k : Int)) (fun _ i => ls.length - (intOf i).toNat)
 case atStart => exact ⟨0, Nat.zero_le _, rfl, rfl⟩
 case round =>
  obtain ⟨k, hk, rfl, rfl⟩ := hrel
  by_cases hkk : k < ls.length
  ·obtain ⟨b1, off1, a1, c1, rfl, _, hc1, hr1⟩ := hV.cell hkk
   have hp1 := prodTo_small Hs.out hl (show k + 1 ≤ ls.length by omega)
   have hst : ((prodTo ls k : Nat) : Int) * ((getl ls k).length : Int) = ((prodTo ls (k + 1) : Nat) : Int) := by rw [prodTo]; push_cast; rfl
   have hw : wrap64 (((prodTo ls k : Nat) : Int) * ((getl ls k).length : Int)) = ((prodTo ls (k + 1) : Nat) : Int) := by rw [hst]; exact IntWalk.wrap64_in _ ⟨by omega, by omega⟩
   have Hw := Lib.hid hw; clear hw hst
   go_wp2_with fail
   go_round
   case rel => exact ⟨k + 1, by omega, by go_num, by rw [Hw.out]⟩
   case measure => simp [intOf]; omega
  ·obtain rfl : k = ls.length := by omega
   go_wp2_with fail
   go_ret
   exact ⟨rfl, rfl⟩
set_option maxRecDepth 100000 in
theorem CountReasons_any {S S' : Nat → Prop} (m : Mk) (u v : Value) (t cuts : List (List Int)) (key door : Int) (W : World) (h : V2 S W u t) (hc : V2 S' W v cuts) :
  Calls Tryz.prog 25 #[.agg #[.int .i64 m.c, .int .i64 m.d, .int .i64 m.s, .int .i64 m.e, .int .i64 m.l, u], v, .int .i64 key, .int .i64 door] W fun e' w' => e' = .returned (.tuple #[.int .i64 (cntReasAns m t cuts key door).1, .int .i64 (cntReasAns m t cuts key door).2]) ∧ Below W.heap.size W w' := by
 obtain ⟨a, c, rfl, hmx⟩ := h.form
 obtain ⟨a', c', rfl, hmx'⟩ := hc.form
 obtain ⟨W1, hW1, hB01, hz01, HZ01, hc01, hh01⟩ := box_facts W #[.int .i64 m.c, .int .i64 m.d, .int .i64 m.s, .int .i64 m.e, .int .i64 m.l, .slice a t.length c] 28
 have hV1 : V2 (fun _ => True) W1 (.slice a t.length c) t := (h.below hB01).mono (fun _ _ _ => trivial) (fun _ _ _ => rfl)
 have hC1 : V2 (fun _ => True) W1 (.slice a' cuts.length c') cuts := (hc.below hB01).mono (fun _ _ _ => trivial) (fun _ _ _ => rfl)
 have hpart := reasonCode_any m _ _ t cuts key door W1 hV1 hC1
 by_cases hp : reasC m t cuts key door = 0
 ·rw [hp] at hpart
  have hfin : cntReasAns m t cuts key door = (((prodTo (reasRows t cuts key.toNat door.toNat m.c.toNat) m.c.toNat : Nat) : Int), 0) := by unfold cntReasAns; rw [if_neg (by rw [hp]; decide)]
  rw [hfin]
  obtain ⟨hpc, k, d, rfl, rfl, hk, hd, _⟩ := reasC_ok hp
  have hf := fits_of hpc
  have hmk := Mk.ok_iff.1 hf.ok
  simp only [Int.toNat_natCast]
  obtain ⟨n, hn, hn6, hn0⟩ : ∃ n : Nat, m.c.toNat = n ∧ n ≤ 6 ∧ (n : Int) = m.c := ⟨_, rfl, by omega, by omega⟩
  rw [hn]
  have hsm := reasRows_small (t := t) (key := k) (door := d) (n := n) (show cuts.length ≤ 10 by have := hf.few; have := hf.rows; omega)
  have hlen := reasRows_len t cuts k d n
  have Hn := Lib.hid (And.intro hn hn0); clear hn hn0 hfin hp hpc hmk
  have Hf := Lib.hid hf; clear hf
  generalize hR : reasRows t cuts k d n = R at *
  have HR := Lib.hid hR; clear hR
  have Hsm := Lib.hid hsm; clear hsm
  have Hlen := Lib.hid hlen
  have hlR : R.length ≤ 6 := by omega
  have hlR2 : R.length ≤ n := by omega
  have hlR3 : n ≤ R.length := by omega
  clear hlen
  go_enter Tryz.func25, Tryz.ntmps25
  go_wp2_with fail
  rw [← hW1]
  refine hpart.mono ?_
  rintro e' w2 ⟨rfl, hb2⟩
  have hx2 : ∀ o, w2.cell? ⟨W.heap.size, o, none⟩ = (#[.int .i64 m.c, .int .i64 m.d, .int .i64 m.s, .int .i64 m.e, .int .i64 m.l, .slice a t.length c] : Array Value)[o]? := fun o => by rw [(bcell hb2).1 _ _ hz01, hc01]
  clear hc01 hh01
  have HW1 := Lib.hid hW1; clear hW1
  go_wp2_with fail
  refine (reasonRows_any m _ _ t cuts k d n _ Hf.out hk hd Hn.out.2 (hV1.below hb2) (hC1.below hb2)).mono ?_
  rintro e' w3 ⟨v3, rfl, hF, hb3⟩
  rw [HR.out] at hF
  obtain ⟨a3, c3, rfl, hl3⟩ := hF.v2.form
  clear hx2
  go_wp2_with fail
  go_loop [11, 13, 28] (fun s _ i => ∃ j : Nat, j ≤ R.length ∧ i = .int .i64 (j : Int) ∧ s = .int .i64 (prodTo R j : Int)) (fun _ _ i => R.length - (intOf i).toNat)
  case atStart => exact ⟨0, Nat.zero_le _, rfl, rfl⟩
  case round =>
   obtain ⟨j, hj, rfl, rfl⟩ := hrel
   by_cases hjj : j < R.length
   ·obtain ⟨b1, off1, a1, c1, rfl, _, hc1, hr1⟩ := hF.v2.cell hjj
    have hp1 := prodTo_small Hsm.out hlR (show j + 1 ≤ R.length by omega)
    have hst : ((prodTo R j : Nat) : Int) * ((getl R j).length : Int) = ((prodTo R (j + 1) : Nat) : Int) := by rw [prodTo]; push_cast; rfl
    have hw : wrap64 (((prodTo R j : Nat) : Int) * ((getl R j).length : Int)) = ((prodTo R (j + 1) : Nat) : Int) := by rw [hst]; exact IntWalk.wrap64_in _ ⟨by omega, by omega⟩
    have Hw := Lib.hid hw; clear hw hst
    go_wp2_with fail
    go_round
    case rel => exact ⟨j + 1, by omega, by go_num, by rw [Hw.out]⟩
    case measure => simp [intOf]; omega
   ·have hjn : j = n := by omega
    have Hjn := Lib.hid hjn; clear hjn
    go_wp2_with fail
    go_ret2
    exact ⟨by rw [Hjn.out]; rfl, hB01.trans ((hb2.trans (hb3.mono hb2.size)).mono (by omega))⟩
 ·have hfin : cntReasAns m t cuts key door = (0, reasC m t cuts key door) := by unfold cntReasAns; rw [if_pos hp]
  have e1 : (reasC m t cuts key door != 0) = true := by simp [hp]
  rw [hfin]
  have Hp := Lib.hid hp; clear hp hfin
  generalize reasC m t cuts key door = pc at *
  go_enter Tryz.func25, Tryz.ntmps25
  go_wp2_with fail
  rw [← hW1]
  refine hpart.mono ?_
  rintro e' w2 ⟨rfl, hb2⟩
  clear hc01 hh01
  go_wp2_with fail
  go_ret2
  exact ⟨rfl, hB01.trans (hb2.mono (by omega))⟩
set_option maxRecDepth 100000 in
theorem CountReasonsR_any {S S' : Nat → Prop} (m : Mk) (u v : Value) (t cuts : List (List Int)) (key door : Int) (W : World) (h : V2 S W u t) (hc : V2 S' W v cuts) :
  Calls Tryz.prog 26 #[.agg #[.int .i64 m.c, .int .i64 m.d, .int .i64 m.s, .int .i64 m.e, .int .i64 m.l, u], v, .int .i64 key, .int .i64 door] W fun e' w' => e' = .returned (.tuple #[.int .i64 (cntReasAns m t cuts key door).1, .int .i64 (cntReasAns m t cuts key door).2]) ∧ Below W.heap.size W w' := by
 obtain ⟨a, c, rfl, hmx⟩ := h.form
 obtain ⟨a', c', rfl, hmx'⟩ := hc.form
 obtain ⟨W1, hW1, hB01, hz01, HZ01, hc01, hh01⟩ := box_facts W #[.int .i64 m.c, .int .i64 m.d, .int .i64 m.s, .int .i64 m.e, .int .i64 m.l, .slice a t.length c] 28
 have hV1 : V2 (fun _ => True) W1 (.slice a t.length c) t := (h.below hB01).mono (fun _ _ _ => trivial) (fun _ _ _ => rfl)
 have hC1 : V2 (fun _ => True) W1 (.slice a' cuts.length c') cuts := (hc.below hB01).mono (fun _ _ _ => trivial) (fun _ _ _ => rfl)
 have hpart := l18Code_any m _ _ t cuts key door W1 hV1 hC1
 by_cases hp : reasC m t cuts key door = 0
 ·rw [hp] at hpart
  have hfin : cntReasAns m t cuts key door = (((prodTo (reasRows t cuts key.toNat door.toNat m.c.toNat) m.c.toNat : Nat) : Int), 0) := by unfold cntReasAns; rw [if_neg (by rw [hp]; decide)]
  rw [hfin]
  obtain ⟨hpc, k, d, rfl, rfl, hk, hd, _⟩ := reasC_ok hp
  have hf := fits_of hpc
  have hmk := Mk.ok_iff.1 hf.ok
  simp only [Int.toNat_natCast]
  obtain ⟨n, hn, hn6, hn0⟩ : ∃ n : Nat, m.c.toNat = n ∧ n ≤ 6 ∧ (n : Int) = m.c := ⟨_, rfl, by omega, by omega⟩
  rw [hn]
  have hsm := reasRows_small (t := t) (key := k) (door := d) (n := n) (show cuts.length ≤ 10 by have := hf.few; have := hf.rows; omega)
  have hlen := reasRows_len t cuts k d n
  have Hn := Lib.hid (And.intro hn hn0); clear hn hn0 hfin hp hpc hmk
  have Hf := Lib.hid hf; clear hf
  have Hsm := Lib.hid hsm; clear hsm
  have Hlen := Lib.hid hlen; clear hlen
  go_enter Tryz.func26, Tryz.ntmps26
  go_wp2_with fail
  rw [← hW1]
  refine hpart.mono ?_
  rintro e' w2 ⟨rfl, hb2⟩
  have hx2 : ∀ o, w2.cell? ⟨W.heap.size, o, none⟩ = (#[.int .i64 m.c, .int .i64 m.d, .int .i64 m.s, .int .i64 m.e, .int .i64 m.l, .slice a t.length c] : Array Value)[o]? := fun o => by rw [(bcell hb2).1 _ _ hz01, hc01]
  clear hc01 hh01
  have HW1 := Lib.hid hW1; clear hW1
  go_wp2_with fail
  refine (l18Rows_any m _ _ t cuts k d n _ Hf.out hk hd Hn.out.2 (hV1.below hb2) (hC1.below hb2)).mono ?_
  rintro e' w3 ⟨v3, rfl, hF, hb3⟩
  clear hx2
  go_wp2_with fail
  refine (l18Number_any _ _ _ hF.v2 Hsm.out (by rw [Hlen.out]; exact hn6)).mono ?_
  rintro e' w4 ⟨rfl, rfl⟩
  rw [Hlen.out]
  go_wp2_with fail
  go_ret2
  exact ⟨rfl, hB01.trans ((hb2.trans (hb3.mono hb2.size)).mono (by omega))⟩
 ·have hfin : cntReasAns m t cuts key door = (0, reasC m t cuts key door) := by unfold cntReasAns; rw [if_pos hp]
  have e1 : (reasC m t cuts key door != 0) = true := by simp [hp]
  rw [hfin]
  have Hp := Lib.hid hp; clear hp hfin
  generalize reasC m t cuts key door = pc at *
  go_enter Tryz.func26, Tryz.ntmps26
  go_wp2_with fail
  rw [← hW1]
  refine hpart.mono ?_
  rintro e' w2 ⟨rfl, hb2⟩
  clear hc01 hh01
  go_wp2_with fail
  go_ret2
  exact ⟨rfl, hB01.trans (hb2.mono (by omega))⟩
/-- Cuts, one more. -/
structure PartOk (m : Mk) (t cuts : List (List Int)) : Prop where
 sys : isSys m t = true
 few : cuts.length ≤ t.length
 keys : allKeys m cuts = true
theorem PartOk.c {m : Mk} {t cuts : List (List Int)} (h : PartOk m t cuts) : partC m t cuts = 0 := partC_ok.2 ⟨h.sys, h.few, h.keys⟩
theorem PartOk.fits {m : Mk} {t cuts : List (List Int)} (h : PartOk m t cuts) : Fits m t cuts := fits_of h.c
theorem PartOk.more {m : Mk} {t cuts : List (List Int)} (h : PartOk m t cuts) (hl : cuts.length < t.length) {key : List Int} (hk : isKeyB m key = true) : PartOk m t (cuts ++ [key]) := by
 refine ⟨h.sys, by simp; omega, allKeys_iff.2 fun k hkl => ?_⟩
 by_cases e : k < cuts.length
 ·rw [getl_append1 e]; exact allKeys_iff.1 h.keys k e
 ·have e2 : k = cuts.length := by simp at hkl; omega
  subst e2
  rw [getl_last]; exact hk
theorem PartOk.nil {m : Mk} {t : List (List Int)} (h : isSys m t = true) : PartOk m t [] := ⟨h, Nat.zero_le _, allKeys_iff.2 fun k hk => by simp at hk⟩
theorem own_V2S {S : Nat → Prop} {w : World} {B : Nat} {e : TypeId} {v : Value} {n : Nat} {vs : List Value} {ls : List (List Int)} (h : w.ownsRow B e 1 v n vs) (hr : RowVs S w vs ls) : V2 (fun b => S b ∨ B ≤ b) w v ls := by
 obtain ⟨hl, h⟩ := h
 have hn : n = ls.length := by have := hr.1; omega
 subst hn
 rcases h with ⟨rfl, h0⟩ | ⟨g, cap, cur, rfl, hb, hh, hc, hm, hs, ht⟩
 ·exact ⟨none, 0, by rw [h0], by omega, Nat.zero_le _, fun k hk => by omega⟩
 ·refine ⟨_, _, rfl, hc, hm, fun k hk => ?_⟩
  obtain ⟨ev, h1, h2⟩ := hr.2 k hk
  refine ⟨g, 0, ev, rfl, .inr hb, ?_, h2.mono (fun b hb _ => .inl hb) (fun _ _ _ => rfl)⟩
  have h3 : (cur.toList.take (ls.length * 1))[k]? = vs[k]? := by rw [ht]
  rw [List.getElem?_take, if_pos (by omega), h1] at h3
  rw [cell_of_block hh, Nat.zero_add, ← Array.getElem?_toList, h3]
abbrev DSt := GSt (List (List (List Int)))
/-- A design of the search: cuts for all rows. -/
structure DesOk (m : Mk) (t ds : List (List Int)) : Prop where
 part : PartOk m t ds
 full : ds.length ≤ t.length
theorem DesOk.few {m : Mk} {t ds : List (List Int)} (h : DesOk m t ds) : ds.length ≤ 10 ∧ ∀ k, k < ds.length → (getl ds k).length ≤ 6 ∧ getl ds k ≠ [] := by
 have hf := h.part.fits
 have hr := hf.rows
 have hm := Mk.ok_iff.1 hf.ok
 refine ⟨by have := h.full; omega, fun k hk => ?_⟩
 have := hf.lens k hk
 exact ⟨by omega, fun e => by rw [e] at this; simp at this; omega⟩
set_option maxRecDepth 100000 in
theorem l16Open_b {S S' : Nat → Prop} (m : Mk) (u v : Value) (t cuts : List (List Int)) (n : Nat) (W : World) (r : Bool) (hr : openP n t cuts = r) (hf : Fits m t cuts) (hn : (n : Int) = m.c) (h : V2 S W u t) (hc : V2 S' W v cuts) :
  Calls Tryz.prog 104 #[.agg #[.int .i64 m.c, .int .i64 m.d, .int .i64 m.s, .int .i64 m.e, .int .i64 m.l, u], v] W fun e' w' => e' = .returned (.bool r) ∧ Below W.heap.size W w' := by
 subst hr
 obtain ⟨a, c, rfl, hmx⟩ := h.form
 obtain ⟨a', c', rfl, hmx'⟩ := hc.form
 obtain ⟨W1, hW1, hB01, hz01, HZ01, hc01, hh01⟩ := box_facts W #[.int .i64 m.c, .int .i64 m.d, .int .i64 m.s, .int .i64 m.e, .int .i64 m.l, .slice a t.length c] 28
 have hfa := l15False_any m _ _ t cuts n W1 hf hn (h.below hB01) (hc.below hB01)
 unfold openP
 obtain ⟨L, hL⟩ : ∃ L, falseL n t cuts = L := ⟨_, rfl⟩
 rw [hL] at hfa ⊢
 have H := Lib.hid (And.intro hfa (And.intro hL hf)); clear hfa hL hf
 go_enter Tryz.func104, Tryz.ntmps104
 go_wp2_with fail
 rw [← hW1]
 refine H.out.1.mono ?_
 rintro e' w2 ⟨v2, rfl, hF, hb2⟩
 obtain ⟨la, lc, rfl, hlm⟩ := hF.v2.form
 clear hc01 hh01 hF
 go_wp2_with fail
 go_ret
 exact ⟨ret_bool (by rw [Bool.eq_iff_iff, beq_iff_eq, decide_eq_true_iff]; omega), hB01.trans (hb2.mono (by omega))⟩
/-- What the function that staysOpen returns stands on. -/
def StayAt (S : Nat → Prop) (m : Mk) (t cuts : List (List Int)) (locks : List (List (List Int))) (LB RB CB SB : Nat) (w : World) : Prop :=
 ∃ lv rv cv tv, w.cell? ⟨LB, 0, none⟩ = some lv ∧ w.cell? ⟨RB, 0, none⟩ = some rv ∧ w.cell? ⟨CB, 0, none⟩ = some cv ∧ (∀ o, w.cell? ⟨SB, o, none⟩ = (#[.int .i64 m.c, .int .i64 m.d, .int .i64 m.s, .int .i64 m.e, .int .i64 m.l, tv] : Array Value)[o]?) ∧ SB < w.heap.size ∧
   S LB ∧ S RB ∧ S CB ∧ S SB ∧ V3 S w lv locks ∧ V1 S w rv (getl t cuts.length) ∧ V2 S w cv cuts ∧ V2 S w tv t
theorem StayAt.keep {S : Nat → Prop} {m : Mk} {t cuts : List (List Int)} {locks : List (List (List Int))} {LB RB CB SB : Nat} {w w' : World} (h : StayAt S m t cuts locks LB RB CB SB w) (hz : w.heap.size ≤ w'.heap.size) (hk : Keep S w w') : StayAt S m t cuts locks LB RB CB SB w' := by
 obtain ⟨lv, rv, cv, tv, h1, h2, h3, h4, h5, s1, s2, s3, s4, h6, h7, h8, h9⟩ := h
 refine ⟨lv, rv, cv, tv, cell_keep h1 (hk _ s1 (lt_of_cell h1)), cell_keep h2 (hk _ s2 (lt_of_cell h2)), cell_keep h3 (hk _ s3 (lt_of_cell h3)), fun o => ?_, by omega, s1, s2, s3, s4, h6.mono (fun _ h _ => h) hk, h7.mono (fun _ h _ => h) hk, h8.mono (fun _ h _ => h) hk, h9.mono (fun _ h _ => h) hk⟩
 rw [← h4]
 exact World.cell?_of_block (w := w) (a := ⟨SB, o, none⟩) (hk _ s4 h5)
def goCells (m : Mk) (tv : Value) (limit tries : Nat) (br : Bool) (fv : Value) : Array Value := #[.int .i64 m.c, .int .i64 m.d, .int .i64 m.s, .int .i64 m.e, .int .i64 m.l, tv, .int .i64 (limit : Int), .int .i64 (tries : Int), .bool br, fv]
/-- What is done with each design. -/
structure VisG {τ : Type} (act : τ → Prop) (P : List (List Int) → Prop) (f : FuncId) (caps : Array Value) (vis : τ → List (List Int) → τ × Bool) (VI : τ → (Nat → Prop) → World → Prop) : Prop where
 enters : Enters f
 keep : ∀ s F w w', VI s F w → w.heap.size ≤ w'.heap.size → (∀ b, F b → w'.heap[b]? = w.heap[b]?) → VI s F w'
 lt : ∀ s F w, VI s F w → ∀ b, F b → b < w.heap.size
 still : ∀ s design, act s → (vis s design).2 = true → act (vis s design).1
 call : ∀ (s : τ) (F S : Nat → Prop) (w : World) (v : Value) (design : List (List Int)), VI s F w → V2 S w v design → (∀ b, S b → ¬ F b) → P design → act s →
  Calls Tryz.prog f (#[v] ++ caps) w fun e w' => ∃ F', e = .returned (.bool (vis s design).2) ∧ VI (vis s design).1 F' w' ∧ Chg F w w' ∧ ∀ b, F' b → F b ∨ w.heap.size ≤ b
def GF (XB : Nat) (F : Nat → Prop) (b : Nat) : Prop := b = XB ∨ F b
structure Gs {τ : Type} (m : Mk) (tv : Value) (limit : Nat) (fv : Value) (XB : Nat) (VI : τ → (Nat → Prop) → World → Prop) (s : GSt τ) (F : Nat → Prop) (w : World) : Prop where
 hh : w.heap[XB]? = some (.cells (goCells m tv limit s.1 s.2.1 fv) 103 (0, 0))
 vi : VI s.2.2 F w
 ne : ¬ F XB
 lt : ∀ b, F b → b < w.heap.size
 le : s.1 ≤ limit ∧ limit ≤ 4000
section
variable {τ : Type} {act : τ → Prop} {m : Mk} {tv fv : Value} {limit XB : Nat} {VI : τ → (Nat → Prop) → World → Prop} {s : GSt τ} {F : Nat → Prop} {w w' : World} {P : List (List Int) → Prop} {f : FuncId} {caps : Array Value} {vis : τ → List (List Int) → τ × Bool}
theorem Gs.keep (V : VisG act P f caps vis VI) (h : Gs m tv limit fv XB VI s F w) (hz : w.heap.size ≤ w'.heap.size) (hk : ∀ b, GF XB F b → w'.heap[b]? = w.heap[b]?) : Gs m tv limit fv XB VI s F w' :=
 ⟨by rw [hk XB (.inl rfl)]; exact h.hh, V.keep _ _ _ _ h.vi hz (fun b hb => hk b (.inr hb)), h.ne, fun b hb => Nat.lt_of_lt_of_le (h.lt b hb) hz, h.le⟩
theorem Gs.glt (h : Gs m tv limit fv XB VI s F w) {b : Nat} (hb : GF XB F b) : b < w.heap.size := by
 rcases hb with rfl | hb
 ·exact lt_of_heap h.hh
 ·exact h.lt b hb
theorem Gs.below (V : VisG act P f caps vis VI) (h : Gs m tv limit fv XB VI s F w) (hb : Below w.heap.size w w') : Gs m tv limit fv XB VI s F w' := h.keep V hb.size fun b hf => hb.block b (h.glt hf)
theorem Gs.cell (h : Gs m tv limit fv XB VI s F w) (o : Nat) : w.cell? ⟨XB, o, none⟩ = (goCells m tv limit s.1 s.2.1 fv)[o]? := by rw [cell_of_block h.hh]
end
/-- Design ls lies in blocks from lo on and below hi. -/
def In2 (lo hi : Nat) (w : World) (v : Value) (ls : List (List Int)) : Prop :=
 ∃ ob bk, X2 w v ls ob bk ∧ (ls ≠ [] → lo ≤ ob ∧ ob < hi) ∧ ∀ k, k < ls.length → getl ls k ≠ [] → lo ≤ bk k ∧ bk k < hi
theorem In2.of_F2 {lo : Nat} {w : World} {v : Value} {ls : List (List Int)} (h : F2 lo w v ls) : In2 lo w.heap.size w v ls := by
 obtain ⟨ob, bk, h1, h2, h3⟩ := h
 refine ⟨ob, bk, h1, fun hn => ⟨h2 hn, (h1.lt hn).1⟩, fun k hk hn => ⟨h3 k hk hn, (h1.lt ?_).2 k hk hn⟩⟩
 intro e; subst e; simp at hk
theorem In2.keep {lo hi : Nat} {w w' : World} {v : Value} {ls : List (List Int)} (h : In2 lo hi w v ls) (hk : ∀ b, lo ≤ b → b < hi → w'.heap[b]? = w.heap[b]?) : In2 lo hi w' v ls := by
 obtain ⟨ob, bk, h1, h2, h3⟩ := h
 exact ⟨ob, bk, h1.keep (fun hn => hk _ (h2 hn).1 (h2 hn).2) (fun k hlt hn => hk _ (h3 k hlt hn).1 (h3 k hlt hn).2), h2, h3⟩
theorem In2.f2 {lo hi : Nat} {w : World} {v : Value} {ls : List (List Int)} (h : In2 lo hi w v ls) : F2 lo w v ls := by
 obtain ⟨ob, bk, h1, h2, h3⟩ := h
 exact ⟨ob, bk, h1, fun hn => (h2 hn).1, fun k hk hn => (h3 k hk hn).1⟩
/-- v is a slice of the call's own (from block B on); design k lies in the blocks from L k on and below U k. -/
structure Out3 (B : Nat) (L U : Nat → Nat) (w : World) (v : Value) (vs : List Value) (ds : List (List (List Int))) : Prop where
 own : w.ownsRow B 26 1 v ds.length vs
 each : ∀ k, k < ds.length → ∃ rv, vs[k]? = some rv ∧ In2 (L k) (U k) w rv (getll ds k)
 apart : ∀ k, k < ds.length → B ≤ L k ∧ L k ≤ U k ∧ U k ≤ w.heap.size ∧ (∀ g, v.ownBlock = some g → g < L k ∨ U k ≤ g) ∧ ∀ j, j < k → U j ≤ L k
/-- The blocks in which the designs lie. -/
def T3 (L U : Nat → Nat) (v : Value) (n b : Nat) : Prop := v.ownBlock = some b ∨ ∃ k, k < n ∧ L k ≤ b ∧ b < U k
theorem Out3.keep {B : Nat} {L U : Nat → Nat} {w w' : World} {v : Value} {vs : List Value} {ds : List (List (List Int))} (h : Out3 B L U w v vs ds) (hz : w.heap.size ≤ w'.heap.size) (hk : ∀ b, T3 L U v ds.length b → w'.heap[b]? = w.heap[b]?) : Out3 B L U w' v vs ds := by
 refine ⟨⟨h.own.1, ?_⟩, fun k hlt => ?_, fun k hlt => ?_⟩
 ·rcases h.own.2 with h0 | ⟨g, cap, cur, rfl, h1, h2, h3⟩
  ·exact .inl h0
  ·exact .inr ⟨g, cap, cur, rfl, h1, by rw [hk g (.inl rfl)]; exact h2, h3⟩
 ·obtain ⟨rv, h1, h2⟩ := h.each k hlt
  exact ⟨rv, h1, h2.keep fun b hl hu => hk b (.inr ⟨k, hlt, hl, hu⟩)⟩
 ·obtain ⟨h1, h2, h3, h4⟩ := h.apart k hlt
  exact ⟨h1, h2, Nat.le_trans h3 hz, h4⟩
theorem Out3.lt {B : Nat} {L U : Nat → Nat} {w : World} {v : Value} {vs : List Value} {ds : List (List (List Int))} (h : Out3 B L U w v vs ds) {b : Nat} (hb : T3 L U v ds.length b) : B ≤ b ∧ b < w.heap.size := by
 rcases hb with hb | ⟨k, hk, hl, hu⟩
 ·exact h.own.lt b hb
 ·obtain ⟨h1, h2, h3, _⟩ := h.apart k hk
  exact ⟨by omega, by omega⟩
theorem Out3.form {B : Nat} {L U : Nat → Nat} {w : World} {v : Value} {vs : List Value} {ds : List (List (List Int))} (h : Out3 B L U w v vs ds) : ∃ a c, v = .slice a ds.length c ∧ ds.length ≤ c ∧ c ≤ maxLen := own_form h.own
theorem Out3.start (w : World) (B : Nat) (hb : B ≤ w.heap.size) : Out3 B (fun _ => 0) (fun _ => 0) (w.alloc (.cells #[] 26)) (.slice (some ⟨w.heap.size, 0, none⟩) 0 0) [] [] :=
 ⟨own_lit0 w B _ 1 hb, fun k hk => by simp at hk, fun k hk => by simp at hk⟩
theorem getll_app1 {ds : List (List (List Int))} {l : List (List Int)} {k : Nat} (h : k < ds.length) : getll (ds ++ [l]) k = getll ds k := by
 simp [getll, List.getElem?_append_left h]
theorem getll_app2 {ds : List (List (List Int))} {l : List (List Int)} : getll (ds ++ [l]) ds.length = l := by
 unfold getll; simp
/-- One design more. w: before its copy is made; w2: the copy is made; w1: it is appended. -/
theorem Out3.push {B : Nat} {L U : Nat → Nat} {w w2 w1 : World} {v v1 rv : Value} {vs : List Value} {ds : List (List (List Int))} {l : List (List Int)}
  (h : Out3 B L U w v vs ds) (hB : B ≤ w.heap.size) (hb : Below w.heap.size w w2) (hx : F2 w.heap.size w2 rv l)
  (hown : w1.ownsRow B 26 1 v1 (ds.length + 1) (vs ++ [rv])) (hg : w2.grownBy w1 v.ownBlock) (hblk : v1.ownBlock = v.ownBlock ∨ ∃ g, v1.ownBlock = some g ∧ w2.heap.size ≤ g) :
  Out3 B (fun k => if k < ds.length then L k else w.heap.size) (fun k => if k < ds.length then U k else w2.heap.size) w1 v1 (vs ++ [rv]) (ds ++ [l]) ∧
  (∀ b, T3 (fun k => if k < ds.length then L k else w.heap.size) (fun k => if k < ds.length then U k else w2.heap.size) v1 (ds ++ [l]).length b → T3 L U v ds.length b ∨ w.heap.size ≤ b) := by
 have hvl1 := h.own.1
 have hz := hb.size
 have hz1 := hg.size
 refine ⟨⟨by simpa using hown, fun k hk => ?_, fun k hk => ?_⟩, fun b hb' => ?_⟩
 ·by_cases hkl : k < ds.length
  ·obtain ⟨rv', h4, h5⟩ := h.each k hkl
   obtain ⟨a1, a2, a3, a4, a5⟩ := h.apart k hkl
   refine ⟨rv', by rw [List.getElem?_append_left (by omega)]; exact h4, ?_⟩
   rw [getll_app1 hkl]
   simp only [hkl, if_true]
   refine h5.keep fun b hl hu => ?_
   rw [hg.block b (by omega) (fun e => by have := a4 b e.symm; omega), hb.block b (by omega)]
  ·have e : k = ds.length := by simp at hk; omega
   subst e
   refine ⟨rv, by rw [List.getElem?_append_right (by omega)]; simp [show ds.length - vs.length = 0 by omega], ?_⟩
   rw [getll_app2]
   simp only [Nat.lt_irrefl, if_false]
   exact (In2.of_F2 hx).keep fun b hl hu => hg.block b hu (fun e => by have := (h.own.lt b e.symm).2; omega)
 ·by_cases hkl : k < ds.length
  ·simp only [hkl, if_true]
   obtain ⟨a1, a2, a3, a4, a5⟩ := h.apart k hkl
   refine ⟨a1, a2, by omega, fun g hgg => ?_, fun j hj => ?_⟩
   ·rcases hblk with e | ⟨g', e, hge⟩
    ·exact a4 g (e ▸ hgg)
    ·rw [hgg] at e; cases e; omega
   ·simp only [show j < ds.length by omega, if_true]; exact a5 j hj
  ·have e : k = ds.length := by simp at hk; omega
   subst e
   simp only [Nat.lt_irrefl, if_false]
   refine ⟨hB, hz, hz1, fun g hgg => ?_, fun j hj => ?_⟩
   ·rcases hblk with e | ⟨g', e, hge⟩
    ·have := (h.own.lt g (e ▸ hgg)).2; omega
    ·rw [hgg] at e; cases e; omega
   ·simp only [hj, if_true]; exact (h.apart j hj).2.2.1
 ·rcases hb' with hb' | ⟨k, hk, hl, hu⟩
  ·rcases hblk with e | ⟨g', e, hge⟩
   ·exact .inl (.inl (e ▸ hb'))
   ·rw [hb'] at e; cases e; right; omega
  ·by_cases hkl : k < ds.length
   ·simp only [hkl, if_true] at hl hu
    exact .inl (.inr ⟨k, hkl, hl, hu⟩)
   ·simp only [hkl, if_false] at hl
    exact .inr hl
def RG (RB : Nat) (fv : Value) (b : Nat) : Prop := b = RB ∨ fv.ownBlock = some b
def sgCells (m : Mk) (tv fv : Value) (limit : Nat) (most : Int) (s : DSt) : Array Value := #[.int .i64 m.c, .int .i64 m.d, .int .i64 m.s, .int .i64 m.e, .int .i64 m.l, tv, .int .i64 (limit : Int), .int .i64 most, .int .i64 (s.1 : Int), .bool s.2.1, fv]
structure Sg (m : Mk) (tv : Value) (limit : Nat) (most : Int) (RB B : Nat) (s : DSt) (fv : Value) (w : World) : Prop where
 hh : w.heap[RB]? = some (.cells (sgCells m tv fv limit most s) 109 (0, 0))
 own : ∃ vs, w.ownsRow B 26 1 fv s.2.2.length vs ∧ ∀ k, k < s.2.2.length → ∃ rv, vs[k]? = some rv ∧ V2 (fun b => ¬ RG RB fv b) w rv (getll s.2.2 k)
 ne : fv.ownBlock ≠ some RB
 le : s.1 ≤ limit ∧ limit ≤ 4000
 lo : B ≤ w.heap.size
section
variable {m : Mk} {tv fv : Value} {limit : Nat} {most : Int} {RB B : Nat} {s : DSt} {w w' : World}
theorem Sg.below (h : Sg m tv limit most RB B s fv w) (hb : Below w.heap.size w w') : Sg m tv limit most RB B s fv w' := by
 obtain ⟨vs, h1, h2⟩ := h.own
 exact ⟨heap_below h.hh hb (lt_of_heap h.hh), ⟨vs, own_keep h1 hb, fun k hk => by obtain ⟨rv, g1, g2⟩ := h2 k hk; exact ⟨rv, g1, g2.below hb⟩⟩, h.ne, h.le, Nat.le_trans h.lo hb.size⟩
theorem Sg.lt (h : Sg m tv limit most RB B s fv w) {b : Nat} (hb : RG RB fv b) : b < w.heap.size := by
 rcases hb with rfl | hb
 ·exact lt_of_heap h.hh
 ·obtain ⟨vs, h1, _⟩ := h.own; exact (h1.lt _ hb).2
theorem Sg.cell (h : Sg m tv limit most RB B s fv w) (o : Nat) : w.cell? ⟨RB, o, none⟩ = (sgCells m tv fv limit most s)[o]? := by rw [cell_of_block h.hh]
theorem Sg.form (h : Sg m tv limit most RB B s fv w) : ∃ a c, fv = .slice a s.2.2.length c ∧ s.2.2.length ≤ c ∧ c ≤ maxLen := by
 obtain ⟨vs, h1, _⟩ := h.own; exact own_form h1
/-- A number or a mark in the state's own block. -/
theorem Sg.put {s' : DSt} {o : Nat} {v : Value} (h : Sg m tv limit most RB B s fv w) (hc : (sgCells m tv fv limit most s).setIfInBounds o v = sgCells m tv fv limit most s') (hs : s'.2.2 = s.2.2) (hle : s'.1 ≤ limit) : Sg m tv limit most RB B s' fv (w.setCell ⟨RB, o, none⟩ v) ∧ Chg (RG RB fv) w (w.setCell ⟨RB, o, none⟩ v) := by
 obtain ⟨vs, h1, h2⟩ := h.own
 have hC : Chg (fun b => b = RB) w (w.setCell ⟨RB, o, none⟩ v) := (Chg.refl (fun b => b = RB) _).setCell (p := ⟨RB, o, none⟩) (.inl rfl) _
 refine ⟨⟨by rw [heap_setCell_self h.hh]; rw [hc], ⟨vs, by rw [hs]; exact own_chg h1 hC (fun g hg e => h.ne (e ▸ hg)), fun k hk => ?_⟩, h.ne, ⟨hle, h.le.2⟩, by simpa using h.lo⟩, hC.mono (fun b hb => .inl hb)⟩
 obtain ⟨rv, g1, g2⟩ := h2 k (by rw [hs] at hk; exact hk)
 rw [hs]
 exact ⟨rv, g1, g2.mono (fun _ h _ => h) (hC.keep fun b hb e => hb (.inl e))⟩
end
theorem toCome_nextG {m : Mk} {w : World} {kv : Value} {S : Nat → Prop} {L r : List (List Int)} (hc : 0 ≤ m.c) (h : (nextAns r).2 = true → V1 S w kv (nextAns r).1) (hL : keysOf m = L ++ r) : toCome m w kv (.bool (nextAns r).2) ≤ r.length := by
 cases r with
 | nil => rw [show (nextAns []).2 = false from rfl, toCome_last]; exact Nat.zero_le _
 | cons k r =>
   have h1 : V1 S w kv k := h rfl
   rw [show (nextAns (k :: r)).2 = true from rfl, toCome_more h1, keys_behind hc hL]
   exact Nat.le_refl _
theorem Fits.snoc {m : Mk} {t cuts : List (List Int)} {k : List Int} (h : Fits m t cuts) (hl : cuts.length < t.length) (hk : isKeyB m k = true) : Fits m t (cuts ++ [k]) := by
 have hkey : ∀ j, j < (cuts ++ [k]).length → isKeyB m (getl (cuts ++ [k]) j) = true := fun j hj => by
  by_cases e : j < cuts.length
  ·rw [getl_app1 e]; exact h.keys j e
  ·have e2 : j = cuts.length := by simp at hj; omega
   subst e2
   rw [getl_app2]; exact hk
 exact ⟨h.ok, h.rows, h.cols, h.doors, h.bits, by simp; omega, hkey, fun j hj => (isKey_iff.1 (hkey j hj)).1, fun j hj c hc => (isKey_iff.1 (hkey j hj)).2.1 _ (geti_mem hc)⟩
set_option maxRecDepth 100000 in
set_option maxHeartbeats 4000000 in
theorem l16Candidates_any {S S' : Nat → Prop} (m : Mk) (u v : Value) (t cuts : List (List Int)) (most : Int) (W : World) (hf : Fits m t cuts) (hlt : cuts.length < t.length) (hmo : 0 ≤ most ∧ most ≤ 100) (h : V2 S W u t) (hc : V2 S' W v cuts) (hp : cuts = [] → PV v) :
  Calls Tryz.prog 168 #[.agg #[.int .i64 m.c, .int .i64 m.d, .int .i64 m.s, .int .i64 m.e, .int .i64 m.l, u], v, .int .i64 most] W fun e w' => ∃ v' ls, e = .returned v' ∧ (OV W.heap.size w' v' ls ∧ (ls.length : Int) ≤ most ∧ ∀ k ∈ ls, isKeyB m k = true) ∧ Below W.heap.size W w' := by
 have hok' := hf.ok
 have hmk := Mk.ok_iff.1 hok'
 have hc0 : 0 ≤ m.c := by omega
 have hmc := mc_nat hok'
 obtain ⟨a, c, rfl, hmx⟩ := h.form
 obtain ⟨a', c', rfl, hmx'⟩ := hc.form
 have hkey : ∀ k, k ∈ keysOf m → isKeyB m k = true ∧ (k.length : Int) = m.c ∧ ∀ i, i < k.length → 0 ≤ geti k i ∧ geti k i ≤ 7 := fun k hk => by
  have h0 := (mem_keysOf hc0).1 hk
  have h1 := isKey_iff.1 h0
  refine ⟨h0, by omega, fun i hi => ?_⟩
  have := h1.2.1 _ (geti_mem hi)
  omega
 have hfirst := l02First_any m hok' m.c.toNat (fun _ => False) (.slice none 0 0) []
 rw [genB_nil] at hfirst
 have Hfirst := Lib.hid (And.intro hfirst hmc); clear hfirst
 have hcl : cuts.length ≤ 1000000 := by have := hf.rows; have := hf.few; omega
 obtain ⟨W1, hW1, hB01, hz01, HZ01, hc01, hh01⟩ := box_facts W #[.int .i64 m.c, .int .i64 m.d, .int .i64 m.s, .int .i64 m.e, .int .i64 m.l, .slice a t.length c] 28
 have hz1e := HZ01.out
 obtain ⟨WL, hWL⟩ : ∃ WL, WL = W1.alloc (.cells #[] 35) := ⟨_, rfl⟩
 have hbL : Below W1.heap.size W1 WL := by rw [hWL]; exact (Below.refl _ _).alloc (Nat.le_refl _) _
 have hO0 : OV (W.heap.size + 1) WL (.slice (some ⟨W.heap.size + 1, 0, none⟩) 0 0) [] := OV.nil (by
  have hown0 := own_lit0 W1 (W.heap.size + 1) 35 1 (by omega)
  rw [← hz1e] at hown0 ⊢; rw [hWL]; exact hown0)
 have hBL : Below W.heap.size W WL := hB01.trans (hbL.mono (by omega))
 have hzL : W.heap.size + 2 ≤ WL.heap.size := by rw [hWL]; simp; omega
 have hhL : WL.heap[W.heap.size]? = some (.cells #[.int .i64 m.c, .int .i64 m.d, .int .i64 m.s, .int .i64 m.e, .int .i64 m.l, .slice a t.length c] 28 (0, 0)) := (hbL.block _ hz01).trans hh01
 have HA := Lib.hid (And.intro hok' (And.intro hc0 (And.intro (fun k (hk : isKeyB m k = true) => hf.snoc hlt hk) (And.intro (h.old.below hBL) (And.intro (hc.old.below hBL) hhL)))))
 have Hkey := Lib.hid hkey
 have HO := Lib.hid (And.intro hO0 (And.intro hBL (And.intro hp hW1))); have HWL := Lib.hid hWL
 have hxL : ∀ o, WL.cell? ⟨W.heap.size, o, none⟩ = (#[.int .i64 m.c, .int .i64 m.d, .int .i64 m.s, .int .i64 m.e, .int .i64 m.l, .slice a t.length c] : Array Value)[o]? := fun o => cell_of_block hhL o
 clear hkey hf hok' hmk h hc hp hO0 hBL hhL hz1e hWL hbL hh01 hc01 hc0 hmc hW1 hB01
 go_enter Tryz.func168, Tryz.ntmps168
 go_wp2_with fail
 rw [← HO.out.2.2.2, ← HWL.out]
 refine (Hfirst.out.1 _ ⟨none, 0, rfl, Nat.le_refl _, Nat.zero_le _, fun k hk => by simp at hk⟩ (fun _ => .inl rfl) (by have := Hfirst.out.2; simp; omega) (fun k hk => by simp at hk)).mono ?_
 rintro e' wF ⟨kv, rfl, hkv, hbF⟩
 have hzF := hbF.size
 have hkv0 : (nextAns (keysOf m)).2 = true → V1 (fun b => W.heap.size + 1 ≤ b ∧ (Value.slice (some ⟨W.heap.size + 1, 0, none⟩) 0 0).ownBlock ≠ some b) wF kv (nextAns (keysOf m)).1 := fun hh => (hkv hh).mono (fun b h1 h2 => by
  rcases h1 with h1 | h1
  ·exact h1.elim
  ·exact ⟨by omega, fun e => by simp [Value.ownBlock] at e; omega⟩) (fun _ _ _ => rfl)
 have HF := Lib.hid (And.intro hkv0 (And.intro (HO.out.1.below hbF) (hbF.mono (show W.heap.size + 1 ≤ WL.heap.size by omega)))); clear hkv hkv0 hbF hxL
 go_wp2_with fail
 go_loopw [7, 8, 9] (fun ou kv okv wr => ∃ (L1 L2 out : List (List Int)), keysOf m = L1 ++ L2 ∧ okv = .bool (nextAns L2).2 ∧ ((nextAns L2).2 = true → V1 (fun b => W.heap.size + 1 ≤ b ∧ ou.ownBlock ≠ some b) wr kv (nextAns L2).1) ∧ OV (W.heap.size + 1) wr ou out ∧ ((out.length : Int) ≤ most ∧ ∀ k ∈ out, isKeyB m k = true) ∧ Below (W.heap.size + 1) WL wr) (fun _ kv okv wr => toCome m wr kv okv)
 case atStart => exact ⟨[], keysOf m, [], rfl, rfl, HF.out.1, HF.out.2.1, ⟨hmo.1, fun k hk => by cases hk⟩, HF.out.2.2⟩
 case round =>
  obtain ⟨L1, L2, out, hL, hokv, hkv, hO, ⟨hol, hoi⟩, hB⟩ := hrel
  have hzr := hB.size
  obtain ⟨oa, oc, rfl, _, _⟩ := hO.form
  cases L2 with
  | nil =>
    have hokv' : _ = Value.bool false := hokv
    subst hokv'
    have HZ := Lib.hid (And.intro (hO.base (show W.heap.size ≤ W.heap.size + 1 by omega)) (And.intro hol (And.intro hoi (HO.out.2.1.trans (hB.mono (by omega)))))); clear hO hkv hL hoi
    go_wp2_with fail
    go_ret
    exact ⟨_, out, rfl, ⟨HZ.out.1, HZ.out.2.1, HZ.out.2.2.1⟩, HZ.out.2.2.2⟩
  | cons k r =>
    have hokv' : _ = Value.bool true := hokv
    subst hokv'
    have hk1 : V1 (fun b => W.heap.size + 1 ≤ b ∧ (Value.slice oa out.length oc).ownBlock ≠ some b) wr _ k := hkv rfl
    obtain ⟨hkk, hkc, hkr⟩ := Hkey.out k (by rw [hL]; simp)
    have hbeh := keys_behind HA.out.2.1 hL
    obtain ⟨ka, kc, rfl, hkm⟩ := hk1.form
    have hL' : keysOf m = (L1 ++ [k]) ++ r := by rw [hL]; simp
    have HK := Lib.hid (And.intro hk1 (And.intro hkc (And.intro hkr (And.intro hbeh (And.intro hL' hkk))))); clear hkv hkc hkr hbeh hL' hL
    by_cases hA : (out.length : Int) < most
    ·have hAd : decide ((out.length : Int) < most) = true := decide_eq_true hA
     have htr := V2.mono (S' := fun b => b < W.heap.size) HA.out.2.2.2.1 (fun _ h _ => h) (Below.keep hB fun b hb _ => by have hb : b < W.heap.size := hb; omega)
     have hcr := V2.mono (S' := fun b => b < W.heap.size) HA.out.2.2.2.2.1 (fun _ h _ => h) (Below.keep hB fun b hb _ => by have hb : b < W.heap.size := hb; omega)
     have hhr := heap_below HA.out.2.2.2.2.2 hB (by omega)
     have hxr : ∀ o, wr.cell? ⟨W.heap.size, o, none⟩ = (#[.int .i64 m.c, .int .i64 m.d, .int .i64 m.s, .int .i64 m.e, .int .i64 m.l, .slice a t.length c] : Array Value)[o]? := fun o => cell_of_block hhr o
     obtain ⟨vs, hvs, hrv⟩ := hO
     have HR := Lib.hid (And.intro htr (And.intro hcr (And.intro hhr (And.intro hvs (And.intro hrv (And.intro hoi hB)))))); clear htr hcr hhr hvs hrv hoi hB
     have hbD : Below wr.heap.size wr wr.drew := (Below.refl _ _).drew
     have hRl : W.heap.size < wr.heap.size := by omega
     have hSk : ∀ w', Below wr.heap.size wr w' → (w'.cell? ⟨W.heap.size, 0, none⟩ = some (.int .i64 m.c) ∧ w'.cell? ⟨W.heap.size, 1, none⟩ = some (.int .i64 m.d) ∧ w'.cell? ⟨W.heap.size, 2, none⟩ = some (.int .i64 m.s) ∧ w'.cell? ⟨W.heap.size, 3, none⟩ = some (.int .i64 m.e) ∧ w'.cell? ⟨W.heap.size, 4, none⟩ = some (.int .i64 m.l) ∧ w'.cell? ⟨W.heap.size, 5, none⟩ = some (.slice a t.length c)) := fun w' hb => by
      refine ⟨?_, ?_, ?_, ?_, ?_, ?_⟩ <;> rw [(bcell hb).1 _ _ hRl, hxr] <;> rfl
     have hS0 := hSk _ hbD
     go_wp2_with fail
     refine wp_region_noPanic ?_
     refine wp_region_held_drew (S := fun w' => w'.cell? ⟨W.heap.size, 0, none⟩ = some (.int .i64 m.c) ∧ w'.cell? ⟨W.heap.size, 1, none⟩ = some (.int .i64 m.d) ∧ w'.cell? ⟨W.heap.size, 2, none⟩ = some (.int .i64 m.s) ∧ w'.cell? ⟨W.heap.size, 3, none⟩ = some (.int .i64 m.e) ∧ w'.cell? ⟨W.heap.size, 4, none⟩ = some (.int .i64 m.l) ∧ w'.cell? ⟨W.heap.size, 5, none⟩ = some (.slice a t.length c)) (by kernel_rfl) hS0 (fun hHeld => ?_)
     (refine wpAnyH_take (i := 0) (v := .agg #[.int .i64 m.c, .int .i64 m.d, .int .i64 m.s, .int .i64 m.e, .int .i64 m.l, .slice a t.length c]) rfl (by kernel_rfl) (by kernel_rfl) (by kernel_rfl) (fun _ _ _ h => h) (Or.inl ⟨by kernel_rfl, fun w hSw => by (try dsimp only at hSw); go_split_ands; go_simp⟩) (by assumption) ?_; simp only [Act.put, List.setIfInBounds_toArray, List.set_cons_zero, List.set_cons_succ])
     (refine wpAnyH_take (i := 1) (v := .slice a' cuts.length c') rfl (by kernel_rfl) (by kernel_rfl) (by kernel_rfl) (fun _ _ _ h => h) (Or.inl ⟨by kernel_rfl, fun w hSw => by (try dsimp only at hSw); go_split_ands; go_simp⟩) (by assumption) ?_; simp only [Act.put, List.setIfInBounds_toArray, List.set_cons_zero, List.set_cons_succ])
     (refine wpAnyH_take (i := 2) (v := .slice ka k.length kc) rfl (by kernel_rfl) (by kernel_rfl) (by kernel_rfl) (fun _ _ _ h => h) (Or.inl ⟨by kernel_rfl, fun w hSw => by (try dsimp only at hSw); go_split_ands; go_simp⟩) (by assumption) ?_; simp only [Act.put, List.setIfInBounds_toArray, List.set_cons_zero, List.set_cons_succ])
     refine wpAnyH_ready (rs := [3]) (by kernel_rfl) (by simp) (AllReadyH.cons rfl (fun K hK => ?_) AllReadyH.nil)
     go_simp
     go_at_call 211
     refine (l16With_any _ _ cuts k _ (HR.out.2.1.below hbD) HO.out.2.2.1 (HK.out.1.below hbD) hcl).mono ?_
     rintro e' w6 ⟨nv, nvs, rfl, hown, hrw, hb6⟩
     have hN := (own_V2S hown hrw).any
     have hb06 : Below wr.heap.size wr w6 := hbD.trans (hb6.mono (Nat.le_refl _))
     obtain ⟨na, nc, rfl, hnm⟩ := hN.form
     have hz6 := hb06.size
     have hS6 := hSk _ hb06
     obtain ⟨sb, hsb⟩ : ∃ sb, openP m.c.toNat t (cuts ++ [k]) = sb := ⟨_, rfl⟩
     have hnl : (cuts ++ [k]).length = cuts.length + 1 := by simp
     have hopn := l16Open_b m (.slice a t.length c) (.slice na (cuts ++ [k]).length nc) t (cuts ++ [k]) m.c.toNat w6 sb hsb (HA.out.2.2.1 k HK.out.2.2.2.2.2) Hfirst.out.2 (HR.out.1.below hb06) hN
     rw [hnl] at hopn
     have HN := Lib.hid (And.intro hopn hb06); clear hopn hN hb6 hown hrw hsb hb06
     rw [hnl]
     clear hnl
     dsimp only
     (refine hK.out _ _ hS6 (fun hHeld => ?_); clear hK K; (try simp only [Act.put, List.setIfInBounds_toArray, List.set_cons_zero, List.set_cons_succ]))
     refine wpAnyH_ready (rs := [4]) (by kernel_rfl) (by simp) (AllReadyH.cons rfl (fun K hK => ?_) AllReadyH.nil)
     go_simp
     go_at_call 104
     refine HN.out.1.mono ?_
     rintro e' w7 ⟨rfl, hb7⟩
     have hb07 : Below wr.heap.size wr w7 := HN.out.2.trans (hb7.mono hz6)
     have hz7 := hb07.size
     have hS7 := hSk _ hb07
     dsimp only
     (refine hK.out _ _ hS7 (fun hHeld => ?_); clear hK K; (try simp only [Act.put, List.setIfInBounds_toArray, List.set_cons_zero, List.set_cons_succ]))
     refine wpAnyH_done (by kernel_rfl) (NoPanic.normal ?_) _
     have hvs7 := own_keep HR.out.2.2.2.1 hb07
     have hrv7 := HR.out.2.2.2.2.1.below hb07
     have hk7 := HK.out.1.below hb07
     have hBW7 := HR.out.2.2.2.2.2.2.trans (hb07.mono (by omega))
     have hol9 : out.length ≤ 1000 := by omega
     have H7 := Lib.hid (And.intro hvs7 (And.intro hrv7 (And.intro hk7 hBW7))); clear hvs7 hrv7 hk7 hBW7 hb7 hb07 hS0 hS6 hS7 hSk hbD hHeld
     cases sb
     ·have hOz : OV (W.heap.size + 1) w7 (.slice oa out.length oc) out := ⟨vs, H7.out.1, H7.out.2.1⟩
      have hlen : (out.length : Int) ≤ most ∧ ∀ k ∈ out, isKeyB m k = true := ⟨hol, HR.out.2.2.2.2.2.1⟩
      have hkz : V1 (fun _ => True) w7 (.slice ka k.length kc) k := H7.out.2.2.1.any
      have hzz := (H7.out.2.2.2).size
      have hxz : ∀ o, w7.cell? ⟨W.heap.size, o, none⟩ = (#[.int .i64 m.c, .int .i64 m.d, .int .i64 m.s, .int .i64 m.e, .int .i64 m.l, .slice a t.length c] : Array Value)[o]? := fun o => cell_of_block (heap_below HA.out.2.2.2.2.2 (H7.out.2.2.2) (by omega)) o
      have HZ := Lib.hid (And.intro hOz (And.intro H7.out.2.2.2 hlen)); clear hOz hlen hxr
      go_wp2_with fail
      refine (l02Next_any m HA.out.1 _ k _ hkz HK.out.2.1 HK.out.2.2.1).mono ?_
      rintro e' wM ⟨kv', he', hkv', hbM⟩
      rw [HK.out.2.2.2.1] at he' hkv'
      subst he'
      have hkv2 : (nextAns r).2 = true → V1 (fun b => W.heap.size + 1 ≤ b ∧ ((Value.slice oa out.length oc)).ownBlock ≠ some b) wM kv' (nextAns r).1 := fun hh => (hkv' hh).mono (fun b h1 h2 => by
       rcases h1 with h1 | h1
       ·exact h1.elim
       ·refine ⟨by omega, fun e => ?_⟩
        obtain ⟨vs', g1, _⟩ := HZ.out.1
        have := (g1.lt b e).2
        omega) (fun _ _ _ => rfl)
      have HM := Lib.hid (And.intro hkv2 (And.intro (toCome_nextG HA.out.2.1 hkv2 HK.out.2.2.2.2.1) (toCome_more (m := m) HK.out.1))); clear hkv' hkv2 hxz
      obtain ⟨qb, hqb⟩ : ∃ qb, (nextAns r).2 = qb := ⟨_, rfl⟩
      rw [hqb]
      have Hqb := Lib.hid hqb; clear hqb
      go_wp2_with fail
      go_roundw
      case rel => exact ⟨L1 ++ [k], r, _, HK.out.2.2.2.2.1, by rw [Hqb.out], HM.out.1, HZ.out.1.below hbM, HZ.out.2.2, HZ.out.2.1.trans (hbM.mono (by omega))⟩
      case measure => rw [HM.out.2.2, HK.out.2.2.2.1]; have := HM.out.2.1; rw [Hqb.out] at this; omega
     ·have hvs7 := H7.out.1
      clear hxr
      go_wp2_with ((at_builtin; refine wp_app1 _ rfl _ _ 26 rfl (W.heap.size + 1) 35 (.slice none 0 0) 24 Tryz.underlying26 inf_ints rfl _ _ _ rfl hvs7 (.slice ka k.length kc) _ rfl rfl (by omega) (by omega) (by omega) ?_; intro v1 w1 hown1 hgrow1 hblk1 hB1); refine Hid.out ?_)
      refine Lib.hid ?_
      have hP := OV.push2 H7.out.1 H7.out.2.1 H7.out.2.2.1 hown1 hgrow1 hblk1
      have hk1' : V1 (fun _ => True) w1 (.slice ka k.length kc) k := H7.out.2.2.1.mono (fun _ _ _ => trivial) (fun b hb hlt => hgrow1.block b hlt (fun e => hb.2 e.symm))
      have hBw1 := H7.out.2.2.2.trans hB1
      have hlen : ((out ++ [k]).length : Int) ≤ most ∧ ∀ x ∈ out ++ [k], isKeyB m x = true := ⟨by simp; omega, fun x hx => by
       rcases List.mem_append.1 hx with h1 | h1
       ·exact HR.out.2.2.2.2.2.1 x h1
       ·rw [List.mem_singleton.1 h1]; exact HK.out.2.2.2.2.2⟩
      obtain ⟨na2, nc2, rfl, _, _⟩ := own_form hown1
      have hkz : V1 (fun _ => True) w1 (.slice ka k.length kc) k := hk1'
      have hzz := (hBw1).size
      have hxz : ∀ o, w1.cell? ⟨W.heap.size, o, none⟩ = (#[.int .i64 m.c, .int .i64 m.d, .int .i64 m.s, .int .i64 m.e, .int .i64 m.l, .slice a t.length c] : Array Value)[o]? := fun o => cell_of_block (heap_below HA.out.2.2.2.2.2 (hBw1) (by omega)) o
      have HZ := Lib.hid (And.intro hP (And.intro hBw1 hlen)); clear hP hBw1 hlen hown1 hgrow1 hblk1 hB1 hvs7 hk1'
      go_wp2_with fail
      refine (l02Next_any m HA.out.1 _ k _ hkz HK.out.2.1 HK.out.2.2.1).mono ?_
      rintro e' wM ⟨kv', he', hkv', hbM⟩
      rw [HK.out.2.2.2.1] at he' hkv'
      subst he'
      have hkv2 : (nextAns r).2 = true → V1 (fun b => W.heap.size + 1 ≤ b ∧ ((Value.slice na2 (out.length + 1) nc2)).ownBlock ≠ some b) wM kv' (nextAns r).1 := fun hh => (hkv' hh).mono (fun b h1 h2 => by
       rcases h1 with h1 | h1
       ·exact h1.elim
       ·refine ⟨by omega, fun e => ?_⟩
        obtain ⟨vs', g1, _⟩ := HZ.out.1
        have := (g1.lt b e).2
        omega) (fun _ _ _ => rfl)
      have HM := Lib.hid (And.intro hkv2 (And.intro (toCome_nextG HA.out.2.1 hkv2 HK.out.2.2.2.2.1) (toCome_more (m := m) HK.out.1))); clear hkv' hkv2 hxz
      obtain ⟨qb, hqb⟩ : ∃ qb, (nextAns r).2 = qb := ⟨_, rfl⟩
      rw [hqb]
      have Hqb := Lib.hid hqb; clear hqb
      go_wp2_with fail
      go_roundw
      case rel => exact ⟨L1 ++ [k], r, _, HK.out.2.2.2.2.1, by rw [Hqb.out], HM.out.1, HZ.out.1.below hbM, HZ.out.2.2, HZ.out.2.1.trans (hbM.mono (by omega))⟩
      case measure => rw [HM.out.2.2, HK.out.2.2.2.1]; have := HM.out.2.1; rw [Hqb.out] at this; omega
    ·have hAd : decide ((out.length : Int) < most) = false := decide_eq_false hA
     have HZ := Lib.hid (And.intro (hO.base (show W.heap.size ≤ W.heap.size + 1 by omega)) (And.intro hol (And.intro hoi (HO.out.2.1.trans (hB.mono (by omega)))))); clear hO hoi
     go_wp2_with fail
     go_ret
     exact ⟨_, rfl, ⟨out, HZ.out.1, HZ.out.2.1, HZ.out.2.2.1⟩, HZ.out.2.2.2⟩
theorem own_PV {w : World} {B : Nat} {e : TypeId} {v : Value} {n : Nat} {xs : List Value} (h : w.ownsRow B e 1 v n xs) : PV v := by
 rcases h.2 with ⟨rfl, _⟩ | ⟨g, cap, cur, rfl, _⟩
 ·exact .inl rfl
 ·exact .inr ⟨_, _, _, _, rfl⟩
end Go.Proofs.YtmaefilliggjiaaGreat
