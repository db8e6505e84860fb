/- What the program and the reference answer on keys: the fault of a key, both. No conditions. -/
import Derived.Deep.RegionHeld3
import Derived.StillTailTactics
import Derived.Laws.EntriesVeiled
import Derived.Laws.AppendOwnNone
import Derived.Deep.AppendLies
import Derived.Test.YtmaefilliggjiaaMCopy
import Derived.Test.YtmaefilliggjiaaMLib
namespace Go.Proofs.Ytmaefilliggjiaa
open Go.RowKit
set_option linter.unusedVariables false
set_option linter.unusedSimpArgs false
theorem stepBad_succ {m : Mk} {l : List Int} {k : Nat} {q : Int} (hq : absI (geti l (k + 1) - geti l k) = q) : stepBad m l (k + 1) = decide (m.s < q) := by
 unfold stepBad
 rw [Nat.add_sub_cancel, hq]; simp
theorem stepBad_zero {m : Mk} {l : List Int} : stepBad m l 0 = false := by simp [stepBad]
theorem allB_mem {l : List Int} {lo hi : Int} (h : allB l lo hi = true) {k : Nat} (hk : k < l.length) : lo ≤ geti l k ∧ geti l k ≤ hi := allB_iff.1 h _ (geti_mem hk)
set_option maxRecDepth 100000 in
theorem keyFault_any {S : Nat → Prop} (m : Mk) (v : Value) (l : List Int) (W : World) (hm : m.ok = true) (h : V1 S W v l) :
  Calls Try.prog 52 #[.agg #[.int .i64 m.c, .int .i64 m.d, .int .i64 m.s, .int .i64 m.e, .int .i64 m.l], v] W fun e' w' => e' = .returned (.int .i64 (fault m l)) ∧ Below W.heap.size W w' := by
 have hV := h
 have hmk := Mk.ok_iff.1 hm
 obtain ⟨a, c, rfl, hmx⟩ := h.form
 obtain ⟨W1, hW1, hB01, hz01, HZ01, hc01, hh01⟩ := box_facts W #[.int .i64 m.c, .int .i64 m.d, .int .i64 m.s, .int .i64 m.e, .int .i64 m.l] 30
 have hV1 := hV.below hB01
 by_cases hl : (l.length : Int) = m.c
 ·have hl' : decide ((l.length : Int) = m.c) = true := decide_eq_true hl
  have e1 : ((l.length : Int) != m.c) = false := by simp [hl]
  have e2 : ((l.length : Int) == m.c) = true := by simp [hl]
  cases hb : allB l 0 (m.d - 1)
  ·have hfin : fault m l = 2 := fault2 hl hb
   have Hf := Lib.hid hfin; clear hfin
   have Hr := Lib.hid (show (decide ((l.length : Int) = m.c) && allB l 0 (m.d - 1)) = false by rw [hl', hb]; rfl)
   have Hb := Lib.hid hb; clear hb
   have Hl := Lib.hid hl; clear hl hl' hmk
   go_enter Try.func52, Try.ntmps52
   go_wp2_with fail
   rw [← hW1]
   go_wp2_with fail
   refine (areCuts_b m _ l _ _ Hr.out hm hV1).mono ?_; rintro e' w2 ⟨rfl, hb_w2⟩; have hB2 := (Below.refl W1.heap.size W1).trans (hb_w2.mono (Below.refl W1.heap.size W1).size)
   clear hc01 hh01
   go_wp2_with fail
   go_ret
   exact ⟨ret_int Hf.out.symm, hB01.trans (hB2.mono (by omega))⟩
  ·have Hr := Lib.hid (show (decide ((l.length : Int) = m.c) && allB l 0 (m.d - 1)) = true by rw [hl', hb]; rfl)
   have hrange : ∀ k, k < l.length → 0 ≤ geti l k ∧ geti l k ≤ 7 := fun k hk => by have := allB_mem hb hk; omega
   have Hrange := Lib.hid hrange; clear hrange
   have Hb := Lib.hid hb; clear hb
   have Hl := Lib.hid hl; clear hl hl'
   have hlen : 1 ≤ l.length := by have := Hl.out; omega
   have hme : 0 ≤ m.e := by omega
   clear hmk
   go_enter Try.func52, Try.ntmps52
   go_wp2_with fail
   rw [← hW1]
   go_wp2_with fail
   refine (areCuts_b m _ l _ _ Hr.out hm hV1).mono ?_; rintro e' w2 ⟨rfl, hb_w2⟩; have hB2 := (Below.refl W1.heap.size W1).trans (hb_w2.mono (Below.refl W1.heap.size W1).size)
   have hx2 : ∀ o, (w2).cell? ⟨W.heap.size, o, none⟩ = (#[.int .i64 m.c, .int .i64 m.d, .int .i64 m.s, .int .i64 m.e, .int .i64 m.l] : Array Value)[o]? := fun o => by rw [(bcell hB2).1 _ _ hz01, hc01]
   clear hc01 hh01
   have hV2 := hV1.below hB2
   go_wp2_with fail
   go_loopw [5] (fun i wr => ∃ k n : Nat, k + 1 ≤ l.length ∧ i = .int .i64 ((k + 1 : Nat) : Int) ∧ (∀ j, j ≤ k → stepBad m l j = false) ∧ wr = w2.drewN n) (fun i _ => l.length - (intOf i).toNat)
   case atStart => exact ⟨0, 0, hlen, rfl, fun j hj => by rw [show j = 0 from by omega]; exact stepBad_zero, rfl⟩
   case round =>
    obtain ⟨k, n, hk, rfl, hpre, rfl⟩ := hrel
    have Hpre := Lib.hid hpre; clear hpre
    by_cases hkk : k + 1 < l.length
    ·obtain ⟨b1, off1, rfl, _, hc1⟩ := hV2.cell hkk
     obtain ⟨b2, off2, e3, _, hc2⟩ := hV2.cell (k := k) (by omega)
     simp only [Option.some.injEq, Addr.mk.injEq, and_true] at e3
     obtain ⟨rfl, rfl⟩ := e3
     have hr1 := Hrange.out _ hkk
     have hr2 := Hrange.out k (by omega)
     obtain ⟨q, hq⟩ : ∃ q, absI (geti l (k + 1) - geti l k) = q := ⟨_, rfl⟩
     have hst := stepBad_succ (m := m) hq
     have hw : IntKind.i64.wrap (geti l (k + 1) - geti l k) = geti l (k + 1) - geti l k := IntWalk.i64_in _ (by omega)
     have Hst := Lib.hid hst; clear hst
     have Hq := Lib.hid hq; clear hq
     by_cases hbad : m.s < q
     ·have hfin : fault m l = 3 := fault3 Hl.out Hb.out (any_range_mono hkk (by rw [Hst.out]; exact decide_eq_true hbad))
      have Hf := Lib.hid hfin; clear hfin
      go_wp2_with fail
      go_quiet ((go_at_call 55; first | exact quiet_same (absolute_b _ _ _ Hq.out (by omega)) | exact quiet_same0 (absolute_b _ _ _ Hq.out (by omega))))
      go_wp2_with fail
      go_ret
      exact ⟨ret_int Hf.out.symm, by repeat' first | refine below_drewN ?_ _ | exact hB01.trans (hB2.mono (by omega))⟩
     ·have hd : decide (m.s < q) = false := decide_eq_false hbad
      go_wp2_with fail
      go_quiet ((go_at_call 55; first | exact quiet_same (absolute_b _ _ _ Hq.out (by omega)) | exact quiet_same0 (absolute_b _ _ _ Hq.out (by omega))))
      go_wp2_with fail
      go_roundw
      case rel => exact ⟨k + 1, _, by omega, by go_num, fun j hj => by
       by_cases e : j = k + 1
       ·subst e; rw [Hst.out]; exact hd
       ·exact Hpre.out j (by omega), by first | rfl | rw [World.drewN_drewN]⟩
      case measure => simp [intOf]; omega
    ·have h3 : (List.range l.length).any (stepBad m l) = false := any_range_none fun j hj => Hpre.out j (by omega)
     have H3 := Lib.hid h3; clear h3
     rw [show ((k + 1 : Nat) : Int) = (l.length : Int) from by omega]
     go_wp2_with fail
     go_loopw [6, 38] (fun _ i wr => ∃ k n : Nat, k ≤ l.length ∧ i = .int .i64 (k : Int) ∧ (∀ j, j < k → runBad m l j = false) ∧ wr = w2.drewN n) (fun _ i _ => l.length - (intOf i).toNat)
     case atStart => exact ⟨0, _, Nat.zero_le _, rfl, fun j hj => by omega, rfl⟩
     case round =>
      obtain ⟨k2, n2, hk2, rfl, hpre2, rfl⟩ := hrel
      have Hpre2 := Lib.hid hpre2; clear hpre2
      by_cases hkk2 : k2 < l.length
      ·have htk := hV2.take (n := k2 + 1) (by omega)
       have hcap := hV2.cap
       have hlt : (l.take (k2 + 1)).length = k2 + 1 := by simp; omega
       have hru : ((runAt (l.take (k2 + 1)) ((l.take (k2 + 1)).length - 1) : Nat) : Int) = (runAt l k2 : Int) := by rw [hlt, Nat.add_sub_cancel, runAt_take (by omega)]
       have hpos : 0 < (l.take (k2 + 1)).length := by omega
       have hbadd : runBad m l k2 = decide (m.e < (runAt l k2 : Int)) := rfl
       obtain ⟨r, hr⟩ : ∃ r : Int, (runAt l k2 : Int) = r := ⟨_, rfl⟩
       rw [hr] at hru hbadd
       have Hru := Lib.hid hru; clear hru
       have Hbadd := Lib.hid hbadd; clear hbadd hr
       have Hlt := Lib.hid hlt; clear hlt
       have Hpos := Lib.hid hpos; clear hpos
       by_cases hbad : m.e < r
       ·have hfin : fault m l = 4 := fault4 Hl.out Hb.out H3.out (any_range_mono hkk2 (by rw [Hbadd.out]; exact decide_eq_true hbad))
        have Hf := Lib.hid hfin; clear hfin
        go_wp2_with fail
        go_quiet ((go_at_call 56; first | exact quiet_at (sameRun_b _ _ _ _ Hru.out (V1.drewN htk) Hpos.out) | exact quiet_at0 (sameRun_b _ _ _ _ Hru.out (V1.drewN htk) Hpos.out)))
        go_wp2_with fail
        go_ret
        exact ⟨ret_int Hf.out.symm, by repeat' first | refine below_drewN ?_ _ | exact hB01.trans (hB2.mono (by omega))⟩
       ·have hd : decide (m.e < r) = false := decide_eq_false hbad
        go_wp2_with fail
        go_quiet ((go_at_call 56; first | exact quiet_at (sameRun_b _ _ _ _ Hru.out (V1.drewN htk) Hpos.out) | exact quiet_at0 (sameRun_b _ _ _ _ Hru.out (V1.drewN htk) Hpos.out)))
        go_wp2_with fail
        go_roundw
        case rel => exact ⟨k2 + 1, _, by omega, by go_num, fun j hj => by
         by_cases e : j = k2
         ·subst e; rw [Hbadd.out]; exact hd
         ·exact Hpre2.out j (by omega), by first | rfl | rw [World.drewN_drewN]⟩
        case measure => simp [intOf]; omega
      ·have h4 : (List.range l.length).any (runBad m l) = false := any_range_none fun j hj => Hpre2.out j (by omega)
       by_cases h5 : (kinds l : Int) < m.l
       ·have hfin : fault m l = 5 := fault5 Hl.out Hb.out H3.out h4 h5
        have Hf := Lib.hid hfin; clear hfin h4
        go_wp2_with fail
        go_quiet ((go_at_call 57; first | exact quiet_same (different_any _ _ _ (V1.drewN hV2)) | exact quiet_same0 (different_any _ _ _ (V1.drewN hV2))))
        go_wp2_with fail
        go_ret
        exact ⟨ret_int Hf.out.symm, by repeat' first | refine below_drewN ?_ _ | exact hB01.trans (hB2.mono (by omega))⟩
       ·have hfin : fault m l = 0 := fault0 Hl.out Hb.out H3.out h4 h5
        have Hf := Lib.hid hfin; clear hfin h4
        have hd : decide ((kinds l : Int) < m.l) = false := decide_eq_false h5
        go_wp2_with fail
        go_quiet ((go_at_call 57; first | exact quiet_same (different_any _ _ _ (V1.drewN hV2)) | exact quiet_same0 (different_any _ _ _ (V1.drewN hV2))))
        go_wp2_with fail
        go_ret
        exact ⟨ret_int Hf.out.symm, by repeat' first | refine below_drewN ?_ _ | exact hB01.trans (hB2.mono (by omega))⟩
 ·have hfin : fault m l = 1 := fault1 hl
  have e1 : ((l.length : Int) != m.c) = true := by simp [hl]
  have Hf := Lib.hid hfin; clear hfin
  have Hl := Lib.hid hl; clear hl hmk
  go_enter Try.func52, Try.ntmps52
  go_wp2_with fail
  rw [← hW1]
  go_wp2_with fail
  go_ret
  exact ⟨ret_int Hf.out.symm, hB01⟩
theorem isKey_any {S : Nat → Prop} (m : Mk) (v : Value) (l : List Int) (W : World) (hm : m.ok = true) (h : V1 S W v l) :
  Calls Try.prog 44 #[.agg #[.int .i64 m.c, .int .i64 m.d, .int .i64 m.s, .int .i64 m.e, .int .i64 m.l], v] W fun e' w' => e' = .returned (.bool (isKeyB m l)) ∧ Below W.heap.size W w' := by
 have hV := h
 obtain ⟨a, c, rfl, hmx⟩ := h.form
 have hk : isKeyB m l = (fault m l == 0) := by unfold isKeyB; by_cases h0 : fault m l = 0 <;> simp [h0]
 have Hk := Lib.hid hk; clear hk
 obtain ⟨W1, hW1, hB01, hz01, HZ01, hc01, hh01⟩ := box_facts W #[.int .i64 m.c, .int .i64 m.d, .int .i64 m.s, .int .i64 m.e, .int .i64 m.l] 30
 go_enter Try.func44, Try.ntmps44
 go_wp2_with fail
 rw [← hW1]
 go_wp2_with fail
 refine (keyFault_any m _ l _ hm (hV.below hB01)).mono ?_; rintro e' w2 ⟨rfl, hb_w2⟩; have hB2 := (Below.refl W1.heap.size W1).trans (hb_w2.mono (Below.refl W1.heap.size W1).size)
 clear hc01 hh01
 go_wp2_with fail
 go_ret
 exact ⟨ret_bool (by rw [Hk.out]), hB01.trans (hB2.mono (by omega))⟩
theorem isKey_b {S : Nat → Prop} (m : Mk) (v : Value) (l : List Int) (W : World) (r : Bool) (hr : isKeyB m l = r) (hm : m.ok = true) (h : V1 S W v l) :
  Calls Try.prog 44 #[.agg #[.int .i64 m.c, .int .i64 m.d, .int .i64 m.s, .int .i64 m.e, .int .i64 m.l], v] W fun e' w' => e' = .returned (.bool r) ∧ Below W.heap.size W w' := by subst hr; exact isKey_any m v l W hm h
theorem l02Cuts_any {S : Nat → Prop} (m : Mk) (v : Value) (l : List Int) (W : World) (hm : m.ok = true) (h : V1 S W v l) :
  Calls Try.prog 46 #[.agg #[.int .i64 m.c, .int .i64 m.d, .int .i64 m.s, .int .i64 m.e, .int .i64 m.l], v] W fun e' w' => e' = .returned (.bool (allB l 0 (m.d - 1) && decide ((l.length : Int) = m.c))) ∧ Below W.heap.size W w' := by
 have hV := h
 obtain ⟨hd1, hd2⟩ := (Mk.ok_iff.1 hm).2.1
 clear hm
 obtain ⟨a, c, rfl, hmx⟩ := h.form
 obtain ⟨mc, md, ms, me, ml⟩ := m
 simp only at hd1 hd2
 have hw : IntKind.i64.wrap (md - 1) = md - 1 := IntWalk.i64_in _ (by omega)
 obtain ⟨W1, hW1, hB01, hz01, HZ01, hc01, hh01⟩ := box_facts W #[.int .i64 mc, .int .i64 md, .int .i64 ms, .int .i64 me, .int .i64 ml] 30
 have hV1 := hV.below hB01
 go_enter Try.func46, Try.ntmps46
 go_wp2_with fail
 rw [← hW1]
 have HW1 := Lib.hid hW1; clear hW1
 clear hh01
 go_wp2_with fail
 go_loopw [5] (fun i wr => ∃ k n : Nat, k ≤ l.length ∧ i = .int .i64 k ∧ allB l 0 (md - 1) = allB (l.drop k) 0 (md - 1) ∧ wr = W1.drewN n) (fun i _ => l.length - (intOf i).toNat)
 case atStart => exact ⟨0, 0, Nat.zero_le _, rfl, rfl, rfl⟩
 case round =>
  obtain ⟨k, n, hk, rfl, hrem, rfl⟩ := hrel
  have Hr := Lib.hid hrem; clear hrem
  by_cases hkk : k < l.length
  ·obtain ⟨b1, off1, rfl, _, hc1⟩ := hV1.cell hkk
   cases hin : inB (geti l k) 0 (md - 1)
   ·have E1 := Lib.hid hin; clear hin
    go_wp2_with fail
    go_quiet ((go_at_call 45; first | exact quiet_same (l01In_b _ _ _ _ _ E1.out) | exact quiet_same0 (l01In_b _ _ _ _ _ E1.out)))
    go_wp2_with fail
    go_ret
    exact ⟨ret_bool (by rw [Hr.out, allB_step hkk, E1.out]; rfl), by repeat' first | refine below_drewN ?_ _ | exact hB01⟩
   ·have E1 := Lib.hid hin; clear hin
    go_wp2_with fail
    go_quiet ((go_at_call 45; first | exact quiet_same (l01In_b _ _ _ _ _ E1.out) | exact quiet_same0 (l01In_b _ _ _ _ _ E1.out)))
    go_wp2_with fail
    go_roundw
    case rel => exact ⟨k + 1, _, by omega, by go_num, by rw [Hr.out, allB_step hkk, E1.out]; rfl, by first | rfl | rw [World.drewN_drewN]⟩
    case measure => simp [intOf]; omega
  ·have hd : l.drop k = [] := List.drop_of_length_le (by omega)
   have Hd := Lib.hid hd; clear hd
   by_cases hl : (l.length : Int) = mc
   ·subst hl
    go_wp2_with fail
    go_ret
    exact ⟨ret_bool (by rw [Hr.out, Hd.out]; simp [allB]), by repeat' first | refine below_drewN ?_ _ | exact hB01⟩
   ·have e1 : ((l.length : Int) == mc) = false := by simp [hl]
    have Hl := Lib.hid hl; clear hl
    go_wp2_with fail
    go_ret
    exact ⟨ret_bool (by rw [decide_eq_false Hl.out]; simp), by repeat' first | refine below_drewN ?_ _ | exact hB01⟩
theorem l02Cuts_b {S : Nat → Prop} (m : Mk) (v : Value) (l : List Int) (W : World) (r : Bool) (hr : (allB l 0 (m.d - 1) && decide ((l.length : Int) = m.c)) = r) (hm : m.ok = true) (h : V1 S W v l) :
  Calls Try.prog 46 #[.agg #[.int .i64 m.c, .int .i64 m.d, .int .i64 m.s, .int .i64 m.e, .int .i64 m.l], v] W fun e' w' => e' = .returned (.bool r) ∧ Below W.heap.size W w' := by subst hr; exact l02Cuts_any m v l W hm h
/-- What the reference's loop holds: the last run, and the longest one. -/
def lastRun (l : List Int) : Nat → Nat
 | 0 => 0
 | k + 1 => runAt l k
theorem lastRun_le (l : List Int) : ∀ k, lastRun l k ≤ k
 | 0 => Nat.le_refl _
 | k + 1 => runAt_le l k
theorem runAt_last {l : List Int} {k : Nat} (h : k = 0 ∨ geti l k = geti l (k - 1)) : runAt l k = lastRun l k + 1 := by
 cases k with
 | zero => rfl
 | succ k =>
   rcases h with h | h
   ·cases h
   ·rw [Nat.add_sub_cancel] at h
    rw [runAt, if_pos h]; rfl
theorem runAt_new {l : List Int} {k : Nat} (h0 : 0 < k) (h : geti l k ≠ geti l (k - 1)) : runAt l k = 1 := by
 cases k with
 | zero => omega
 | succ k => rw [Nat.add_sub_cancel] at h; rw [runAt, if_neg h]
set_option maxRecDepth 100000 in
theorem l02Fault_any {S : Nat → Prop} (m : Mk) (v : Value) (l : List Int) (W : World) (hm : m.ok = true) (h : V1 S W v l) :
  Calls Try.prog 38 #[.agg #[.int .i64 m.c, .int .i64 m.d, .int .i64 m.s, .int .i64 m.e, .int .i64 m.l], v] W fun e' w' => e' = .returned (.int .i64 (fault m l)) ∧ Below W.heap.size W w' := by
 have hV := h
 have hmk := Mk.ok_iff.1 hm
 obtain ⟨a, c, rfl, hmx⟩ := h.form
 obtain ⟨W1, hW1, hB01, hz01, HZ01, hc01, hh01⟩ := box_facts W #[.int .i64 m.c, .int .i64 m.d, .int .i64 m.s, .int .i64 m.e, .int .i64 m.l] 30
 have hV1 := hV.below hB01
 by_cases hl : (l.length : Int) = m.c
 ·have hl' : decide ((l.length : Int) = m.c) = true := decide_eq_true hl
  have e1 : ((l.length : Int) != m.c) = false := by simp [hl]
  have e2 : ((l.length : Int) == m.c) = true := by simp [hl]
  cases hb : allB l 0 (m.d - 1)
  ·have hfin : fault m l = 2 := fault2 hl hb
   have Hf := Lib.hid hfin; clear hfin
   have Hr := Lib.hid (show (allB l 0 (m.d - 1) && decide ((l.length : Int) = m.c)) = false by rw [hl', hb]; rfl)
   have Hb := Lib.hid hb; clear hb
   have Hl := Lib.hid hl; clear hl hl' hmk
   go_enter Try.func38, Try.ntmps38
   go_wp2_with fail
   rw [← hW1]
   go_wp2_with fail
   refine (l02Cuts_b m _ l _ _ Hr.out hm hV1).mono ?_; rintro e' w2 ⟨rfl, hb_w2⟩; have hB2 := (Below.refl W1.heap.size W1).trans (hb_w2.mono (Below.refl W1.heap.size W1).size)
   clear hc01 hh01
   go_wp2_with fail
   go_ret
   exact ⟨ret_int Hf.out.symm, hB01.trans (hB2.mono (by omega))⟩
  ·have Hr := Lib.hid (show (allB l 0 (m.d - 1) && decide ((l.length : Int) = m.c)) = true by rw [hl', hb]; rfl)
   have hrange : ∀ k, k < l.length → 0 ≤ geti l k ∧ geti l k ≤ 7 := fun k hk => by have := allB_mem hb hk; omega
   have Hrange := Lib.hid hrange; clear hrange
   have Hb := Lib.hid hb; clear hb
   have Hl := Lib.hid hl; clear hl hl'
   have hlen : 1 ≤ l.length ∧ l.length ≤ 6 := by have := Hl.out; omega
   have hme : 0 ≤ m.e := by omega
   clear hmk
   go_enter Try.func38, Try.ntmps38
   go_wp2_with fail
   rw [← hW1]
   go_wp2_with fail
   refine (l02Cuts_b m _ l _ _ Hr.out hm hV1).mono ?_; rintro e' w2 ⟨rfl, hb_w2⟩; have hB2 := (Below.refl W1.heap.size W1).trans (hb_w2.mono (Below.refl W1.heap.size W1).size)
   have hx2 : ∀ o, (w2).cell? ⟨W.heap.size, o, none⟩ = (#[.int .i64 m.c, .int .i64 m.d, .int .i64 m.s, .int .i64 m.e, .int .i64 m.l] : Array Value)[o]? := fun o => by rw [(bcell hB2).1 _ _ hz01, hc01]
   clear hc01 hh01
   have hV2 := hV1.below hB2
   go_wp2_with fail
   go_loopw [5, 6, 7] (fun ru mo i wr => ∃ k n : Nat, k ≤ l.length ∧ i = .int .i64 (k : Int) ∧ ru = .int .i64 (lastRun l k : Int) ∧ mo = .int .i64 (mostRun l k : Int) ∧ (∀ j, j < k → stepBad m l j = false) ∧ wr = w2.drewN n) (fun _ _ i _ => l.length - (intOf i).toNat)
   case atStart => exact ⟨0, 0, Nat.zero_le _, rfl, rfl, rfl, fun j hj => by omega, rfl⟩
   case round =>
    obtain ⟨k, n, hk, rfl, rfl, rfl, hpre, rfl⟩ := hrel
    have Hpre := Lib.hid hpre; clear hpre
    have hlr := lastRun_le l k
    have hmr := mostRun_le l k
    by_cases hkk : k < l.length
    ·obtain ⟨b1, off1, rfl, _, hc1⟩ := hV2.cell hkk
     have hr1 := Hrange.out _ hkk
     have hms : mostRun l (k + 1) = max (mostRun l k) (runAt l k) := rfl
     by_cases h0 : k = 0
     ·have hst : stepBad m l k = false := by rw [h0]; exact stepBad_zero
      have hru : runAt l k = lastRun l k + 1 := runAt_last (.inl h0)
      have hd : decide (0 < k) = false := by simp [h0]
      have Hst := Lib.hid hst; clear hst
      have Hru := Lib.hid hru; clear hru
      have Hms := Lib.hid hms; clear hms
      have H0 := Lib.hid h0; clear h0
      generalize hLR : lastRun l k = lr at *
      generalize hMR : mostRun l k = mr at *
      have HLR := Lib.hid hLR; clear hLR
      have HMR := Lib.hid hMR; clear hMR
      go_wp2_with fail
      go_quiet (fail)
      go_wp2_with fail
      go_quiet (fail)
      go_wp2_with fail
      all_goals
       go_roundw
       case rel => exact ⟨k + 1, _, by omega, by go_num, by rw [show lastRun l (k + 1) = runAt l k from rfl, Hru.out]; go_num, by rw [Hms.out, Hru.out]; go_num, fun j hj => by
        by_cases e : j = k
        ·subst e; exact Hst.out
        ·exact Hpre.out j (by omega), by first | rfl | simp only [World.drewN_drewN]⟩
       case measure => simp [intOf]; omega
     ·have h1 : 0 < k := by omega
      obtain ⟨b2, off2, e3, _, hc2⟩ := hV2.cell (k := k - 1) (by omega)
      simp only [Option.some.injEq, Addr.mk.injEq, and_true] at e3
      obtain ⟨rfl, rfl⟩ := e3
      have hr2 := Hrange.out (k - 1) (by omega)
      obtain ⟨q, hq⟩ : ∃ q, absI (geti l k - geti l (k - 1)) = q := ⟨_, rfl⟩
      have hst : stepBad m l k = decide (m.s < q) := by unfold stepBad; rw [hq]; simp [h1]
      have hw : IntKind.i64.wrap (geti l k - geti l (k - 1)) = geti l k - geti l (k - 1) := IntWalk.i64_in _ (by omega)
      have Hst := Lib.hid hst; clear hst
      have Hq := Lib.hid hq; clear hq
      have Hms := Lib.hid hms; clear hms
      by_cases hbad : m.s < q
      ·have hfin : fault m l = 3 := fault3 Hl.out Hb.out (any_range_mono hkk (by rw [Hst.out]; exact decide_eq_true hbad))
       have Hf := Lib.hid hfin; clear hfin
       clear h0
       go_wp2_with fail
       go_quiet ((go_at_call 47; first | exact quiet_same (l01Abs_b _ _ _ Hq.out (by omega)) | exact quiet_same0 (l01Abs_b _ _ _ Hq.out (by omega))))
       go_wp2_with fail
       go_ret
       exact ⟨ret_int Hf.out.symm, by repeat' first | refine below_drewN ?_ _ | exact hB01.trans (hB2.mono (by omega))⟩
      ·have hd : decide (m.s < q) = false := decide_eq_false hbad
       have Hbad := Lib.hid hd
       by_cases he : geti l k = geti l (k - 1)
       ·have e4 : (geti l k != geti l (k - 1)) = false := by simp [he]
        have hru : runAt l k = lastRun l k + 1 := runAt_last (.inr he)
        have Hru := Lib.hid hru; clear hru
        have He := Lib.hid he; clear he h0
        generalize hLR : lastRun l k = lr at *
        generalize hMR : mostRun l k = mr at *
        have HLR := Lib.hid hLR; clear hLR
        have HMR := Lib.hid hMR; clear hMR
        go_wp2_with fail
        go_quiet ((go_at_call 47; first | exact quiet_same (l01Abs_b _ _ _ Hq.out (by omega)) | exact quiet_same0 (l01Abs_b _ _ _ Hq.out (by omega))))
        go_wp2_with fail
        go_quiet (fail)
        go_wp2_with fail
        all_goals
         go_roundw
         case rel => exact ⟨k + 1, _, by omega, by go_num, by rw [show lastRun l (k + 1) = runAt l k from rfl, Hru.out]; go_num, by rw [Hms.out, Hru.out]; go_num, fun j hj => by
          by_cases e : j = k
          ·subst e; rw [Hst.out]; exact Hbad.out
          ·exact Hpre.out j (by omega), by first | rfl | simp only [World.drewN_drewN]⟩
         case measure => simp [intOf]; omega
       ·have e4 : (geti l k != geti l (k - 1)) = true := by simp [he]
        have hru : runAt l k = 1 := runAt_new h1 he
        have Hru := Lib.hid hru; clear hru
        have He := Lib.hid he; clear he h0
        generalize hLR : lastRun l k = lr at *
        generalize hMR : mostRun l k = mr at *
        have HLR := Lib.hid hLR; clear hLR
        have HMR := Lib.hid hMR; clear hMR
        go_wp2_with fail
        go_quiet ((go_at_call 47; first | exact quiet_same (l01Abs_b _ _ _ Hq.out (by omega)) | exact quiet_same0 (l01Abs_b _ _ _ Hq.out (by omega))))
        go_wp2_with fail
        go_quiet (fail)
        go_wp2_with fail
        all_goals
         go_roundw
         case rel => exact ⟨k + 1, _, by omega, by go_num, by rw [show lastRun l (k + 1) = runAt l k from rfl, Hru.out]; rfl, by rw [Hms.out, Hru.out]; go_num, fun j hj => by
          by_cases e : j = k
          ·subst e; rw [Hst.out]; exact Hbad.out
          ·exact Hpre.out j (by omega), by first | rfl | simp only [World.drewN_drewN]⟩
         case measure => simp [intOf]; omega
    ·obtain rfl : k = l.length := by omega
     have h3 : (List.range l.length).any (stepBad m l) = false := any_range_none fun j hj => Hpre.out j (by omega)
     have hmb := mostRun_bad (m := m) (l := l) l.length hme
     by_cases h4 : m.e < (mostRun l l.length : Int)
     ·have hfin : fault m l = 4 := fault4 Hl.out Hb.out h3 (hmb.1 h4)
      have Hf := Lib.hid hfin; clear hfin h3 hmb
      generalize hLR : lastRun l l.length = lr at *
      generalize hMR : mostRun l l.length = mr at *
      have HLR := Lib.hid hLR; clear hLR
      have HMR := Lib.hid hMR; clear hMR
      go_wp2_with fail
      go_ret
      exact ⟨ret_int Hf.out.symm, by repeat' first | refine below_drewN ?_ _ | exact hB01.trans (hB2.mono (by omega))⟩
     ·have h4' : (List.range l.length).any (runBad m l) = false := by
       rw [← Bool.not_eq_true, ← hmb]; exact h4
      have hd4 : decide (m.e < (mostRun l l.length : Int)) = false := decide_eq_false h4
      by_cases h5 : (kinds l : Int) < m.l
      ·have hfin : fault m l = 5 := fault5 Hl.out Hb.out h3 h4' h5
       have Hf := Lib.hid hfin; clear hfin h3 h4' hmb
       generalize hLR : lastRun l l.length = lr at *
       generalize hMR : mostRun l l.length = mr at *
       have HLR := Lib.hid hLR; clear hLR
       have HMR := Lib.hid hMR; clear hMR
       go_wp2_with fail
       go_quiet ((go_at_call 48; first | exact quiet_at (l02Kinds_q _ _ _ (V1.drewN hV2)) | exact quiet_at0 (l02Kinds_q _ _ _ (V1.drewN hV2))))
       go_wp2_with fail
       go_ret
       exact ⟨ret_int Hf.out.symm, by repeat' first | refine below_drewN ?_ _ | exact hB01.trans (hB2.mono (by omega))⟩
      ·have hfin : fault m l = 0 := fault0 Hl.out Hb.out h3 h4' h5
       have hd : decide ((kinds l : Int) < m.l) = false := decide_eq_false h5
       have Hf := Lib.hid hfin; clear hfin h3 h4' hmb
       generalize hLR : lastRun l l.length = lr at *
       generalize hMR : mostRun l l.length = mr at *
       have HLR := Lib.hid hLR; clear hLR
       have HMR := Lib.hid hMR; clear hMR
       go_wp2_with fail
       go_quiet ((go_at_call 48; first | exact quiet_at (l02Kinds_q _ _ _ (V1.drewN hV2)) | exact quiet_at0 (l02Kinds_q _ _ _ (V1.drewN hV2))))
       go_wp2_with fail
       go_ret
       exact ⟨ret_int Hf.out.symm, by repeat' first | refine below_drewN ?_ _ | exact hB01.trans (hB2.mono (by omega))⟩
 ·have hfin : fault m l = 1 := fault1 hl
  have e1 : ((l.length : Int) != m.c) = true := by simp [hl]
  have Hf := Lib.hid hfin; clear hfin
  have Hl := Lib.hid hl; clear hl hmk
  go_enter Try.func38, Try.ntmps38
  go_wp2_with fail
  rw [← hW1]
  go_wp2_with fail
  go_ret
  exact ⟨ret_int Hf.out.symm, hB01⟩
/-- The blocks that the visit of all keys makes for itself. -/
structure EK where
 k : Nat
 m : Nat
 v : Nat
 f : Nat
 a : Nat
 c : Nat
def EK.has (o : EK) (b : Nat) : Prop := b = o.k ∨ b = o.m ∨ b = o.v ∨ b = o.f ∨ b = o.a ∨ b = o.c
section
variable {σ : Type} {m : Mk} {w0 : World} {F0 : Nat → Prop} {Inv : σ → (Nat → Prop) → World → Prop} {o : EK} {fv av vv kv : Value} {s s' : σ} {F F' : Nat → Prop} {w w' : World} {pre : List Int}
end
section
variable {σ : Type} {m : Mk} {w0 : World} {F0 : Nat → Prop} {f : FuncId} {caps : Array Value} {step : σ → List Int → σ × Bool} {s0 : σ} {L : List (List Int)} {Inv : σ → (Nat → Prop) → World → Prop} {o : EK} {fv av : Value} {A : Nat → Int → Bool} {fr : List Int}
end
theorem own_some {w : World} {B : Nat} {e : TypeId} {v : Value} {n : Nat} {xs : List Value} (h : w.ownsRow B e 1 v n xs) (hn : 1 ≤ n) : ∃ g c, v = .slice (some ⟨g, 0, none⟩) n c ∧ n ≤ c ∧ c ≤ maxLen := by
 rcases h.2 with ⟨rfl, h0⟩ | ⟨g, cap, cur, rfl, h1, h2, h3, h4, _⟩
 ·omega
 ·exact ⟨_, _, rfl, h3, h4⟩
section
variable {σ : Type} {m : Mk} {w0 : World} {F0 : Nat → Prop} {f : FuncId} {caps : Array Value} {step : σ → List Int → σ × Bool} {s0 : σ} {L : List (List Int)} {Inv : σ → (Nat → Prop) → World → Prop} {o : EK} {fv av vv kv : Value} {A : Nat → Int → Bool} {fr : List Int} {F : Nat → Prop} {s : σ} {w w1 : World} {pre : List Int}
end
section
variable {σ : Type} {m : Mk} {w0 : World} {F0 : Nat → Prop} {f : FuncId} {caps : Array Value} {step : σ → List Int → σ × Bool} {s0 : σ} {L : List (List Int)} {Inv : σ → (Nat → Prop) → World → Prop} {o : EK} {fv av : Value} {A : Nat → Int → Bool} {fr : List Int}
end
theorem heap_alloc_at (w : World) (o : Obj) (k : Nat) : (w.alloc o).heap[k]? = if k = w.heap.size then some o else w.heap[k]? := by
 show (w.heap.push o)[k]? = _
 rw [Array.getElem?_push]
section
variable {σ : Type} {m : Mk} {w0 : World} {F0 : Nat → Prop} {f : FuncId} {caps : Array Value} {step : σ → List Int → σ × Bool} {s0 : σ} {L : List (List Int)} {Inv : σ → (Nat → Prop) → World → Prop} {o : EK} {fv av : Value} {A : Nat → Int → Bool} {fr : List Int}
end
def OwnPost (W : World) (l : List Int) (e' : Ending) (w' : World) : Prop := ∃ v', e' = .returned v' ∧ w'.ownsRow W.heap.size 2 1 v' l.length (l.map (Value.int .i64)) ∧ Below W.heap.size W w'
theorem l01Own_any {S : Nat → Prop} (v : Value) (l : List Int) (W : World) (h : V1 S W v l) (hp : l = [] → PV v) (hlen : l.length ≤ 1000000) :
  Calls Try.prog 22 #[v] W (OwnPost W l) := by
 obtain ⟨i0, hi, hz0, hz1, hz2⟩ := info_parts inf_int
 have hV := h
 obtain ⟨a, c, rfl, hm⟩ := h.form
 by_cases hn : l = []
 ·subst hn
  rcases hp rfl with e | ⟨b, off, n, c', e⟩
  ·simp only [List.length_nil, Value.slice.injEq] at e
   obtain ⟨rfl, _, rfl⟩ := e
   have hown0 := own_lit0 W W.heap.size 2 1 (Nat.le_refl _)
   go_enter Try.func22, Try.ntmps22
   go_wp2_with (at_builtin; refine wpList_append_own_none rfl _ _ 27 rfl W.heap.size 2 i0 1 Try.underlying27 hi _ _ _ rfl hown0 rfl ?_)
   go_ret
   exact ⟨_, rfl, hown0, (Below.refl _ _).alloc (Nat.le_refl _) _⟩
  ·simp only [List.length_nil, Value.slice.injEq] at e
   obtain ⟨rfl, rfl, rfl⟩ := e
   have hown0 := own_lit0 W W.heap.size 2 1 (Nat.le_refl _)
   go_enter Try.func22, Try.ntmps22
   go_wp2_with (at_builtin; refine wp_app rfl _ _ 27 rfl W.heap.size 2 (.int .i64 0) 1 8 Try.underlying27 inf_int rfl (by omega) _ _ _ rfl hown0 _ _ _ [] rfl rfl (fun j u hj => by simp at hj) (by simp) (by unfold maxLen; omega) (by omega) (by simp) ?_; intro v1 w1 hown1 hgrow1 hblk1)
   go_ret
   exact ⟨_, rfl, hown1, ((Below.refl _ _).alloc (Nat.le_refl _) _).grown hgrow1 (by simp) (fun k hk => by have := hown0.lt k hk; exact this.1)⟩
 ·obtain ⟨b, off, rfl, _, _⟩ := hV.cell (k := 0) (by cases l with | nil => exact absurd rfl hn | cons x xs => simp)
  have hown0 := own_lit0 W W.heap.size 2 1 (Nat.le_refl _)
  have hV2 := hV.below ((Below.refl W.heap.size W).alloc (Nat.le_refl _) (.cells #[] 2))
  have hnews : ∀ j u, (l.map (Value.int .i64))[j]? = some u → (W.alloc (.cells #[] 2)).cell? ((⟨b, off, none⟩ : Addr).add j) = some u := by
   intro j u hj
   have hjl : j < l.length := by
    rw [List.getElem?_map] at hj
    by_cases hjl : j < l.length
    ·exact hjl
    ·rw [List.getElem?_eq_none (by omega)] at hj; cases hj
   obtain ⟨b', off', e, _, hc⟩ := hV2.cell hjl
   simp only [Option.some.injEq, Addr.mk.injEq, and_true] at e
   obtain ⟨rfl, rfl⟩ := e
   rw [List.getElem?_map, List.getElem?_eq_getElem hjl] at hj
   have hadd : (⟨b, off, none⟩ : Addr).add j = ⟨b, off + j, none⟩ := by unfold Addr.add; split <;> simp_all
   rw [hadd, hc, ← hj, geti_eq hjl]; rfl
  have Hnews := Lib.hid hnews; clear hnews
  have Hn := Lib.hid hn; clear hn hp
  go_enter Try.func22, Try.ntmps22
  go_wp2_with (at_builtin; refine wp_app rfl _ _ 27 rfl W.heap.size 2 (.int .i64 0) 1 8 Try.underlying27 inf_int rfl (by omega) _ _ _ rfl hown0 _ _ _ (l.map (Value.int .i64)) rfl (by simp) Hnews.out (by intro u hu; simp at hu; obtain ⟨x, _, rfl⟩ := hu; rfl) (by unfold maxLen; omega) (by omega) (by simp) ?_; intro v1 w1 hown1 hgrow1 hblk1)
  go_ret
  refine ⟨_, rfl, ?_, ((Below.refl _ _).alloc (Nat.le_refl _) _).grown hgrow1 (by simp) (fun k hk => by have := hown0.lt k hk; exact this.1)⟩
  simpa using hown1
section
variable {b : Nat} {w0 w w' : World} {c0 c1 c2 c3 c4 : Value}
end
/-- The rows that open door d, among the first k. -/
def rowsF (t : List (List Int)) (d : Nat) : Nat → List Int
 | 0 => []
 | k + 1 => if geti (getl t k) d = 1 then rowsF t d k ++ [(k : Int)] else rowsF t d k
theorem rowsF_len (t : List (List Int)) (d : Nat) : ∀ k, (rowsF t d k).length ≤ k
 | 0 => Nat.le_refl _
 | k + 1 => by have := rowsF_len t d k; unfold rowsF; split <;> simp <;> omega
theorem mem_rowsF {t : List (List Int)} {d : Nat} {x : Int} : ∀ {k}, x ∈ rowsF t d k ↔ ∃ i : Nat, i < k ∧ x = i ∧ geti (getl t i) d = 1
 | 0 => by simp [rowsF]
 | k + 1 => by
   unfold rowsF
   split
   ·rename_i h
    rw [List.mem_append, mem_rowsF]
    constructor
    ·rintro (⟨i, h1, h2, h3⟩ | h1)
     ·exact ⟨i, by omega, h2, h3⟩
     ·simp at h1; exact ⟨k, by omega, h1, h⟩
    ·rintro ⟨i, h1, h2, h3⟩
     by_cases e : i = k
     ·subst e; right; simp [h2]
     ·exact .inl ⟨i, by omega, h2, h3⟩
   ·rename_i h
    rw [mem_rowsF]
    constructor
    ·rintro ⟨i, h1, h2, h3⟩; exact ⟨i, by omega, h2, h3⟩
    ·rintro ⟨i, h1, h2, h3⟩
     refine ⟨i, ?_, h2, h3⟩
     by_cases e : i = k
     ·subst e; exact absurd h3 h
     ·omega
set_option maxRecDepth 100000 in
theorem rowsFor_any {S : Nat → Prop} (m : Mk) (u : Value) (t : List (List Int)) (d : Nat) (W : World) (h : V2 S W u t) (hd : ∀ k, k < t.length → d < (getl t k).length) (hlen : t.length ≤ 1000000) :
  Calls Try.prog 41 #[.agg #[.int .i64 m.c, .int .i64 m.d, .int .i64 m.s, .int .i64 m.e, .int .i64 m.l, u], .int .i64 d] W fun e' w' => ∃ v', e' = .returned v' ∧ F1 W.heap.size w' v' (rowsF t d t.length) ∧ Below W.heap.size W w' := by
 have hV := h
 obtain ⟨a, c, rfl, hm⟩ := h.form
 have Hd := Lib.hid hd; clear hd
 obtain ⟨W1, hW1, hB01, hz01, HZ01, hc01, hh01⟩ := box_facts W #[.int .i64 m.c, .int .i64 m.d, .int .i64 m.s, .int .i64 m.e, .int .i64 m.l, .slice a t.length c] 32
 go_enter Try.func41, Try.ntmps41
 go_wp2_with fail
 rw [← hW1]
 have HW1 := Lib.hid hW1; clear hW1
 have hown0 := own_lit0 W1 W1.heap.size 2 1 (Nat.le_refl _)
 have hV1 := hV.below hB01
 go_loopw [5, 6, 7, 12] (fun o _ _ i wr => ∃ k : Nat, k ≤ t.length ∧ i = .int .i64 k ∧ wr.ownsRow W1.heap.size 2 1 o (rowsF t d k).length ((rowsF t d k).map (Value.int .i64)) ∧ Below W1.heap.size W1 wr) (fun _ _ _ i _ => t.length - (intOf i).toNat)
 case atStart => exact ⟨0, Nat.zero_le _, rfl, by rw [← HZ01.out]; simpa [rowsF] using hown0, (Below.refl _ _).alloc (Nat.le_refl _) _⟩
 case round =>
  obtain ⟨k, hk, rfl, hown, hB⟩ := hrel
  have hrl := rowsF_len t d k
  have hzW := hB.size
  by_cases hkk : k < t.length
  ·obtain ⟨b1, off1, a1, c1, rfl, _, hc1, hr1⟩ := (hV1.below hB).cell hkk
   obtain ⟨b2, off2, rfl, _, hc2⟩ := hr1.cell (Hd.out k hkk)
   have hdl : d < (getl t k).length := Hd.out k hkk
   have hll := hr1.len
   unfold maxLen at hll
   by_cases h1 : geti (getl t k) d = 1
   ·have e1 : (geti (getl t k) d == 1) = true := by simp [h1]
    have hst : rowsF t d (k + 1) = rowsF t d k ++ [(k : Int)] := by rw [rowsF, if_pos h1]
    have Hst := Lib.hid hst; clear hst
    have H1 := Lib.hid h1; clear h1
    go_wp2_with (at_builtin; refine wp_app1 _ rfl _ _ 27 rfl W1.heap.size 2 (.int .i64 0) 8 Try.underlying27 inf_int rfl _ _ _ rfl hown (.int .i64 k) _ rfl rfl (by omega) (by omega) (by omega) ?_; intro v1 w1 hown1 hgrow1 hblk1 hB1)
    go_roundw
    case rel => exact ⟨k + 1, by omega, by go_num, by rw [Hst.out, List.map_append, List.length_append]; exact hown1, hB.trans (hB1.mono (Nat.le_refl _))⟩
    case measure => simp [intOf]; omega
   ·have e1 : (geti (getl t k) d == 1) = false := by simp [h1]
    have hst : rowsF t d (k + 1) = rowsF t d k := by rw [rowsF, if_neg h1]
    have Hst := Lib.hid hst; clear hst
    have H1 := Lib.hid h1; clear h1
    go_wp2_with fail
    go_roundw
    case rel => exact ⟨k + 1, by omega, by go_num, by rw [Hst.out]; exact hown, hB⟩
    case measure => simp [intOf]; omega
  ·obtain rfl : k = t.length := by omega
   go_wp2_with fail
   go_ret
   obtain ⟨b, hx, hb⟩ := own_F1 hown
   exact ⟨_, rfl, ⟨b, hx, fun hn => by have := hb hn; omega⟩, hB01.trans (hB.mono (by omega))⟩
def doorTo (t : List (List Int)) (d : Nat) : Nat → Bool
 | 0 => false
 | k + 1 => doorTo t d k || decide (geti (getl t k) d = 1)
def doorOpen (t : List (List Int)) (d : Nat) : Bool := doorTo t d t.length
theorem doorTo_iff {t : List (List Int)} {d : Nat} : ∀ {k}, doorTo t d k = true ↔ ∃ i, i < k ∧ geti (getl t i) d = 1
 | 0 => by simp [doorTo]
 | k + 1 => by
   simp only [doorTo, Bool.or_eq_true, decide_eq_true_eq, doorTo_iff (k := k)]
   constructor
   ·rintro (⟨i, h1, h2⟩ | h)
    ·exact ⟨i, by omega, h2⟩
    ·exact ⟨k, by omega, h⟩
   ·rintro ⟨i, h1, h2⟩
    by_cases e : i = k
    ·subst e; exact .inr h2
    ·exact .inl ⟨i, by omega, h2⟩
theorem rowsF_door {t : List (List Int)} {d k : Nat} : ((rowsF t d k).length = 0) ↔ doorTo t d k = false := by
 rw [← Bool.not_eq_true, doorTo_iff]
 constructor
 ·rintro h ⟨i, h1, h2⟩
  have : (i : Int) ∈ rowsF t d k := mem_rowsF.2 ⟨i, h1, rfl, h2⟩
  rw [List.eq_nil_of_length_eq_zero h] at this
  cases this
 ·intro h
  cases hr : rowsF t d k with
  | nil => rfl
  | cons x xs =>
    obtain ⟨i, h1, _, h3⟩ := mem_rowsF.1 (by rw [hr]; exact List.mem_cons_self .. : x ∈ rowsF t d k)
    exact absurd ⟨i, h1, h3⟩ h
/-- p holds from k on, below n. -/
def upAll (p : Nat → Bool) (n k : Nat) : Bool := (List.range' k (n - k)).all p
theorem upAll_step {p : Nat → Bool} {n k : Nat} (h : k < n) : upAll p n k = (p k && upAll p n (k + 1)) := by
 unfold upAll
 rw [show n - k = (n - (k + 1)) + 1 from by omega, List.range'_succ, List.all_cons]
theorem upAll_end {p : Nat → Bool} {n : Nat} : upAll p n n = true := by unfold upAll; rw [Nat.sub_self]; rfl
theorem upAll_iff {p : Nat → Bool} {n : Nat} : upAll p n 0 = true ↔ ∀ i, i < n → p i = true := by
 unfold upAll
 rw [List.all_eq_true]
 constructor
 ·intro h i hi; exact h i (List.mem_range'_1.2 ⟨Nat.zero_le _, by omega⟩)
 ·intro h i hi; exact h i (by have := List.mem_range'_1.1 hi; omega)
/-- A system: a valid maker, a table, each column with a 1. -/
def isSys (m : Mk) (t : List (List Int)) : Bool := m.ok && (isTab t && upAll (doorOpen t) (getl t 0).length 0)
theorem isTab_iff {t : List (List Int)} : isTab t = true ↔ (1 ≤ t.length ∧ t.length ≤ 10) ∧ ∀ k, k < t.length → (getl t k).length = (getl t 0).length ∧ (1 ≤ (getl t 0).length ∧ (getl t 0).length ≤ 12) ∧ ∀ x ∈ getl t k, 0 ≤ x ∧ x ≤ 1 := by
 simp only [isTab, Bool.and_eq_true, inB_iff, List.all_eq_true, rowOk, decide_eq_true_eq, allB_iff]
 constructor
 ·rintro ⟨h1, h2⟩
  refine ⟨by omega, fun k hk => ?_⟩
  obtain ⟨⟨h3, h4⟩, h5⟩ := h2 _ (getl_mem hk)
  exact ⟨h3, by omega, h5⟩
 ·rintro ⟨h1, h2⟩
  refine ⟨by omega, fun r hr => ?_⟩
  obtain ⟨k, hk, rfl⟩ := List.getElem_of_mem hr
  have := h2 k hk
  rw [getl_eq hk] at this
  exact ⟨⟨this.1, by omega⟩, this.2.2⟩
set_option maxRecDepth 100000 in
theorem isSystem_any {S : Nat → Prop} (m : Mk) (u : Value) (t : List (List Int)) (W : World) (h : V2 S W u t) :
  Calls Try.prog 33 #[.agg #[.int .i64 m.c, .int .i64 m.d, .int .i64 m.s, .int .i64 m.e, .int .i64 m.l, u]] W fun e' w' => e' = .returned (.bool (isSys m t)) ∧ Below W.heap.size W w' := by
 have hV := h
 obtain ⟨a, c, rfl, hm⟩ := h.form
 obtain ⟨W1, hW1, hB01, hz01, HZ01, hc01, hh01⟩ := box_facts W #[.int .i64 m.c, .int .i64 m.d, .int .i64 m.s, .int .i64 m.e, .int .i64 m.l, .slice a t.length c] 32
 have hV1 := hV.below hB01
 cases hok : m.ok
 ·have hfin : isSys m t = false := by rw [isSys, hok]; rfl
  have Hf := Lib.hid hfin; clear hfin
  have Hok := Lib.hid hok; clear hok
  go_enter Try.func33, Try.ntmps33
  go_wp2_with fail
  rw [← hW1]
  refine (isMaker_any _ _ _ _ _ _).mono ?_; rintro e' w2 ⟨rfl, hb_w2⟩; have hB2 := (Below.refl W1.heap.size W1).trans (hb_w2.mono (Below.refl W1.heap.size W1).size)
  rw [show isMk m.c m.d m.s m.e m.l = false from Hok.out]
  clear hc01 hh01
  go_wp2_with fail
  go_ret
  exact ⟨ret_bool Hf.out.symm, hB01.trans (hB2.mono (by omega))⟩
 ·cases htab : isTab t
  ·have hfin : isSys m t = false := by rw [isSys, htab]; simp
   have Hf := Lib.hid hfin; clear hfin
   have Hok := Lib.hid hok; clear hok
   have Ht := Lib.hid htab; clear htab
   go_enter Try.func33, Try.ntmps33
   go_wp2_with fail
   rw [← hW1]
   refine (isMaker_any _ _ _ _ _ _).mono ?_; rintro e' w2 ⟨rfl, hb_w2⟩; have hB2 := (Below.refl W1.heap.size W1).trans (hb_w2.mono (Below.refl W1.heap.size W1).size)
   rw [show isMk m.c m.d m.s m.e m.l = true from Hok.out]
   have hx2 : ∀ o, (w2).cell? ⟨W.heap.size, o, none⟩ = (#[.int .i64 m.c, .int .i64 m.d, .int .i64 m.s, .int .i64 m.e, .int .i64 m.l, .slice a t.length c] : Array Value)[o]? := fun o => by rw [(bcell hB2).1 _ _ hz01, hc01]
   clear hc01 hh01
   go_wp2_with (go_at_call 40; refine (isTable_b _ _ _ _ Ht.out (hV1.below hB2)).mono ?_; rintro e' w' ⟨rfl, rfl⟩)
   go_ret
   exact ⟨ret_bool Hf.out.symm, hB01.trans (hB2.mono (by omega))⟩
  ·have hfin : isSys m t = upAll (doorOpen t) (getl t 0).length 0 := by rw [isSys, hok, htab]; rfl
   have htabs := isTab_iff.1 htab
   obtain ⟨htl, htr⟩ := htabs
   have ht0 := (htr 0 (by omega)).2.1
   have hcols : ∀ k, k < t.length → (getl t k).length = (getl t 0).length := fun k hk => (htr k hk).1
   have Hcols := Lib.hid hcols; clear hcols htr
   have Hf := Lib.hid hfin; clear hfin
   have Hok := Lib.hid hok; clear hok
   have Ht := Lib.hid htab; clear htab
   obtain ⟨b0, off0, a0, c0, rfl, _, hcc0, hr0⟩ := hV1.cell (k := 0) (by omega)
   simp only [Nat.add_zero] at hcc0
   go_enter Try.func33, Try.ntmps33
   go_wp2_with fail
   rw [← hW1]
   refine (isMaker_any _ _ _ _ _ _).mono ?_; rintro e' w2 ⟨rfl, hb_w2⟩; have hB2 := (Below.refl W1.heap.size W1).trans (hb_w2.mono (Below.refl W1.heap.size W1).size)
   rw [show isMk m.c m.d m.s m.e m.l = true from Hok.out]
   have hx2 : ∀ o, (w2).cell? ⟨W.heap.size, o, none⟩ = (#[.int .i64 m.c, .int .i64 m.d, .int .i64 m.s, .int .i64 m.e, .int .i64 m.l, .slice (some ⟨b0, off0, none⟩) t.length c] : Array Value)[o]? := fun o => by rw [(bcell hB2).1 _ _ hz01, hc01]
   have hcc2 : w2.cell? ⟨b0, off0, none⟩ = some (.slice a0 (getl t 0).length c0) := cell_keep hcc0 (hB2.block _ (lt_of_cell hcc0))
   have Hc01 := Lib.hid hc01; clear hc01
   have Hh01 := Lib.hid hh01; clear hh01
   have HW1 := Lib.hid hW1; clear hW1
   clear hcc0
   go_wp2_with (go_at_call 40; refine (isTable_b _ _ _ _ Ht.out (hV1.below hB2)).mono ?_; rintro e' w' ⟨rfl, rfl⟩)
   have Hx2 := Lib.hid hx2; clear hx2
   go_loopw [3, 19] (fun _ i wr => ∃ k : Nat, k ≤ (getl t 0).length ∧ i = .int .i64 k ∧ isSys m t = upAll (doorOpen t) (getl t 0).length k ∧ Below W1.heap.size W1 wr) (fun _ i _ => (getl t 0).length - (intOf i).toNat)
   case atStart => exact ⟨0, Nat.zero_le _, rfl, Hf.out, hB2⟩
   case round =>
    obtain ⟨k, hk, rfl, hrem, hB⟩ := hrel
    have Hr := Lib.hid hrem; clear hrem
    have hx : ∀ o, wr.cell? ⟨W.heap.size, o, none⟩ = (#[.int .i64 m.c, .int .i64 m.d, .int .i64 m.s, .int .i64 m.e, .int .i64 m.l, .slice (some ⟨b0, off0, none⟩) t.length c] : Array Value)[o]? := fun o => by rw [(bcell hB).1 _ _ hz01, Hc01.out]
    by_cases hkk : k < (getl t 0).length
    ·have hdd : ∀ j, j < t.length → k < (getl t j).length := fun j hj => by rw [Hcols.out j hj]; exact hkk
     have Hdd := Lib.hid hdd; clear hdd
     go_wp2_with fail
     refine (rowsFor_any m _ t k _ (hV1.below hB) Hdd.out (by omega)).mono ?_
     rintro e' w3 ⟨v3, rfl, hF, hb3⟩
     have hB3 := hB.trans (hb3.mono hB.size)
     obtain ⟨a3, c3, rfl, hl3⟩ := hF.v1.form
     cases hdo : doorOpen t k
     ·have hz : (rowsF t k t.length).length = 0 := rowsF_door.2 hdo
      have e1 : (((rowsF t k t.length).length : Int) == 0) = true := by simp [hz]
      have Hdo := Lib.hid hdo; clear hdo
      have Hz := Lib.hid hz; clear hz
      go_wp2_with fail
      go_ret
      exact ⟨ret_bool (by rw [Hr.out, upAll_step hkk, Hdo.out]; rfl), hB01.trans (hB3.mono (by omega))⟩
     ·have hz : (rowsF t k t.length).length ≠ 0 := fun e => by
       have := rowsF_door.1 e
       rw [doorOpen, this] at hdo; cases hdo
      have e1 : (((rowsF t k t.length).length : Int) == 0) = false := by simp; simpa using hz
      have Hdo := Lib.hid hdo; clear hdo
      have Hz := Lib.hid hz; clear hz
      go_wp2_with fail
      go_roundw
      case rel => exact ⟨k + 1, by omega, by go_num, by rw [Hr.out, upAll_step hkk, Hdo.out]; rfl, hB3⟩
      case measure => simp [intOf]; omega
    ·obtain rfl : k = (getl t 0).length := by omega
     go_wp2_with fail
     go_ret
     exact ⟨ret_bool (by rw [Hr.out, upAll_end]), hB01.trans (hB.mono (by omega))⟩
set_option maxRecDepth 100000 in
theorem isSystemR_any {S : Nat → Prop} (m : Mk) (u : Value) (t : List (List Int)) (W : World) (h : V2 S W u t) :
  Calls Try.prog 31 #[.agg #[.int .i64 m.c, .int .i64 m.d, .int .i64 m.s, .int .i64 m.e, .int .i64 m.l, u]] W fun e' w' => e' = .returned (.bool (isSys m t)) ∧ Below W.heap.size W w' := by
 have hV := h
 obtain ⟨a, c, rfl, hm⟩ := h.form
 obtain ⟨W1, hW1, hB01, hz01, HZ01, hc01, hh01⟩ := box_facts W #[.int .i64 m.c, .int .i64 m.d, .int .i64 m.s, .int .i64 m.e, .int .i64 m.l, .slice a t.length c] 32
 have hV1 := hV.below hB01
 cases hok : m.ok
 ·have hfin : isSys m t = false := by rw [isSys, hok]; rfl
  have Hf := Lib.hid hfin; clear hfin
  have Hok := Lib.hid hok; clear hok
  go_enter Try.func31, Try.ntmps31
  go_wp2_with fail
  rw [← hW1]
  refine (isMakerR_any _ _ _ _ _ _).mono ?_; rintro e' w2 ⟨rfl, hb_w2⟩; have hB2 := (Below.refl W1.heap.size W1).trans (hb_w2.mono (Below.refl W1.heap.size W1).size)
  rw [show isMk m.c m.d m.s m.e m.l = false from Hok.out]
  clear hc01 hh01
  go_wp2_with fail
  go_ret
  exact ⟨ret_bool Hf.out.symm, hB01.trans (hB2.mono (by omega))⟩
 ·cases htab : isTab t
  ·have hfin : isSys m t = false := by rw [isSys, htab]; simp
   have Hf := Lib.hid hfin; clear hfin
   have Hok := Lib.hid hok; clear hok
   have Ht := Lib.hid htab; clear htab
   go_enter Try.func31, Try.ntmps31
   go_wp2_with fail
   rw [← hW1]
   refine (isMakerR_any _ _ _ _ _ _).mono ?_; rintro e' w2 ⟨rfl, hb_w2⟩; have hB2 := (Below.refl W1.heap.size W1).trans (hb_w2.mono (Below.refl W1.heap.size W1).size)
   rw [show isMk m.c m.d m.s m.e m.l = true from Hok.out]
   have hx2 : ∀ o, (w2).cell? ⟨W.heap.size, o, none⟩ = (#[.int .i64 m.c, .int .i64 m.d, .int .i64 m.s, .int .i64 m.e, .int .i64 m.l, .slice a t.length c] : Array Value)[o]? := fun o => by rw [(bcell hB2).1 _ _ hz01, hc01]
   clear hc01 hh01
   go_wp2_with (go_at_call 37; refine (isTableR_b _ _ _ _ Ht.out (hV1.below hB2)).mono ?_; rintro e' w' ⟨rfl, n, rfl⟩)
   go_ret
   exact ⟨ret_bool Hf.out.symm, below_drewN (hB01.trans (hB2.mono (by omega))) _⟩
  ·have hfin : isSys m t = upAll (doorOpen t) (getl t 0).length 0 := by rw [isSys, hok, htab]; rfl
   have htabs := isTab_iff.1 htab
   obtain ⟨htl, htr⟩ := htabs
   have ht0 := (htr 0 (by omega)).2.1
   have hcols : ∀ k, k < t.length → (getl t k).length = (getl t 0).length := fun k hk => (htr k hk).1
   have Hcols := Lib.hid hcols; clear hcols htr
   have Hf := Lib.hid hfin; clear hfin
   have Hok := Lib.hid hok; clear hok
   have Ht := Lib.hid htab; clear htab
   obtain ⟨b0, off0, a0, c0, rfl, _, hcc0, hr0⟩ := hV1.cell (k := 0) (by omega)
   simp only [Nat.add_zero] at hcc0
   go_enter Try.func31, Try.ntmps31
   go_wp2_with fail
   rw [← hW1]
   refine (isMakerR_any _ _ _ _ _ _).mono ?_; rintro e' w2 ⟨rfl, hb_w2⟩; have hB2 := (Below.refl W1.heap.size W1).trans (hb_w2.mono (Below.refl W1.heap.size W1).size)
   rw [show isMk m.c m.d m.s m.e m.l = true from Hok.out]
   have hx2 : ∀ o, (w2).cell? ⟨W.heap.size, o, none⟩ = (#[.int .i64 m.c, .int .i64 m.d, .int .i64 m.s, .int .i64 m.e, .int .i64 m.l, .slice (some ⟨b0, off0, none⟩) t.length c] : Array Value)[o]? := fun o => by rw [(bcell hB2).1 _ _ hz01, hc01]
   have Hcc0 := Lib.hid hcc0; clear hcc0
   have Hc01 := Lib.hid hc01; clear hc01
   have Hh01 := Lib.hid hh01; clear hh01
   have HW1 := Lib.hid hW1; clear hW1
   go_wp2_with (go_at_call 37; refine (isTableR_b _ _ _ _ Ht.out (hV1.below hB2)).mono ?_; rintro e' w' ⟨rfl, n, rfl⟩)
   have hB2' := below_drewN hB2 n
   have Hx2 := Lib.hid hx2; clear hx2
   go_loopw [3, 4, 5] (fun i _ _ wr => ∃ k : Nat, k ≤ (getl t 0).length ∧ i = .int .i64 k ∧ isSys m t = upAll (doorOpen t) (getl t 0).length k ∧ Below W1.heap.size W1 wr) (fun i _ _ _ => (getl t 0).length - (intOf i).toNat)
   case atStart => exact ⟨0, Nat.zero_le _, rfl, Hf.out, hB2'⟩
   case round =>
    obtain ⟨k, hk, rfl, hrem, hB⟩ := hrel
    have Hr := Lib.hid hrem; clear hrem
    have hx : ∀ o, wr.cell? ⟨W.heap.size, o, none⟩ = (#[.int .i64 m.c, .int .i64 m.d, .int .i64 m.s, .int .i64 m.e, .int .i64 m.l, .slice (some ⟨b0, off0, none⟩) t.length c] : Array Value)[o]? := fun o => by rw [(bcell hB).1 _ _ hz01, Hc01.out]
    have hcc : wr.cell? ⟨b0, off0, none⟩ = some (.slice a0 (getl t 0).length c0) := cell_keep Hcc0.out (hB.block _ (lt_of_cell Hcc0.out))
    by_cases hkk : k < (getl t 0).length
    ·go_wp2_with fail
     go_loopw [4, 5] (fun o j w3 => ∃ q : Nat, q ≤ t.length ∧ j = .int .i64 q ∧ o = .bool (doorTo t k q) ∧ w3 = wr) (fun _ j _ => t.length - (intOf j).toNat)
     case atStart => exact ⟨0, Nat.zero_le _, rfl, rfl, rfl⟩
     case round =>
      obtain ⟨q, hq, rfl, rfl, rfl⟩ := hrel
      by_cases hqq : q < t.length
      ·obtain ⟨b1, off1, a1, c1, e1, _, hc1, hr1⟩ := (hV1.below hB).cell hqq
       simp only [Option.some.injEq, Addr.mk.injEq, and_true] at e1
       obtain ⟨rfl, rfl⟩ := e1
       have hkq : k < (getl t q).length := by rw [Hcols.out q hqq]; exact hkk
       obtain ⟨b2, off2, rfl, _, hc2⟩ := hr1.cell hkq
       have hll := hr1.len
       unfold maxLen at hll
       cases hd : doorTo t k q
       ·have hst : doorTo t k (q + 1) = decide (geti (getl t q) k = 1) := by rw [doorTo, hd]; rfl
        have Hst := Lib.hid hst; clear hst
        have Hd := Lib.hid hd; clear hd
        go_wp2_with fail
        all_goals go_roundw
        all_goals first | (case rel => exact ⟨q + 1, by omega, by go_num, by rw [Hst.out]; first | rfl | simp_all, by first | rfl | trivial⟩) | skip
        all_goals (simp [intOf]; omega)
       ·have hst : doorTo t k (q + 1) = true := by rw [doorTo, hd]; rfl
        have Hst := Lib.hid hst; clear hst
        have Hd := Lib.hid hd; clear hd
        go_wp2_with fail
        go_roundw
        case rel => exact ⟨q + 1, by omega, by go_num, by rw [Hst.out], by first | rfl | trivial⟩
        case measure => simp [intOf]; omega
      ·obtain rfl : q = t.length := by omega
       cases hdo : doorTo t k t.length
       ·have Hdo := Lib.hid hdo; clear hdo
        go_wp2_with fail
        go_ret
        exact ⟨ret_bool (by rw [Hr.out, upAll_step hkk, doorOpen, Hdo.out]; rfl), hB01.trans (hB.mono (by omega))⟩
       ·have Hdo := Lib.hid hdo; clear hdo
        go_wp2_with fail
        go_roundw
        case rel => exact ⟨k + 1, by omega, by go_num, by rw [Hr.out, upAll_step hkk, doorOpen, Hdo.out]; rfl, hB⟩
        case measure => simp [intOf]; omega
    ·obtain rfl : k = (getl t 0).length := by omega
     go_wp2_with fail
     go_ret
     exact ⟨ret_bool (by rw [Hr.out, upAll_end]), hB01.trans (hB.mono (by omega))⟩
theorem isSystem_b {S : Nat → Prop} (m : Mk) (u : Value) (t : List (List Int)) (W : World) (r : Bool) (hr : isSys m t = r) (h : V2 S W u t) :
  Calls Try.prog 33 #[.agg #[.int .i64 m.c, .int .i64 m.d, .int .i64 m.s, .int .i64 m.e, .int .i64 m.l, u]] W fun e' w' => e' = .returned (.bool r) ∧ Below W.heap.size W w' := by subst hr; exact isSystem_any m u t W h
theorem isSystemR_b {S : Nat → Prop} (m : Mk) (u : Value) (t : List (List Int)) (W : World) (r : Bool) (hr : isSys m t = r) (h : V2 S W u t) :
  Calls Try.prog 31 #[.agg #[.int .i64 m.c, .int .i64 m.d, .int .i64 m.s, .int .i64 m.e, .int .i64 m.l, u]] W fun e' w' => e' = .returned (.bool r) ∧ Below W.heap.size W w' := by subst hr; exact isSystemR_any m u t W h
theorem szSystem_any {S : Nat → Prop} (m : Mk) (u : Value) (t : List (List Int)) (left : Int) (W : World) (h : V2 S W u t) (h0 : 0 ≤ left) (h1 : left ≤ 1048576) :
  Calls Try.prog 4 #[.agg #[.int .i64 m.c, .int .i64 m.d, .int .i64 m.s, .int .i64 m.e, .int .i64 m.l, u], .int .i64 left] W fun e' w' => e' = .returned (.int .i64 (szL t left)) ∧ Below W.heap.size W w' := by
 have hV := h
 obtain ⟨a, c, rfl, hm⟩ := h.form
 have hle := szL_le (ls := t) h0
 have hge : -1 ≤ szL t left := by
  unfold szL
  split
  ·omega
  ·exact szR_ge _ _ (by omega)
 go_enter Try.func4, Try.ntmps4
 by_cases hneg : szL t left < 0
 ·have hm1 : szL t left = -1 := by omega
  have Hm1 := Lib.hid hm1; clear hm1
  go_wp2_with (go_at_call 5; refine (szInt64SS_any _ _ _ _ (hV.below ((Below.refl _ _).alloc (Nat.le_refl _) _)) h0 h1).mono ?_; rintro e' w' ⟨rfl, rfl⟩)
  go_ret
  exact ⟨ret_int (by rw [Hm1.out]), by (repeat (first | (with_reducible refine Below.setCell ?_ ?_ _) | (with_reducible refine Below.alloc ?_ ?_ _) | (with_reducible refine Below.drew ?_) | (with_reducible refine below_drewN ?_ _) | (with_reducible exact Below.refl _ _) | (with_reducible assumption) | (with_reducible refine Below.trans ?_ (Below.mono (by with_reducible assumption) ?_)) | go_size))⟩
 ·go_wp2_with (go_at_call 5; refine (szInt64SS_any _ _ _ _ (hV.below ((Below.refl _ _).alloc (Nat.le_refl _) _)) h0 h1).mono ?_; rintro e' w' ⟨rfl, rfl⟩)
  go_ret
  exact ⟨rfl, by (repeat (first | (with_reducible refine Below.setCell ?_ ?_ _) | (with_reducible refine Below.alloc ?_ ?_ _) | (with_reducible refine Below.drew ?_) | (with_reducible refine below_drewN ?_ _) | (with_reducible exact Below.refl _ _) | (with_reducible assumption) | (with_reducible refine Below.trans ?_ (Below.mono (by with_reducible assumption) ?_)) | go_size))⟩
/-- Equal makers. -/
def eqMk (m n : Mk) : Bool := m.c == n.c && (m.d == n.d && (m.s == n.s && (m.e == n.e && m.l == n.l)))
theorem eqMk_self (m : Mk) : eqMk m m = true := by simp [eqMk]
theorem eqMaker_any (m n : Mk) (W : World) :
  Calls Try.prog 29 #[.agg #[.int .i64 m.c, .int .i64 m.d, .int .i64 m.s, .int .i64 m.e, .int .i64 m.l], .agg #[.int .i64 n.c, .int .i64 n.d, .int .i64 n.s, .int .i64 n.e, .int .i64 n.l]] W fun e' w' => e' = .returned (.bool (eqMk m n)) ∧ Below W.heap.size W w' := by
 obtain ⟨a, b, c, d, e⟩ := m; obtain ⟨a', b', c', d', e'⟩ := n
 go_enter Try.func29, Try.ntmps29
 go_wp2
 all_goals go_ret
 all_goals exact ⟨by simp_all [eqMk], by (repeat (first | (with_reducible refine Below.setCell ?_ ?_ _) | (with_reducible refine Below.alloc ?_ ?_ _) | (with_reducible refine Below.drew ?_) | (with_reducible refine below_drewN ?_ _) | (with_reducible exact Below.refl _ _) | (with_reducible assumption) | (with_reducible refine Below.trans ?_ (Below.mono (by with_reducible assumption) ?_)) | go_size))⟩
theorem toSystem_any {S : Nat → Prop} (m : Mk) (u : Value) (t : List (List Int)) (W : World) (h : V2 S W u t) (hlen : t.length ≤ 1048576) (hrow : ∀ r ∈ t, r.length ≤ 1048576) :
  Calls Try.prog 7 #[.agg #[.int .i64 m.c, .int .i64 m.d, .int .i64 m.s, .int .i64 m.e, .int .i64 m.l, u]] W fun e' w' => ∃ v', e' = .returned (.agg #[.int .i64 m.c, .int .i64 m.d, .int .i64 m.s, .int .i64 m.e, .int .i64 m.l, v']) ∧ F2 W.heap.size w' v' t ∧ Below W.heap.size W w' := by
 have hV := h
 obtain ⟨a, c, rfl, hm⟩ := h.form
 have Hrow := Lib.hid hrow; clear hrow
 obtain ⟨mc, md, ms, me, ml⟩ := m
 go_enter Try.func7, Try.ntmps7
 go_wp2_with fail
 refine (toMaker_any _ _ _ _ _ _).mono ?_
 rintro e' w2 ⟨rfl, hb2⟩
 have hB2 : Below W.heap.size W w2 := by (repeat (first | (with_reducible refine Below.setCell ?_ ?_ _) | (with_reducible refine Below.alloc ?_ ?_ _) | (with_reducible refine Below.drew ?_) | (with_reducible refine below_drewN ?_ _) | (with_reducible exact Below.refl _ _) | (with_reducible assumption) | (with_reducible refine Below.trans ?_ (Below.mono (by with_reducible assumption) ?_)) | go_size))
 have hz2 := hb2.size
 simp only [World.size_alloc] at hz2
 have hx0 := fun o => (bcell hb2).1 W.heap.size o (by simp; omega)
 have hx1 := fun o => (bcell hb2).1 (W.heap.size + 1) o (by simp)
 have hx2 := fun o => (bcell hb2).1 (W.heap.size + 1 + 1) o (by simp)
 have hf1 := fun o => (bcell hb2).2 (W.heap.size + 1) o (by simp)
 have hf2 := fun o => (bcell hb2).2 (W.heap.size + 1 + 1) o (by simp)
 go_wp2_with fail
 refine (toInt64SS_any _ t _ (hV.below (by (repeat (first | (with_reducible refine Below.setCell ?_ ?_ _) | (with_reducible refine Below.alloc ?_ ?_ _) | (with_reducible refine Below.drew ?_) | (with_reducible refine below_drewN ?_ _) | (with_reducible exact Below.refl _ _) | (with_reducible assumption) | (with_reducible refine Below.trans ?_ (Below.mono (by with_reducible assumption) ?_)) | go_size)))) hlen Hrow.out).mono ?_
 rintro e' w4 ⟨v4, bk, rfl, hx4, hbk, ⟨hsz4, _⟩, hb4⟩
 have hB4 := Below.trans (b := _) (show Below W.heap.size W _ from by (repeat (first | (with_reducible refine Below.setCell ?_ ?_ _) | (with_reducible refine Below.alloc ?_ ?_ _) | (with_reducible refine Below.drew ?_) | (with_reducible refine below_drewN ?_ _) | (with_reducible exact Below.refl _ _) | (with_reducible assumption) | (with_reducible refine Below.trans ?_ (Below.mono (by with_reducible assumption) ?_)) | go_size))) (hb4.mono (by simp; omega))
 have hz4 := hb4.size
 simp only [World.size_setCell] at hz4
 have hy2 := fun o => (bcell hb4).1 (W.heap.size + 1 + 1) o (by simp; omega)
 have hg2 := fun o => (bcell hb4).2 (W.heap.size + 1 + 1) o (by simp; omega)
 have hy1 := fun o => (bcell hb4).1 (W.heap.size + 1) o (by simp; omega)
 have hg1 := fun o => (bcell hb4).2 (W.heap.size + 1) o (by simp; omega)
 obtain ⟨a4, c4, rfl, _⟩ := (hx4.v2 (S := fun _ => True) (fun _ => trivial) (fun _ _ _ => trivial)).form
 have hF4 : F2 (W.heap.size + 3) w4 (.slice a4 t.length c4) t := ⟨_, bk, hx4, fun _ => by simp; omega, fun k hk _ => by have := hbk k hk; simp at this; omega⟩
 have HF4 := Lib.hid hF4; clear hF4 hx4 hbk
 clear hB2
 go_wp2_with fail
 exact bodyPost_ret (v := .agg #[.int .i64 mc, .int .i64 md, .int .i64 ms, .int .i64 me, .int .i64 ml, .slice a4 t.length c4]) (by simp [results, Try.results7, go_sem, hx0, hx1, hx2, hy1, hy2]) rfl
  ⟨_, rfl, (((((((HF4.out.set (by omega)).set (by omega)).set (by omega)).set (by omega)).set (by omega)).set (by omega)).set (by omega)).mono (by omega), by (repeat (first | (with_reducible refine Below.setCell ?_ ?_ _) | (with_reducible refine Below.alloc ?_ ?_ _) | (with_reducible refine Below.drew ?_) | (with_reducible refine below_drewN ?_ _) | (with_reducible exact Below.refl _ _) | (with_reducible assumption) | (with_reducible refine Below.trans ?_ (Below.mono (by with_reducible assumption) ?_)) | go_size))⟩
theorem eqSystem_any {S S' : Nat → Prop} (m n : Mk) (u v : Value) (t s : List (List Int)) (W : World) (h : V2 S W u t) (h' : V2 S' W v s) :
  Calls Try.prog 11 #[.agg #[.int .i64 m.c, .int .i64 m.d, .int .i64 m.s, .int .i64 m.e, .int .i64 m.l, u], .agg #[.int .i64 n.c, .int .i64 n.d, .int .i64 n.s, .int .i64 n.e, .int .i64 n.l, v]] W fun e' w' => e' = .returned (.bool (eqMk m n && decide (t = s))) ∧ Below W.heap.size W w' := by
 have hV := h
 have hV' := h'
 obtain ⟨a, c, rfl, hm⟩ := h.form
 obtain ⟨a', c', rfl, hm'⟩ := h'.form
 cases he : eqMk m n
 ·have He := Lib.hid he; clear he
  go_enter Try.func11, Try.ntmps11
  go_wp2_with (go_at_call 29; refine (eqMaker_any m n _).mono ?_; rintro e' w' ⟨rfl, hb⟩; rw [He.out]; have hzB := hb.size; (try simp only [World.size_alloc, World.size_setCell, World.size_drew] at hzB))
  go_ret
  exact ⟨ret_bool (by rfl), by (repeat (first | (with_reducible refine Below.setCell ?_ ?_ _) | (with_reducible refine Below.alloc ?_ ?_ _) | (with_reducible refine Below.drew ?_) | (with_reducible refine below_drewN ?_ _) | (with_reducible exact Below.refl _ _) | (with_reducible assumption) | (with_reducible refine Below.trans ?_ (Below.mono (by with_reducible assumption) ?_)) | go_size))⟩
 ·have He := Lib.hid he; clear he
  go_enter Try.func11, Try.ntmps11
  go_wp2_with fail
  refine (eqMaker_any m n _).mono ?_
  rintro e' w2 ⟨rfl, hb2⟩
  rw [He.out]
  have hB2 : Below W.heap.size W w2 := Below.trans (b := _) (show Below W.heap.size W _ from by (repeat (first | (with_reducible refine Below.setCell ?_ ?_ _) | (with_reducible refine Below.alloc ?_ ?_ _) | (with_reducible refine Below.drew ?_) | (with_reducible refine below_drewN ?_ _) | (with_reducible exact Below.refl _ _) | (with_reducible assumption) | (with_reducible refine Below.trans ?_ (Below.mono (by with_reducible assumption) ?_)) | go_size))) (hb2.mono (by simp; omega))
  have hx0 := fun o => (bcell hb2).1 W.heap.size o (by simp; omega)
  have hx1 := fun o => (bcell hb2).1 (W.heap.size + 1) o (by simp)
  cases hd : decide (t = s)
  ·have Hd := Lib.hid hd; clear hd
   go_wp2_with (go_at_call 12; refine (eqInt64SS_b _ _ t s _ _ Hd.out (hV.below hB2) (hV'.below hB2)).mono ?_; rintro e' w' ⟨rfl, n, rfl⟩)
   go_ret
   exact ⟨ret_bool (by rw [Hd.out]; rfl), below_drewN hB2 _⟩
  ·have Hd := Lib.hid hd; clear hd
   go_wp2_with (go_at_call 12; refine (eqInt64SS_b _ _ t s _ _ Hd.out (hV.below hB2) (hV'.below hB2)).mono ?_; rintro e' w' ⟨rfl, n, rfl⟩)
   go_ret
   exact ⟨ret_bool (by rw [Hd.out]; rfl), below_drewN hB2 _⟩
theorem eqSystem_b {S S' : Nat → Prop} (m n : Mk) (u v : Value) (t s : List (List Int)) (W : World) (r : Bool) (hr : (eqMk m n && decide (t = s)) = r) (h : V2 S W u t) (h' : V2 S' W v s) :
  Calls Try.prog 11 #[.agg #[.int .i64 m.c, .int .i64 m.d, .int .i64 m.s, .int .i64 m.e, .int .i64 m.l, u], .agg #[.int .i64 n.c, .int .i64 n.d, .int .i64 n.s, .int .i64 n.e, .int .i64 n.l, v]] W fun e' w' => e' = .returned (.bool r) ∧ Below W.heap.size W w' := by subst hr; exact eqSystem_any m n u v t s W h h'
theorem isSys_parts {m : Mk} {t : List (List Int)} (h : isSys m t = true) : m.ok = true ∧ isTab t = true ∧ upAll (doorOpen t) (getl t 0).length 0 = true := by
 simp only [isSys, Bool.and_eq_true] at h; exact ⟨h.1, h.2.1, h.2.2⟩
end Go.Proofs.Ytmaefilliggjiaa
