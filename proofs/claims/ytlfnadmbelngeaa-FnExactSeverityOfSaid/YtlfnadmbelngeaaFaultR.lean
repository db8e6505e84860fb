/- What the reference answers on keys: the fault of a key, and whether cuts may begin one. No conditions. -/
import Derived.Test.YtlfnadmbelngeaaFault3
namespace Go.Proofs.Ytlfnadmbelngeaa
open Go.RowKit
set_option linter.unusedVariables false
set_option linter.unusedSimpArgs false

theorem l02Cuts_any {S : Nat → Prop} (m : Mk) (v : Value) (l : List Int) (W : World) (hm : m.ok = true) (h : V1 S W v l) :
    Calls Try.prog 92 #[.agg #[.int .i64 m.c, .int .i64 m.d, .int .i64 m.s, .int .i64 m.e, .int .i64 m.l], v] W fun e' w' => e' = .returned (.bool (allB l 0 (m.d - 1) && decide ((l.length : Int) = m.c))) ∧ Below W.heap.size W w' := by
  have hV := h
  obtain ⟨hd1, hd2⟩ := (Mk.ok_iff.1 hm).2.1
  clear hm
  obtain ⟨a, c, rfl, hmx⟩ := h.form
  obtain ⟨mc, md, ms, me, ml⟩ := m
  simp only at hd1 hd2
  have hw : IntKind.i64.wrap (md - 1) = md - 1 := IntWalk.i64_in _ (by omega)
  obtain ⟨W1, hW1, hB01, hz01, HZ01, hc01, hh01⟩ := box_facts W #[.int .i64 mc, .int .i64 md, .int .i64 ms, .int .i64 me, .int .i64 ml] 32
  have hV1 := hV.below hB01
  go_enter Try.func92, Try.ntmps92
  go_wp2_with fail
  rw [← hW1]
  have HW1 := Lib.hid hW1; clear hW1
  clear hh01
  go_wp2_with fail
  go_loopw [5] (fun i wr => ∃ k n : Nat, k ≤ l.length ∧ i = .int .i64 k ∧ allB l 0 (md - 1) = allB (l.drop k) 0 (md - 1) ∧ wr = W1.drewN n) (fun i _ => l.length - (intOf i).toNat)
  case atStart => exact ⟨0, 0, Nat.zero_le _, rfl, rfl, rfl⟩
  case round =>
    obtain ⟨k, n, hk, rfl, hrem, rfl⟩ := hrel
    have Hr := Lib.hid hrem; clear hrem
    by_cases hkk : k < l.length
    · obtain ⟨b1, off1, rfl, _, hc1⟩ := hV1.cell hkk
      cases hin : inB (geti l k) 0 (md - 1)
      · have E1 := Lib.hid hin; clear hin
        go_wp2_with fail
        go_quiet ((go_at_call 77; first | exact quiet_same (l01In_b _ _ _ _ _ E1.out) | exact quiet_same0 (l01In_b _ _ _ _ _ E1.out)))
        go_wp2_with fail
        go_ret
        exact ⟨ret_bool (by rw [Hr.out, allB_step hkk, E1.out]; rfl), by repeat' first | refine below_drewN ?_ _ | exact hB01⟩
      · have E1 := Lib.hid hin; clear hin
        go_wp2_with fail
        go_quiet ((go_at_call 77; first | exact quiet_same (l01In_b _ _ _ _ _ E1.out) | exact quiet_same0 (l01In_b _ _ _ _ _ E1.out)))
        go_wp2_with fail
        go_roundw
        case rel => exact ⟨k + 1, _, by omega, by go_num, by rw [Hr.out, allB_step hkk, E1.out]; rfl, by first | rfl | rw [World.drewN_drewN]⟩
        case measure => simp [intOf]; omega
    · have hd : l.drop k = [] := List.drop_of_length_le (by omega)
      have Hd := Lib.hid hd; clear hd
      by_cases hl : (l.length : Int) = mc
      · subst hl
        go_wp2_with fail
        go_ret
        exact ⟨ret_bool (by rw [Hr.out, Hd.out]; simp [allB]), by repeat' first | refine below_drewN ?_ _ | exact hB01⟩
      · have e1 : ((l.length : Int) == mc) = false := by simp [hl]
        have Hl := Lib.hid hl; clear hl
        go_wp2_with fail
        go_ret
        exact ⟨ret_bool (by rw [decide_eq_false Hl.out]; simp), by repeat' first | refine below_drewN ?_ _ | exact hB01⟩
theorem l02Cuts_b {S : Nat → Prop} (m : Mk) (v : Value) (l : List Int) (W : World) (r : Bool) (hr : (allB l 0 (m.d - 1) && decide ((l.length : Int) = m.c)) = r) (hm : m.ok = true) (h : V1 S W v l) :
    Calls Try.prog 92 #[.agg #[.int .i64 m.c, .int .i64 m.d, .int .i64 m.s, .int .i64 m.e, .int .i64 m.l], v] W fun e' w' => e' = .returned (.bool r) ∧ Below W.heap.size W w' := by subst hr; exact l02Cuts_any m v l W hm h

/-- What the reference's loop holds: the last run, and the longest one. -/
def lastRun (l : List Int) : Nat → Nat
  | 0 => 0
  | k + 1 => runAt l k
theorem lastRun_le (l : List Int) : ∀ k, lastRun l k ≤ k
  | 0 => Nat.le_refl _
  | k + 1 => runAt_le l k
theorem runAt_last {l : List Int} {k : Nat} (h : k = 0 ∨ geti l k = geti l (k - 1)) : runAt l k = lastRun l k + 1 := by
  cases k with
  | zero => rfl
  | succ k =>
    rcases h with h | h
    · cases h
    · rw [Nat.add_sub_cancel] at h
      rw [runAt, if_pos h]; rfl
theorem runAt_new {l : List Int} {k : Nat} (h0 : 0 < k) (h : geti l k ≠ geti l (k - 1)) : runAt l k = 1 := by
  cases k with
  | zero => omega
  | succ k => rw [Nat.add_sub_cancel] at h; rw [runAt, if_neg h]

set_option maxRecDepth 100000 in
theorem l02Fault_any {S : Nat → Prop} (m : Mk) (v : Value) (l : List Int) (W : World) (hm : m.ok = true) (h : V1 S W v l) :
    Calls Try.prog 66 #[.agg #[.int .i64 m.c, .int .i64 m.d, .int .i64 m.s, .int .i64 m.e, .int .i64 m.l], v] W fun e' w' => e' = .returned (.int .i64 (fault m l)) ∧ Below W.heap.size W w' := by
  have hV := h
  have hmk := Mk.ok_iff.1 hm
  obtain ⟨a, c, rfl, hmx⟩ := h.form
  obtain ⟨W1, hW1, hB01, hz01, HZ01, hc01, hh01⟩ := box_facts W #[.int .i64 m.c, .int .i64 m.d, .int .i64 m.s, .int .i64 m.e, .int .i64 m.l] 32
  have hV1 := hV.below hB01
  by_cases hl : (l.length : Int) = m.c
  · have hl' : decide ((l.length : Int) = m.c) = true := decide_eq_true hl
    have e1 : ((l.length : Int) != m.c) = false := by simp [hl]
    have e2 : ((l.length : Int) == m.c) = true := by simp [hl]
    cases hb : allB l 0 (m.d - 1)
    · have hfin : fault m l = 2 := fault2 hl hb
      have Hf := Lib.hid hfin; clear hfin
      have Hr := Lib.hid (show (allB l 0 (m.d - 1) && decide ((l.length : Int) = m.c)) = false by rw [hl', hb]; rfl)
      have Hb := Lib.hid hb; clear hb
      have Hl := Lib.hid hl; clear hl hl' hmk
      go_enter Try.func66, Try.ntmps66
      go_wp2_with fail
      rw [← hW1]
      go_wp2_with fail
      refine (l02Cuts_b m _ l _ _ Hr.out hm hV1).mono ?_; rintro e' w2 ⟨rfl, hb_w2⟩; have hB2 := (Below.refl W1.heap.size W1).trans (hb_w2.mono (Below.refl W1.heap.size W1).size)
      clear hc01 hh01
      go_wp2_with fail
      go_ret
      exact ⟨ret_int Hf.out.symm, hB01.trans (hB2.mono (by omega))⟩
    · have Hr := Lib.hid (show (allB l 0 (m.d - 1) && decide ((l.length : Int) = m.c)) = true by rw [hl', hb]; rfl)
      have hrange : ∀ k, k < l.length → 0 ≤ geti l k ∧ geti l k ≤ 7 := fun k hk => by have := allB_mem hb hk; omega
      have Hrange := Lib.hid hrange; clear hrange
      have Hb := Lib.hid hb; clear hb
      have Hl := Lib.hid hl; clear hl hl'
      have hlen : 1 ≤ l.length ∧ l.length ≤ 6 := by have := Hl.out; omega
      have hme : 0 ≤ m.e := by omega
      clear hmk
      go_enter Try.func66, Try.ntmps66
      go_wp2_with fail
      rw [← hW1]
      go_wp2_with fail
      refine (l02Cuts_b m _ l _ _ Hr.out hm hV1).mono ?_; rintro e' w2 ⟨rfl, hb_w2⟩; have hB2 := (Below.refl W1.heap.size W1).trans (hb_w2.mono (Below.refl W1.heap.size W1).size)
      have hx2 : ∀ o, (w2).cell? ⟨W.heap.size, o, none⟩ = (#[.int .i64 m.c, .int .i64 m.d, .int .i64 m.s, .int .i64 m.e, .int .i64 m.l] : Array Value)[o]? := fun o => by rw [(bcell hB2).1 _ _ hz01, hc01]
      clear hc01 hh01
      have hV2 := hV1.below hB2
      go_wp2_with fail
      go_loopw [5, 6, 7] (fun ru mo i wr => ∃ k n : Nat, k ≤ l.length ∧ i = .int .i64 (k : Int) ∧ ru = .int .i64 (lastRun l k : Int) ∧ mo = .int .i64 (mostRun l k : Int) ∧ (∀ j, j < k → stepBad m l j = false) ∧ wr = w2.drewN n) (fun _ _ i _ => l.length - (intOf i).toNat)
      case atStart => exact ⟨0, 0, Nat.zero_le _, rfl, rfl, rfl, fun j hj => by omega, rfl⟩
      case round =>
        obtain ⟨k, n, hk, rfl, rfl, rfl, hpre, rfl⟩ := hrel
        have Hpre := Lib.hid hpre; clear hpre
        have hlr := lastRun_le l k
        have hmr := mostRun_le l k
        by_cases hkk : k < l.length
        · obtain ⟨b1, off1, rfl, _, hc1⟩ := hV2.cell hkk
          have hr1 := Hrange.out _ hkk
          have hms : mostRun l (k + 1) = max (mostRun l k) (runAt l k) := rfl
          by_cases h0 : k = 0
          · have hst : stepBad m l k = false := by rw [h0]; exact stepBad_zero
            have hru : runAt l k = lastRun l k + 1 := runAt_last (.inl h0)
            have hd : decide (0 < k) = false := by simp [h0]
            have Hst := Lib.hid hst; clear hst
            have Hru := Lib.hid hru; clear hru
            have Hms := Lib.hid hms; clear hms
            have H0 := Lib.hid h0; clear h0
            generalize hLR : lastRun l k = lr at *
            generalize hMR : mostRun l k = mr at *
            have HLR := Lib.hid hLR; clear hLR
            have HMR := Lib.hid hMR; clear hMR
            go_wp2_with fail
            go_quiet (fail)
            go_wp2_with fail
            go_quiet (fail)
            go_wp2_with fail
            all_goals
              go_roundw
              case rel => exact ⟨k + 1, _, by omega, by go_num, by rw [show lastRun l (k + 1) = runAt l k from rfl, Hru.out]; go_num, by rw [Hms.out, Hru.out]; go_num, fun j hj => by
                by_cases e : j = k
                · subst e; exact Hst.out
                · exact Hpre.out j (by omega), by first | rfl | simp only [World.drewN_drewN]⟩
              case measure => simp [intOf]; omega
          · have h1 : 0 < k := by omega
            obtain ⟨b2, off2, e3, _, hc2⟩ := hV2.cell (k := k - 1) (by omega)
            simp only [Option.some.injEq, Addr.mk.injEq, and_true] at e3
            obtain ⟨rfl, rfl⟩ := e3
            have hr2 := Hrange.out (k - 1) (by omega)
            obtain ⟨q, hq⟩ : ∃ q, absI (geti l k - geti l (k - 1)) = q := ⟨_, rfl⟩
            have hst : stepBad m l k = decide (m.s < q) := by unfold stepBad; rw [hq]; simp [h1]
            have hw : IntKind.i64.wrap (geti l k - geti l (k - 1)) = geti l k - geti l (k - 1) := IntWalk.i64_in _ (by omega)
            have Hst := Lib.hid hst; clear hst
            have Hq := Lib.hid hq; clear hq
            have Hms := Lib.hid hms; clear hms
            by_cases hbad : m.s < q
            · have hfin : fault m l = 3 := fault3 Hl.out Hb.out (any_range_mono hkk (by rw [Hst.out]; exact decide_eq_true hbad))
              have Hf := Lib.hid hfin; clear hfin
              clear h0
              go_wp2_with fail
              go_quiet ((go_at_call 93; first | exact quiet_same (l01Abs_b _ _ _ Hq.out (by omega)) | exact quiet_same0 (l01Abs_b _ _ _ Hq.out (by omega))))
              go_wp2_with fail
              go_ret
              exact ⟨ret_int Hf.out.symm, by repeat' first | refine below_drewN ?_ _ | exact hB01.trans (hB2.mono (by omega))⟩
            · have hd : decide (m.s < q) = false := decide_eq_false hbad
              have Hbad := Lib.hid hd
              by_cases he : geti l k = geti l (k - 1)
              · have e4 : (geti l k != geti l (k - 1)) = false := by simp [he]
                have hru : runAt l k = lastRun l k + 1 := runAt_last (.inr he)
                have Hru := Lib.hid hru; clear hru
                have He := Lib.hid he; clear he h0
                generalize hLR : lastRun l k = lr at *
                generalize hMR : mostRun l k = mr at *
                have HLR := Lib.hid hLR; clear hLR
                have HMR := Lib.hid hMR; clear hMR
                go_wp2_with fail
                go_quiet ((go_at_call 93; first | exact quiet_same (l01Abs_b _ _ _ Hq.out (by omega)) | exact quiet_same0 (l01Abs_b _ _ _ Hq.out (by omega))))
                go_wp2_with fail
                go_quiet (fail)
                go_wp2_with fail
                all_goals
                  go_roundw
                  case rel => exact ⟨k + 1, _, by omega, by go_num, by rw [show lastRun l (k + 1) = runAt l k from rfl, Hru.out]; go_num, by rw [Hms.out, Hru.out]; go_num, fun j hj => by
                    by_cases e : j = k
                    · subst e; rw [Hst.out]; exact Hbad.out
                    · exact Hpre.out j (by omega), by first | rfl | simp only [World.drewN_drewN]⟩
                  case measure => simp [intOf]; omega
              · have e4 : (geti l k != geti l (k - 1)) = true := by simp [he]
                have hru : runAt l k = 1 := runAt_new h1 he
                have Hru := Lib.hid hru; clear hru
                have He := Lib.hid he; clear he h0
                generalize hLR : lastRun l k = lr at *
                generalize hMR : mostRun l k = mr at *
                have HLR := Lib.hid hLR; clear hLR
                have HMR := Lib.hid hMR; clear hMR
                go_wp2_with fail
                go_quiet ((go_at_call 93; first | exact quiet_same (l01Abs_b _ _ _ Hq.out (by omega)) | exact quiet_same0 (l01Abs_b _ _ _ Hq.out (by omega))))
                go_wp2_with fail
                go_quiet (fail)
                go_wp2_with fail
                all_goals
                  go_roundw
                  case rel => exact ⟨k + 1, _, by omega, by go_num, by rw [show lastRun l (k + 1) = runAt l k from rfl, Hru.out]; rfl, by rw [Hms.out, Hru.out]; go_num, fun j hj => by
                    by_cases e : j = k
                    · subst e; rw [Hst.out]; exact Hbad.out
                    · exact Hpre.out j (by omega), by first | rfl | simp only [World.drewN_drewN]⟩
                  case measure => simp [intOf]; omega
        · obtain rfl : k = l.length := by omega
          have h3 : (List.range l.length).any (stepBad m l) = false := any_range_none fun j hj => Hpre.out j (by omega)
          have hmb := mostRun_bad (m := m) (l := l) l.length hme
          by_cases h4 : m.e < (mostRun l l.length : Int)
          · have hfin : fault m l = 4 := fault4 Hl.out Hb.out h3 (hmb.1 h4)
            have Hf := Lib.hid hfin; clear hfin h3 hmb
            generalize hLR : lastRun l l.length = lr at *
            generalize hMR : mostRun l l.length = mr at *
            have HLR := Lib.hid hLR; clear hLR
            have HMR := Lib.hid hMR; clear hMR
            go_wp2_with fail
            go_ret
            exact ⟨ret_int Hf.out.symm, by repeat' first | refine below_drewN ?_ _ | exact hB01.trans (hB2.mono (by omega))⟩
          · have h4' : (List.range l.length).any (runBad m l) = false := by
              rw [← Bool.not_eq_true, ← hmb]; exact h4
            have hd4 : decide (m.e < (mostRun l l.length : Int)) = false := decide_eq_false h4
            by_cases h5 : (kinds l : Int) < m.l
            · have hfin : fault m l = 5 := fault5 Hl.out Hb.out h3 h4' h5
              have Hf := Lib.hid hfin; clear hfin h3 h4' hmb
              generalize hLR : lastRun l l.length = lr at *
              generalize hMR : mostRun l l.length = mr at *
              have HLR := Lib.hid hLR; clear hLR
              have HMR := Lib.hid hMR; clear hMR
              go_wp2_with fail
              go_quiet ((go_at_call 94; first | exact quiet_at (l02Kinds_q _ _ _ (V1.drewN hV2)) | exact quiet_at0 (l02Kinds_q _ _ _ (V1.drewN hV2))))
              go_wp2_with fail
              go_ret
              exact ⟨ret_int Hf.out.symm, by repeat' first | refine below_drewN ?_ _ | exact hB01.trans (hB2.mono (by omega))⟩
            · have hfin : fault m l = 0 := fault0 Hl.out Hb.out h3 h4' h5
              have hd : decide ((kinds l : Int) < m.l) = false := decide_eq_false h5
              have Hf := Lib.hid hfin; clear hfin h3 h4' hmb
              generalize hLR : lastRun l l.length = lr at *
              generalize hMR : mostRun l l.length = mr at *
              have HLR := Lib.hid hLR; clear hLR
              have HMR := Lib.hid hMR; clear hMR
              go_wp2_with fail
              go_quiet ((go_at_call 94; first | exact quiet_at (l02Kinds_q _ _ _ (V1.drewN hV2)) | exact quiet_at0 (l02Kinds_q _ _ _ (V1.drewN hV2))))
              go_wp2_with fail
              go_ret
              exact ⟨ret_int Hf.out.symm, by repeat' first | refine below_drewN ?_ _ | exact hB01.trans (hB2.mono (by omega))⟩
  · have hfin : fault m l = 1 := fault1 hl
    have e1 : ((l.length : Int) != m.c) = true := by simp [hl]
    have Hf := Lib.hid hfin; clear hfin
    have Hl := Lib.hid hl; clear hl hmk
    go_enter Try.func66, Try.ntmps66
    go_wp2_with fail
    rw [← hW1]
    go_wp2_with fail
    go_ret
    exact ⟨ret_int Hf.out.symm, hB01⟩
end Go.Proofs.Ytlfnadmbelngeaa
