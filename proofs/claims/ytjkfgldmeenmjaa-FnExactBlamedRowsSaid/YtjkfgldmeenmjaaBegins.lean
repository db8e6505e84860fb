/- What the reference answers on the beginnings of keys. No conditions. -/
import Derived.Test.YtjkfgldmeenmjaaMFault
namespace Go.Proofs.Ytjkfgldmeenmjaa
open Go.RowKit
set_option linter.unusedVariables false
set_option linter.unusedSimpArgs false

theorem fit_run {m : Mk} {l : List Int} {k : Nat} {r : Int} (hr : (runAt l k : Int) = r) (h : m.e < r) : fitAt m l k = false := by
  unfold fitAt; rw [hr, decide_eq_false (by omega)]; rfl
theorem fit_step {m : Mk} {l : List Int} {k : Nat} {q : Int} (hq : absI (geti l k - geti l (k - 1)) = q) (h0 : 0 < k) (h : m.s < q) : fitAt m l k = false := by
  unfold fitAt; rw [hq]
  have h1 : (k == 0) = false := by simp; omega
  rw [h1, decide_eq_false (show ¬ q ≤ m.s by omega)]; simp
theorem fit_ok {m : Mk} {l : List Int} {k : Nat} {r : Int} (hr : (runAt l k : Int) = r) (h : ¬ m.e < r) (hs : k = 0 ∨ ¬ m.s < absI (geti l k - geti l (k - 1))) : fitAt m l k = true := by
  unfold fitAt; rw [hr, decide_eq_true (show r ≤ m.e by omega), Bool.true_and]
  rcases hs with h | h
  · subst h; rfl
  · rw [decide_eq_true (show absI (geti l k - geti l (k - 1)) ≤ m.s by omega)]; simp
theorem begins_not {m : Mk} {l : List Int} {k : Nat} (h : k < l.length) (hf : fitAt m l k = false) : begins m l = false := by
  rw [← Bool.not_eq_true, begins_iff]; intro hc; rw [hc k h] at hf; cases hf

set_option maxRecDepth 100000 in
theorem l02Begins_any {S : Nat → Prop} (m : Mk) (v : Value) (l : List Int) (W : World) (h : V1 S W v l) (hlen : l.length ≤ 1000) (hrange : ∀ k, k < l.length → 0 ≤ geti l k ∧ geti l k ≤ 7) :
    Calls Try.prog 110 #[.agg #[.int .i64 m.c, .int .i64 m.d, .int .i64 m.s, .int .i64 m.e, .int .i64 m.l], v] W fun e' w' => e' = .returned (.bool (begins m l)) ∧ Below W.heap.size W w' := by
  have hV := h
  have Hrange := Lib.hid hrange; clear hrange
  obtain ⟨a, c, rfl, hmx⟩ := h.form
  obtain ⟨W1, hW1, hB01, hz01, HZ01, hc01, hh01⟩ := box_facts W #[.int .i64 m.c, .int .i64 m.d, .int .i64 m.s, .int .i64 m.e, .int .i64 m.l] 32
  have hV1 := hV.below hB01
  go_enter Try.func110, Try.ntmps110
  go_wp2_with fail
  rw [← hW1]
  have HW1 := Lib.hid hW1; clear hW1
  clear hh01
  go_wp2_with fail
  go_loopw [5, 6] (fun ru i wr => ∃ k n : Nat, k ≤ l.length ∧ i = .int .i64 (k : Int) ∧ ru = .int .i64 (lastRun l k : Int) ∧ (∀ j, j < k → fitAt m l j = true) ∧ wr = W1.drewN n) (fun _ i _ => l.length - (intOf i).toNat)
  case atStart => exact ⟨0, 0, Nat.zero_le _, rfl, rfl, fun j hj => by omega, rfl⟩
  case round =>
    obtain ⟨k, n, hk, rfl, rfl, hpre, rfl⟩ := hrel
    have Hpre := Lib.hid hpre; clear hpre
    have hlr := lastRun_le l k
    by_cases hkk : k < l.length
    · obtain ⟨b1, off1, rfl, _, hc1⟩ := hV1.cell hkk
      have hr1 := Hrange.out _ hkk
      by_cases h0 : k = 0
      · have hru : runAt l k = lastRun l k + 1 := runAt_last (.inl h0)
        have hd : decide (0 < k) = false := by simp [h0]
        have H0 := Lib.hid h0; clear h0
        have hru' : (runAt l k : Int) = (lastRun l k : Int) + 1 := by rw [hru]; rfl
        have Hru := Lib.hid hru; clear hru
        have Hru' := Lib.hid hru'; clear hru'
        by_cases hbad : m.e < (lastRun l k : Int) + 1
        · have hfin := begins_not hkk (fit_run Hru'.out hbad)
          have Hf := Lib.hid hfin; clear hfin
          generalize hLR : lastRun l k = lr at *
          have HLR := Lib.hid hLR; clear hLR
          have hdd : decide (m.e < (lr : Int) + 1) = true := decide_eq_true hbad
          go_wp2_with fail
          go_quiet (fail)
          go_wp2_with fail
          go_quiet (fail)
          go_wp2_with fail
          go_ret
          exact ⟨ret_bool Hf.out.symm, by repeat' first | refine below_drewN ?_ _ | exact hB01⟩
        · have hfit := fit_ok Hru'.out hbad (.inl H0.out)
          have Hfit := Lib.hid hfit; clear hfit
          generalize hLR : lastRun l k = lr at *
          have HLR := Lib.hid hLR; clear hLR
          have hdd : decide (m.e < (lr : Int) + 1) = false := decide_eq_false hbad
          go_wp2_with fail
          go_quiet (fail)
          go_wp2_with fail
          go_quiet (fail)
          go_wp2_with fail
          go_roundw
          case rel => exact ⟨k + 1, _, by omega, by go_num, by rw [show lastRun l (k + 1) = runAt l k from rfl, Hru.out]; go_num, fun j hj => by
            by_cases e : j = k
            · subst e; exact Hfit.out
            · exact Hpre.out j (by omega), by first | rfl | simp only [World.drewN_drewN]⟩
          case measure => simp [intOf]; omega
      · have h1 : 0 < k := by omega
        obtain ⟨b2, off2, e3, _, hc2⟩ := hV1.cell (k := k - 1) (by omega)
        simp only [Option.some.injEq, Addr.mk.injEq, and_true] at e3
        obtain ⟨rfl, rfl⟩ := e3
        have hr2 := Hrange.out (k - 1) (by omega)
        obtain ⟨q, hq⟩ : ∃ q, absI (geti l k - geti l (k - 1)) = q := ⟨_, rfl⟩
        have hw : IntKind.i64.wrap (geti l k - geti l (k - 1)) = geti l k - geti l (k - 1) := IntWalk.i64_in _ (by omega)
        have Hq := Lib.hid hq; clear hq
        clear h0
        by_cases he : geti l k = geti l (k - 1)
        · have e4 : (geti l k != geti l (k - 1)) = false := by simp [he]
          have hru : runAt l k = lastRun l k + 1 := runAt_last (.inr he)
          have hru' : (runAt l k : Int) = (lastRun l k : Int) + 1 := by rw [hru]; rfl
          have Hru := Lib.hid hru; clear hru
          have Hru' := Lib.hid hru'; clear hru'
          have He := Lib.hid he; clear he
          by_cases hbad : m.e < (lastRun l k : Int) + 1
          · have hfin := begins_not hkk (fit_run Hru'.out hbad)
            have Hf := Lib.hid hfin; clear hfin
            generalize hLR : lastRun l k = lr at *
            have HLR := Lib.hid hLR; clear hLR
            have hdd : decide (m.e < (lr : Int) + 1) = true := decide_eq_true hbad
            go_wp2_with fail
            go_quiet (fail)
            go_wp2_with fail
            go_quiet (fail)
            go_wp2_with fail
            go_ret
            exact ⟨ret_bool Hf.out.symm, by repeat' first | refine below_drewN ?_ _ | exact hB01⟩
          · by_cases hstep : m.s < q
            · have hfin := begins_not hkk (fit_step Hq.out h1 hstep)
              have Hf := Lib.hid hfin; clear hfin
              generalize hLR : lastRun l k = lr at *
              have HLR := Lib.hid hLR; clear hLR
              have hdd : decide (m.e < (lr : Int) + 1) = false := decide_eq_false hbad
              go_wp2_with fail
              go_quiet (fail)
              go_wp2_with fail
              go_quiet ((go_at_call 132; first | exact quiet_same (l01Abs_b _ _ _ Hq.out (by omega)) | exact quiet_same0 (l01Abs_b _ _ _ Hq.out (by omega))))
              go_wp2_with fail
              go_ret
              exact ⟨ret_bool Hf.out.symm, by repeat' first | refine below_drewN ?_ _ | exact hB01⟩
            · have hfit := fit_ok Hru'.out hbad (.inr (by rw [Hq.out]; exact hstep))
              have Hfit := Lib.hid hfit; clear hfit
              generalize hLR : lastRun l k = lr at *
              have HLR := Lib.hid hLR; clear hLR
              have hdd : decide (m.e < (lr : Int) + 1) = false := decide_eq_false hbad
              have hds : decide (m.s < q) = false := decide_eq_false hstep
              go_wp2_with fail
              go_quiet (fail)
              go_wp2_with fail
              go_quiet ((go_at_call 132; first | exact quiet_same (l01Abs_b _ _ _ Hq.out (by omega)) | exact quiet_same0 (l01Abs_b _ _ _ Hq.out (by omega))))
              go_wp2_with fail
              go_roundw
              case rel => exact ⟨k + 1, _, by omega, by go_num, by rw [show lastRun l (k + 1) = runAt l k from rfl, Hru.out]; go_num, fun j hj => by
                by_cases e : j = k
                · subst e; exact Hfit.out
                · exact Hpre.out j (by omega), by first | rfl | simp only [World.drewN_drewN]⟩
              case measure => simp [intOf]; omega
        · have e4 : (geti l k != geti l (k - 1)) = true := by simp [he]
          have hru : runAt l k = 1 := runAt_new h1 he
          have hru' : (runAt l k : Int) = 1 := by rw [hru]; rfl
          have Hru := Lib.hid hru; clear hru
          have Hru' := Lib.hid hru'; clear hru'
          have He := Lib.hid he; clear he
          by_cases hbad : m.e < 1
          · have hfin := begins_not hkk (fit_run Hru'.out hbad)
            have Hf := Lib.hid hfin; clear hfin
            generalize hLR : lastRun l k = lr at *
            have HLR := Lib.hid hLR; clear hLR
            have hdd : decide (m.e < 1) = true := decide_eq_true hbad
            go_wp2_with fail
            go_quiet (fail)
            go_wp2_with fail
            go_quiet (fail)
            go_wp2_with fail
            go_ret
            exact ⟨ret_bool Hf.out.symm, by repeat' first | refine below_drewN ?_ _ | exact hB01⟩
          · by_cases hstep : m.s < q
            · have hfin := begins_not hkk (fit_step Hq.out h1 hstep)
              have Hf := Lib.hid hfin; clear hfin
              generalize hLR : lastRun l k = lr at *
              have HLR := Lib.hid hLR; clear hLR
              have hdd : decide (m.e < 1) = false := decide_eq_false hbad
              go_wp2_with fail
              go_quiet (fail)
              go_wp2_with fail
              go_quiet ((go_at_call 132; first | exact quiet_same (l01Abs_b _ _ _ Hq.out (by omega)) | exact quiet_same0 (l01Abs_b _ _ _ Hq.out (by omega))))
              go_wp2_with fail
              go_ret
              exact ⟨ret_bool Hf.out.symm, by repeat' first | refine below_drewN ?_ _ | exact hB01⟩
            · have hfit := fit_ok Hru'.out hbad (.inr (by rw [Hq.out]; exact hstep))
              have Hfit := Lib.hid hfit; clear hfit
              generalize hLR : lastRun l k = lr at *
              have HLR := Lib.hid hLR; clear hLR
              have hdd : decide (m.e < 1) = false := decide_eq_false hbad
              have hds : decide (m.s < q) = false := decide_eq_false hstep
              go_wp2_with fail
              go_quiet (fail)
              go_wp2_with fail
              go_quiet ((go_at_call 132; first | exact quiet_same (l01Abs_b _ _ _ Hq.out (by omega)) | exact quiet_same0 (l01Abs_b _ _ _ Hq.out (by omega))))
              go_wp2_with fail
              go_roundw
              case rel => exact ⟨k + 1, _, by omega, by go_num, by rw [show lastRun l (k + 1) = runAt l k from rfl, Hru.out]; rfl, fun j hj => by
                by_cases e : j = k
                · subst e; exact Hfit.out
                · exact Hpre.out j (by omega), by first | rfl | simp only [World.drewN_drewN]⟩
              case measure => simp [intOf]; omega
    · obtain rfl : k = l.length := by omega
      have hfin : begins m l = true := begins_iff.2 Hpre.out
      have Hf := Lib.hid hfin; clear hfin
      generalize hLR : lastRun l l.length = lr at *
      have HLR := Lib.hid hLR; clear hLR
      go_wp2_with fail
      go_ret
      exact ⟨ret_bool Hf.out.symm, by repeat' first | refine below_drewN ?_ _ | exact hB01⟩
theorem l02Begins_b {S : Nat → Prop} (m : Mk) (v : Value) (l : List Int) (W : World) (r : Bool) (hr : begins m l = r) (h : V1 S W v l) (hlen : l.length ≤ 1000) (hrange : ∀ k, k < l.length → 0 ≤ geti l k ∧ geti l k ≤ 7) :
    Calls Try.prog 110 #[.agg #[.int .i64 m.c, .int .i64 m.d, .int .i64 m.s, .int .i64 m.e, .int .i64 m.l], v] W fun e' w' => e' = .returned (.bool r) ∧ Below W.heap.size W w' := by subst hr; exact l02Begins_any m v l W h hlen hrange
end Go.Proofs.Ytjkfgldmeenmjaa
