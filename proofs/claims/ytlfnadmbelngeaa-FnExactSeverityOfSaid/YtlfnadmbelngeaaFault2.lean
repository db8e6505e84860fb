/- What the program and the reference answer on keys: the fault of a key. No conditions. -/
import Derived.Test.YtlfnadmbelngeaaFault
namespace Go.Proofs.Ytlfnadmbelngeaa
open Go.RowKit
set_option linter.unusedVariables false
set_option linter.unusedSimpArgs false

theorem sameRun_q {S : Nat → Prop} (v : Value) (l : List Int) (W : World) (h : V1 S W v l) (hn : 0 < l.length) :
    Calls Try.prog 88 #[v] W fun e' w' => e' = .returned (.int .i64 (runAt l (l.length - 1))) ∧ ∃ n, w' = W.drewN n := by
  have hV := h
  obtain ⟨a, c, rfl, hm⟩ := h.form
  go_enter Try.func88, Try.ntmps88
  go_wp2_with fail
  go_loopw [3] (fun i wr => ∃ r n : Nat, 1 ≤ r ∧ r ≤ l.length ∧ i = .int .i64 r ∧ (∀ j, j < r → geti l (l.length - 1 - j) = geti l (l.length - 1)) ∧ wr = W.drewN n) (fun i _ => l.length - (intOf i).toNat)
  case atStart => exact ⟨1, 0, Nat.le_refl _, by omega, rfl, fun j hj => by rw [show j = 0 from by omega, Nat.sub_zero], rfl⟩
  case round =>
    obtain ⟨r, n, hr1, hr2, rfl, hall, rfl⟩ := hrel
    have Hall := Lib.hid hall; clear hall
    by_cases hkk : r < l.length
    · obtain ⟨b1, off1, rfl, _, hc1⟩ := hV.cell (k := l.length - 1 - r) (by omega)
      obtain ⟨b2, off2, e2, _, hc2⟩ := hV.cell (k := l.length - 1) (by omega)
      simp only [Option.some.injEq, Addr.mk.injEq, and_true] at e2
      obtain ⟨rfl, rfl⟩ := e2
      by_cases he : geti l (l.length - 1 - r) = geti l (l.length - 1)
      · have e1 : (geti l (l.length - 1 - r) == geti l (l.length - 1)) = true := by simp [he]
        have He := Lib.hid he; clear he
        go_wp2_with fail
        go_quiet (fail)
        go_wp2_with fail
        go_roundw
        case rel => exact ⟨r + 1, _, by omega, by omega, by go_num, fun j hj => by
          by_cases e : j = r
          · subst e; exact He.out
          · exact Hall.out j (by omega), by first | rfl | rw [World.drewN_drewN]⟩
        case measure => simp [intOf]; omega
      · have e1 : (geti l (l.length - 1 - r) == geti l (l.length - 1)) = false := by simp [he]
        have hfin : runAt l (l.length - 1) = r := runAt_char _ _ hr1 (by omega) Hall.out (.inr he)
        have He := Lib.hid he; clear he
        have Hf := Lib.hid hfin; clear hfin
        go_wp2_with fail
        go_quiet (fail)
        go_wp2_with fail
        go_ret
        exact ⟨ret_int (by rw [Hf.out]), _, by first | rfl | rw [World.drewN_drewN]⟩
    · obtain rfl : r = l.length := by omega
      have hfin : runAt l (l.length - 1) = l.length := runAt_char _ _ hr1 (by omega) Hall.out (.inl (by omega))
      have Hf := Lib.hid hfin; clear hfin
      have hd : decide (l.length < l.length) = false := by simp
      go_wp2_with fail
      go_quiet (fail)
      go_wp2_with fail
      go_ret
      exact ⟨ret_int (by rw [Hf.out]), _, by first | rfl | rw [World.drewN_drewN]⟩
theorem sameRun_b {S : Nat → Prop} (v : Value) (l : List Int) (W : World) (r : Int) (hr : ((runAt l (l.length - 1) : Nat) : Int) = r) (h : V1 S W v l) (hn : 0 < l.length) :
    Calls Try.prog 88 #[v] W fun e' w' => e' = .returned (.int .i64 r) ∧ ∃ n, w' = W.drewN n := by subst hr; exact sameRun_q v l W h hn

theorem absolute_b (x q : Int) (W : World) (hq : absI x = q) (hx : -1000 ≤ x ∧ x ≤ 1000) :
    Calls Try.prog 87 #[.int .i64 x] W fun e' w' => e' = .returned (.int .i64 q) ∧ W = w' := by subst hq; exact absolute_any x W hx
theorem l01Abs_b (x q : Int) (W : World) (hq : absI x = q) (hx : -1000 ≤ x ∧ x ≤ 1000) :
    Calls Try.prog 93 #[.int .i64 x] W fun e' w' => e' = .returned (.int .i64 q) ∧ W = w' := by subst hq; exact l01Abs_any x W hx

theorem areCuts_any {S : Nat → Prop} (m : Mk) (v : Value) (l : List Int) (W : World) (hm : m.ok = true) (h : V1 S W v l) :
    Calls Try.prog 108 #[.agg #[.int .i64 m.c, .int .i64 m.d, .int .i64 m.s, .int .i64 m.e, .int .i64 m.l], v] W fun e' w' => e' = .returned (.bool (decide ((l.length : Int) = m.c) && allB l 0 (m.d - 1))) ∧ Below W.heap.size W w' := by
  have hk := (Mk.ok_iff.1 hm).2.1
  obtain ⟨hd1, hd2⟩ := hk
  clear hm
  have hV := h
  obtain ⟨a, c, rfl, hm⟩ := h.form
  obtain ⟨mc, md, ms, me, ml⟩ := m
  simp only at hd1 hd2
  by_cases hl : (l.length : Int) = mc
  · subst hl
    have hfin : (decide ((l.length : Int) = (l.length : Int)) && allB l 0 (md - 1)) = allB l 0 (md - 1) := by simp
    simp only [hfin]
    cases hb : allB l 0 (md - 1)
    · have Hb := Lib.hid hb; clear hb
      go_enter Try.func108, Try.ntmps108
      go_wp2_with (go_at_call 116; refine (allWithin_b _ _ _ _ _ _ Hb.out (hV.below ((Below.refl _ _).alloc (Nat.le_refl _) _))).mono ?_; rintro e' w' ⟨rfl, rfl⟩)
      go_ret
      exact ⟨rfl, by (repeat (first | (with_reducible refine Below.setCell ?_ ?_ _) | (with_reducible refine Below.alloc ?_ ?_ _) | (with_reducible refine Below.drew ?_) | (with_reducible refine below_drewN ?_ _) | (with_reducible exact Below.refl _ _) | (with_reducible assumption) | (with_reducible refine Below.trans ?_ (Below.mono (by with_reducible assumption) ?_)) | go_size))⟩
    · have Hb := Lib.hid hb; clear hb
      go_enter Try.func108, Try.ntmps108
      go_wp2_with (go_at_call 116; refine (allWithin_b _ _ _ _ _ _ Hb.out (hV.below ((Below.refl _ _).alloc (Nat.le_refl _) _))).mono ?_; rintro e' w' ⟨rfl, rfl⟩)
      go_ret
      exact ⟨rfl, by (repeat (first | (with_reducible refine Below.setCell ?_ ?_ _) | (with_reducible refine Below.alloc ?_ ?_ _) | (with_reducible refine Below.drew ?_) | (with_reducible refine below_drewN ?_ _) | (with_reducible exact Below.refl _ _) | (with_reducible assumption) | (with_reducible refine Below.trans ?_ (Below.mono (by with_reducible assumption) ?_)) | go_size))⟩
  · have hfin : (decide ((l.length : Int) = mc) && allB l 0 (md - 1)) = false := by rw [decide_eq_false hl]; rfl
    simp only [hfin]
    have e1 : ((l.length : Int) == mc) = false := by simp [hl]
    have Hf := Lib.hid hfin; clear hfin
    have Hl := Lib.hid hl; clear hl
    go_enter Try.func108, Try.ntmps108
    go_wp2_with fail
    go_ret
    exact ⟨rfl, by (repeat (first | (with_reducible refine Below.setCell ?_ ?_ _) | (with_reducible refine Below.alloc ?_ ?_ _) | (with_reducible refine Below.drew ?_) | (with_reducible refine below_drewN ?_ _) | (with_reducible exact Below.refl _ _) | (with_reducible assumption) | (with_reducible refine Below.trans ?_ (Below.mono (by with_reducible assumption) ?_)) | go_size))⟩
theorem areCuts_b {S : Nat → Prop} (m : Mk) (v : Value) (l : List Int) (W : World) (r : Bool) (hr : (decide ((l.length : Int) = m.c) && allB l 0 (m.d - 1)) = r) (hm : m.ok = true) (h : V1 S W v l) :
    Calls Try.prog 108 #[.agg #[.int .i64 m.c, .int .i64 m.d, .int .i64 m.s, .int .i64 m.e, .int .i64 m.l], v] W fun e' w' => e' = .returned (.bool r) ∧ Below W.heap.size W w' := by subst hr; exact areCuts_any m v l W hm h
end Go.Proofs.Ytlfnadmbelngeaa
