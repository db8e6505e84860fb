/- What the program and the reference answer on keys: the first rule that cuts do not keep. No conditions. -/
import Derived.Test.YtlfnadmbelngeaaGen
import Derived.Test.YtlfnadmbelngeaaClos
import Derived.Test.YtlfnadmbelngeaaFrame
namespace Go.Proofs.Ytlfnadmbelngeaa
open Go.RowKit
set_option linter.unusedVariables false
set_option linter.unusedSimpArgs false

theorem absolute_any (x : Int) (W : World) (hx : -1000 ≤ x ∧ x ≤ 1000) :
    Calls Try.prog 87 #[.int .i64 x] W fun e' w' => e' = .returned (.int .i64 (absI x)) ∧ W = w' := by
  obtain ⟨h1, h2⟩ := hx
  go_enter Try.func87, Try.ntmps87
  go_wp2
  all_goals go_ret
  all_goals exact ⟨ret_int (by unfold absI; omega), rfl⟩
theorem l01Abs_any (x : Int) (W : World) (hx : -1000 ≤ x ∧ x ≤ 1000) :
    Calls Try.prog 93 #[.int .i64 x] W fun e' w' => e' = .returned (.int .i64 (absI x)) ∧ W = w' := by
  obtain ⟨h1, h2⟩ := hx
  go_enter Try.func93, Try.ntmps93
  go_wp2
  all_goals go_ret
  all_goals exact ⟨ret_int (by unfold absI; omega), rfl⟩

theorem idxR_stepi {g : Int → Bool} {l : List Int} {k : Nat} (h : k < l.length) : idxR g (l.drop k) k = if g (geti l k) then (k : Int) else idxR g (l.drop (k + 1)) (k + 1) := by
  rw [List.drop_eq_getElem_cons h, idxR, geti_eq h]
theorem slIndex_any {S : Nat → Prop} (v : Value) (l : List Int) (x : Int) (W : World) (h : V1 S W v l) :
    Calls Try.prog 113 #[v, .int .i64 x] W fun e' w' => e' = .returned (.int .i64 (idxR (fun y => decide (y = x)) l 0)) ∧ W = w' := by
  have hV := h
  obtain ⟨a, c, rfl, hm⟩ := h.form
  go_enter Try.func113, Try.ntmps113
  go_wp2_with fail
  go_loop [5, 8] (fun _ i => ∃ k : Nat, k ≤ l.length ∧ i = .int .i64 k ∧ idxR (fun y => decide (y = x)) l 0 = idxR (fun y => decide (y = x)) (l.drop k) k) (fun _ i => l.length - (intOf i).toNat)
  case atStart => exact ⟨0, Nat.zero_le _, rfl, rfl⟩
  case round =>
    obtain ⟨k, hk, rfl, hrem⟩ := hrel
    have Hr := Lib.hid hrem; clear hrem
    by_cases hkk : k < l.length
    · obtain ⟨b1, off1, rfl, _, hc1⟩ := hV.cell hkk
      by_cases he : geti l k = x
      · have e1 : (x == geti l k) = true := by simp [he]
        have E1 := Lib.hid (decide_eq_true he)
        have He := Lib.hid he; clear he
        go_wp2_with fail
        go_ret
        exact ⟨ret_int (by rw [Hr.out, idxR_stepi hkk, E1.out]; rfl), rfl⟩
      · have e1 : (x == geti l k) = false := by simp; exact fun e => he e.symm
        have E1 := Lib.hid (decide_eq_false he)
        have He := Lib.hid he; clear he
        go_wp2_with fail
        go_round
        case rel => exact ⟨k + 1, by omega, by go_num, by rw [Hr.out, idxR_stepi hkk, E1.out]; rfl⟩
        case measure => simp [intOf]; omega
    · have hd : l.drop k = [] := List.drop_of_length_le (by omega)
      have Hd := Lib.hid hd; clear hd
      go_wp2_with fail
      go_ret
      exact ⟨ret_int (by rw [Hr.out, Hd.out]; rfl), rfl⟩
theorem slContains_any {S : Nat → Prop} (v : Value) (l : List Int) (x : Int) (W : World) (h : V1 S W v l) :
    Calls Try.prog 105 #[v, .int .i64 x] W fun e' w' => e' = .returned (.bool (hasI l x)) ∧ W = w' := by
  have hfin := (idxR_any (fun y => decide (y = x)) l 0).1
  have Hfin := Lib.hid hfin; clear hfin
  go_enter Try.func105, Try.ntmps105
  go_wp2_with fail
  refine (slIndex_any _ _ _ _ h).mono ?_
  rintro e' w' ⟨rfl, rfl⟩
  go_wp2_with fail
  go_ret
  exact ⟨ret_bool (by rw [hasI, ← Hfin.out]), rfl⟩
theorem slContains_b {S : Nat → Prop} (v : Value) (l : List Int) (x : Int) (W : World) (r : Bool) (hr : hasI l x = r) (h : V1 S W v l) :
    Calls Try.prog 105 #[v, .int .i64 x] W fun e' w' => e' = .returned (.bool r) ∧ W = w' := by subst hr; exact slContains_any v l x W h

theorem hasI_step {l : List Int} {k : Nat} (h : k < l.length) (x : Int) : hasI (l.drop k) x = (decide (geti l k = x) || hasI (l.drop (k + 1)) x) := by
  unfold hasI; rw [any_step _ h, geti_eq h]
theorem l01Has_any {S : Nat → Prop} (v : Value) (l : List Int) (x : Int) (W : World) (h : V1 S W v l) :
    Calls Try.prog 95 #[v, .int .i64 x] W fun e' w' => e' = .returned (.bool (hasI l x)) ∧ W = w' := by
  have hV := h
  obtain ⟨a, c, rfl, hm⟩ := h.form
  go_enter Try.func95, Try.ntmps95
  go_wp2_with fail
  go_loop [5] (fun i => ∃ k : Nat, k ≤ l.length ∧ i = .int .i64 k ∧ hasI l x = hasI (l.drop k) x) (fun i => l.length - (intOf i).toNat)
  case atStart => exact ⟨0, Nat.zero_le _, rfl, rfl⟩
  case round =>
    obtain ⟨k, hk, rfl, hrem⟩ := hrel
    have Hr := Lib.hid hrem; clear hrem
    by_cases hkk : k < l.length
    · obtain ⟨b1, off1, rfl, _, hc1⟩ := hV.cell hkk
      by_cases he : geti l k = x
      · have e1 : (geti l k == x) = true := by simp [he]
        have E1 := Lib.hid (decide_eq_true he)
        have He := Lib.hid he; clear he
        go_wp2_with fail
        go_ret
        exact ⟨ret_bool (by rw [Hr.out, hasI_step hkk, E1.out]; rfl), rfl⟩
      · have e1 : (geti l k == x) = false := by simp [he]
        have E1 := Lib.hid (decide_eq_false he)
        have He := Lib.hid he; clear he
        go_wp2_with fail
        go_round
        case rel => exact ⟨k + 1, by omega, by go_num, by rw [Hr.out, hasI_step hkk, E1.out]; rfl⟩
        case measure => simp [intOf]; omega
    · have hd : l.drop k = [] := List.drop_of_length_le (by omega)
      have Hd := Lib.hid hd; clear hd
      go_wp2_with fail
      go_ret
      exact ⟨ret_bool (by rw [Hr.out, Hd.out]; rfl), rfl⟩
theorem l01Has_b {S : Nat → Prop} (v : Value) (l : List Int) (x : Int) (W : World) (r : Bool) (hr : hasI l x = r) (h : V1 S W v l) :
    Calls Try.prog 95 #[v, .int .i64 x] W fun e' w' => e' = .returned (.bool r) ∧ W = w' := by subst hr; exact l01Has_any v l x W h

theorem different_any {S : Nat → Prop} (v : Value) (l : List Int) (W : World) (h : V1 S W v l) :
    Calls Try.prog 86 #[v] W fun e' w' => e' = .returned (.int .i64 (kinds l)) ∧ W = w' := by
  have hV := h
  obtain ⟨a, c, rfl, hm⟩ := h.form
  go_enter Try.func86, Try.ntmps86
  go_wp2_with fail
  go_loop [3, 4, 5, 8] (fun s _ _ i => ∃ k : Nat, k ≤ l.length ∧ i = .int .i64 k ∧ s = .int .i64 (kindsTo l k)) (fun _ _ _ i => l.length - (intOf i).toNat)
  case atStart => exact ⟨0, Nat.zero_le _, rfl, rfl⟩
  case round =>
    obtain ⟨k, hk, rfl, rfl⟩ := hrel
    have hdl := kindsTo_le l k
    by_cases hkk : k < l.length
    · obtain ⟨b1, off1, rfl, _, hc1⟩ := hV.cell hkk
      have htk := hV.take (n := k) (by omega)
      have hcap := hV.cap
      cases hh : hasI (l.take k) (geti l k)
      · have HH := Lib.hid hh; clear hh
        go_wp2_with (go_at_call 105; refine (slContains_b _ _ _ _ _ HH.out htk).mono ?_; rintro e' w' ⟨rfl, rfl⟩)
        go_round
        case rel => exact ⟨k + 1, by omega, by go_num, by rw [kindsTo, if_neg (by rw [HH.out]; decide)]; go_num⟩
        case measure => simp [intOf]; omega
      · have HH := Lib.hid hh; clear hh
        go_wp2_with (go_at_call 105; refine (slContains_b _ _ _ _ _ HH.out htk).mono ?_; rintro e' w' ⟨rfl, rfl⟩)
        go_round
        case rel => exact ⟨k + 1, by omega, by go_num, by rw [kindsTo, if_pos HH.out]; rfl⟩
        case measure => simp [intOf]; omega
    · obtain rfl : k = l.length := by omega
      go_wp2_with fail
      go_ret
      exact ⟨rfl, rfl⟩
theorem l02Kinds_q {S : Nat → Prop} (v : Value) (l : List Int) (W : World) (h : V1 S W v l) :
    Calls Try.prog 94 #[v] W fun e' w' => e' = .returned (.int .i64 (kinds l)) ∧ ∃ n, w' = W.drewN n := by
  have hV := h
  obtain ⟨a, c, rfl, hm⟩ := h.form
  go_enter Try.func94, Try.ntmps94
  go_wp2_with fail
  go_loopw [3, 4] (fun s i wr => ∃ k n : Nat, k ≤ l.length ∧ i = .int .i64 k ∧ s = .int .i64 (kindsTo l k) ∧ wr = W.drewN n) (fun _ i _ => l.length - (intOf i).toNat)
  case atStart => exact ⟨0, 0, Nat.zero_le _, rfl, rfl, rfl⟩
  case round =>
    obtain ⟨k, n, hk, rfl, rfl, rfl⟩ := hrel
    have hdl := kindsTo_le l k
    by_cases hkk : k < l.length
    · obtain ⟨b1, off1, rfl, _, hc1⟩ := hV.cell hkk
      have htk := hV.take (n := k) (by omega)
      have hcap := hV.cap
      cases hh : hasI (l.take k) (geti l k)
      · have HH := Lib.hid hh; clear hh
        go_wp2_with fail
        go_quiet ((go_at_call 95; first | exact quiet_same (l01Has_b _ _ _ _ _ HH.out (V1.drewN htk)) | exact quiet_same0 (l01Has_b _ _ _ _ _ HH.out (V1.drewN htk))))
        go_wp2_with fail
        go_roundw
        case rel => exact ⟨k + 1, _, by omega, by go_num, by rw [kindsTo, if_neg (by rw [HH.out]; decide)]; go_num, by first | rfl | rw [World.drewN_drewN]⟩
        case measure => simp [intOf]; omega
      · have HH := Lib.hid hh; clear hh
        go_wp2_with fail
        go_quiet ((go_at_call 95; first | exact quiet_same (l01Has_b _ _ _ _ _ HH.out (V1.drewN htk)) | exact quiet_same0 (l01Has_b _ _ _ _ _ HH.out (V1.drewN htk))))
        go_wp2_with fail
        go_roundw
        case rel => exact ⟨k + 1, _, by omega, by go_num, by rw [kindsTo, if_pos HH.out]; rfl, by first | rfl | rw [World.drewN_drewN]⟩
        case measure => simp [intOf]; omega
    · obtain rfl : k = l.length := by omega
      go_wp2_with fail
      go_ret
      exact ⟨rfl, _, by first | rfl | rw [World.drewN_drewN]⟩
end Go.Proofs.Ytlfnadmbelngeaa
