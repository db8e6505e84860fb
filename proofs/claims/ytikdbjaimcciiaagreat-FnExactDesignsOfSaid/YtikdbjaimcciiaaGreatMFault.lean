/- What the program and the reference answer on keys: the first rule that cuts do not keep. No conditions. -/
import Derived.Test.YtikdbjaimcciiaaGreatGen
import Derived.Test.YtikdbjaimcciiaaGreatClos
import Derived.Test.YtikdbjaimcciiaaGreatFrame
namespace Go.Proofs.YtikdbjaimcciiaaGreat
open Go.RowKit
set_option linter.unusedVariables false
set_option linter.unusedSimpArgs false

theorem absolute_any (x : Int) (W : World) (hx : -1000 ≤ x ∧ x ≤ 1000) :
    Calls Tryz.prog 217 #[.int .i64 x] W fun e' w' => e' = .returned (.int .i64 (absI x)) ∧ W = w' := by
  obtain ⟨h1, h2⟩ := hx
  go_enter Tryz.func217, Tryz.ntmps217
  go_wp2
  all_goals go_ret
  all_goals exact ⟨ret_int (by unfold absI; omega), rfl⟩
theorem l01Abs_any (x : Int) (W : World) (hx : -1000 ≤ x ∧ x ≤ 1000) :
    Calls Tryz.prog 237 #[.int .i64 x] W fun e' w' => e' = .returned (.int .i64 (absI x)) ∧ W = w' := by
  obtain ⟨h1, h2⟩ := hx
  go_enter Tryz.func237, Tryz.ntmps237
  go_wp2
  all_goals go_ret
  all_goals exact ⟨ret_int (by unfold absI; omega), rfl⟩

theorem idxR_stepi {g : Int → Bool} {l : List Int} {k : Nat} (h : k < l.length) : idxR g (l.drop k) k = if g (geti l k) then (k : Int) else idxR g (l.drop (k + 1)) (k + 1) := by
  rw [List.drop_eq_getElem_cons h, idxR, geti_eq h]
theorem slIndex_any {S : Nat → Prop} (v : Value) (l : List Int) (x : Int) (W : World) (h : V1 S W v l) :
    Calls Tryz.prog 211 #[v, .int .i64 x] W fun e' w' => e' = .returned (.int .i64 (idxR (fun y => decide (y = x)) l 0)) ∧ W = w' := by
  have hV := h
  obtain ⟨a, c, rfl, hm⟩ := h.form
  go_enter Tryz.func211, Tryz.ntmps211
  go_wp2_with fail
  go_loop [5, 8] (fun _ i => ∃ k : Nat, k ≤ l.length ∧ i = .int .i64 k ∧ idxR (fun y => decide (y = x)) l 0 = idxR (fun y => decide (y = x)) (l.drop k) k) (fun _ i => l.length - (intOf i).toNat)
  case atStart => exact ⟨0, Nat.zero_le _, rfl, rfl⟩
  case round =>
    obtain ⟨k, hk, rfl, hrem⟩ := hrel
    have Hr := Lib.hid hrem; clear hrem
    by_cases hkk : k < l.length
    · obtain ⟨b1, off1, rfl, _, hc1⟩ := hV.cell hkk
      by_cases he : geti l k = x
      · have e1 : (x == geti l k) = true := by simp [he]
        have E1 := Lib.hid (decide_eq_true he)
        have He := Lib.hid he; clear he
        go_wp2_with fail
        go_ret
        exact ⟨ret_int (by rw [Hr.out, idxR_stepi hkk, E1.out]; rfl), rfl⟩
      · have e1 : (x == geti l k) = false := by simp; exact fun e => he e.symm
        have E1 := Lib.hid (decide_eq_false he)
        have He := Lib.hid he; clear he
        go_wp2_with fail
        go_round
        case rel => exact ⟨k + 1, by omega, by go_num, by rw [Hr.out, idxR_stepi hkk, E1.out]; rfl⟩
        case measure => simp [intOf]; omega
    · have hd : l.drop k = [] := List.drop_of_length_le (by omega)
      have Hd := Lib.hid hd; clear hd
      go_wp2_with fail
      go_ret
      exact ⟨ret_int (by rw [Hr.out, Hd.out]; rfl), rfl⟩
theorem slContains_any {S : Nat → Prop} (v : Value) (l : List Int) (x : Int) (W : World) (h : V1 S W v l) :
    Calls Tryz.prog 160 #[v, .int .i64 x] W fun e' w' => e' = .returned (.bool (hasI l x)) ∧ W = w' := by
  have hfin := (idxR_any (fun y => decide (y = x)) l 0).1
  have Hfin := Lib.hid hfin; clear hfin
  go_enter Tryz.func160, Tryz.ntmps160
  go_wp2_with fail
  refine (slIndex_any _ _ _ _ h).mono ?_
  rintro e' w' ⟨rfl, rfl⟩
  go_wp2_with fail
  go_ret
  exact ⟨ret_bool (by rw [hasI, ← Hfin.out]), rfl⟩
theorem slContains_b {S : Nat → Prop} (v : Value) (l : List Int) (x : Int) (W : World) (r : Bool) (hr : hasI l x = r) (h : V1 S W v l) :
    Calls Tryz.prog 160 #[v, .int .i64 x] W fun e' w' => e' = .returned (.bool r) ∧ W = w' := by subst hr; exact slContains_any v l x W h

theorem hasI_step {l : List Int} {k : Nat} (h : k < l.length) (x : Int) : hasI (l.drop k) x = (decide (geti l k = x) || hasI (l.drop (k + 1)) x) := by
  unfold hasI; rw [any_step _ h, geti_eq h]
theorem l01Has_any {S : Nat → Prop} (v : Value) (l : List Int) (x : Int) (W : World) (h : V1 S W v l) :
    Calls Tryz.prog 161 #[v, .int .i64 x] W fun e' w' => e' = .returned (.bool (hasI l x)) ∧ W = w' := by
  have hV := h
  obtain ⟨a, c, rfl, hm⟩ := h.form
  go_enter Tryz.func161, Tryz.ntmps161
  go_wp2_with fail
  go_loop [5] (fun i => ∃ k : Nat, k ≤ l.length ∧ i = .int .i64 k ∧ hasI l x = hasI (l.drop k) x) (fun i => l.length - (intOf i).toNat)
  case atStart => exact ⟨0, Nat.zero_le _, rfl, rfl⟩
  case round =>
    obtain ⟨k, hk, rfl, hrem⟩ := hrel
    have Hr := Lib.hid hrem; clear hrem
    by_cases hkk : k < l.length
    · obtain ⟨b1, off1, rfl, _, hc1⟩ := hV.cell hkk
      by_cases he : geti l k = x
      · have e1 : (geti l k == x) = true := by simp [he]
        have E1 := Lib.hid (decide_eq_true he)
        have He := Lib.hid he; clear he
        go_wp2_with fail
        go_ret
        exact ⟨ret_bool (by rw [Hr.out, hasI_step hkk, E1.out]; rfl), rfl⟩
      · have e1 : (geti l k == x) = false := by simp [he]
        have E1 := Lib.hid (decide_eq_false he)
        have He := Lib.hid he; clear he
        go_wp2_with fail
        go_round
        case rel => exact ⟨k + 1, by omega, by go_num, by rw [Hr.out, hasI_step hkk, E1.out]; rfl⟩
        case measure => simp [intOf]; omega
    · have hd : l.drop k = [] := List.drop_of_length_le (by omega)
      have Hd := Lib.hid hd; clear hd
      go_wp2_with fail
      go_ret
      exact ⟨ret_bool (by rw [Hr.out, Hd.out]; rfl), rfl⟩
theorem l01Has_b {S : Nat → Prop} (v : Value) (l : List Int) (x : Int) (W : World) (r : Bool) (hr : hasI l x = r) (h : V1 S W v l) :
    Calls Tryz.prog 161 #[v, .int .i64 x] W fun e' w' => e' = .returned (.bool r) ∧ W = w' := by subst hr; exact l01Has_any v l x W h

theorem different_any {S : Nat → Prop} (v : Value) (l : List Int) (W : World) (h : V1 S W v l) :
    Calls Tryz.prog 219 #[v] W fun e' w' => e' = .returned (.int .i64 (kinds l)) ∧ W = w' := by
  have hV := h
  obtain ⟨a, c, rfl, hm⟩ := h.form
  go_enter Tryz.func219, Tryz.ntmps219
  go_wp2_with fail
  go_loop [3, 4, 5, 8] (fun s _ _ i => ∃ k : Nat, k ≤ l.length ∧ i = .int .i64 k ∧ s = .int .i64 (kindsTo l k)) (fun _ _ _ i => l.length - (intOf i).toNat)
  case atStart => exact ⟨0, Nat.zero_le _, rfl, rfl⟩
  case round =>
    obtain ⟨k, hk, rfl, rfl⟩ := hrel
    have hdl := kindsTo_le l k
    by_cases hkk : k < l.length
    · obtain ⟨b1, off1, rfl, _, hc1⟩ := hV.cell hkk
      have htk := hV.take (n := k) (by omega)
      have hcap := hV.cap
      cases hh : hasI (l.take k) (geti l k)
      · have HH := Lib.hid hh; clear hh
        go_wp2_with (go_at_call 160; refine (slContains_b _ _ _ _ _ HH.out htk).mono ?_; rintro e' w' ⟨rfl, rfl⟩)
        go_round
        case rel => exact ⟨k + 1, by omega, by go_num, by rw [kindsTo, if_neg (by rw [HH.out]; decide)]; go_num⟩
        case measure => simp [intOf]; omega
      · have HH := Lib.hid hh; clear hh
        go_wp2_with (go_at_call 160; refine (slContains_b _ _ _ _ _ HH.out htk).mono ?_; rintro e' w' ⟨rfl, rfl⟩)
        go_round
        case rel => exact ⟨k + 1, by omega, by go_num, by rw [kindsTo, if_pos HH.out]; rfl⟩
        case measure => simp [intOf]; omega
    · obtain rfl : k = l.length := by omega
      go_wp2_with fail
      go_ret
      exact ⟨rfl, rfl⟩
theorem l02Kinds_q {S : Nat → Prop} (v : Value) (l : List Int) (W : World) (h : V1 S W v l) :
    Calls Tryz.prog 205 #[v] W fun e' w' => e' = .returned (.int .i64 (kinds l)) ∧ ∃ n, w' = W.drewN n := by
  have hV := h
  obtain ⟨a, c, rfl, hm⟩ := h.form
  go_enter Tryz.func205, Tryz.ntmps205
  go_wp2_with fail
  go_loopw [3, 4] (fun s i wr => ∃ k n : Nat, k ≤ l.length ∧ i = .int .i64 k ∧ s = .int .i64 (kindsTo l k) ∧ wr = W.drewN n) (fun _ i _ => l.length - (intOf i).toNat)
  case atStart => exact ⟨0, 0, Nat.zero_le _, rfl, rfl, rfl⟩
  case round =>
    obtain ⟨k, n, hk, rfl, rfl, rfl⟩ := hrel
    have hdl := kindsTo_le l k
    by_cases hkk : k < l.length
    · obtain ⟨b1, off1, rfl, _, hc1⟩ := hV.cell hkk
      have htk := hV.take (n := k) (by omega)
      have hcap := hV.cap
      cases hh : hasI (l.take k) (geti l k)
      · have HH := Lib.hid hh; clear hh
        go_wp2_with fail
        go_quiet ((go_at_call 161; first | exact quiet_same (l01Has_b _ _ _ _ _ HH.out (V1.drewN htk)) | exact quiet_same0 (l01Has_b _ _ _ _ _ HH.out (V1.drewN htk))))
        go_wp2_with fail
        go_roundw
        case rel => exact ⟨k + 1, _, by omega, by go_num, by rw [kindsTo, if_neg (by rw [HH.out]; decide)]; go_num, by first | rfl | rw [World.drewN_drewN]⟩
        case measure => simp [intOf]; omega
      · have HH := Lib.hid hh; clear hh
        go_wp2_with fail
        go_quiet ((go_at_call 161; first | exact quiet_same (l01Has_b _ _ _ _ _ HH.out (V1.drewN htk)) | exact quiet_same0 (l01Has_b _ _ _ _ _ HH.out (V1.drewN htk))))
        go_wp2_with fail
        go_roundw
        case rel => exact ⟨k + 1, _, by omega, by go_num, by rw [kindsTo, if_pos HH.out]; rfl, by first | rfl | rw [World.drewN_drewN]⟩
        case measure => simp [intOf]; omega
    · obtain rfl : k = l.length := by omega
      go_wp2_with fail
      go_ret
      exact ⟨rfl, _, by first | rfl | rw [World.drewN_drewN]⟩
end Go.Proofs.YtikdbjaimcciiaaGreat

namespace Go.Proofs.YtikdbjaimcciiaaGreat
open Go.RowKit
set_option linter.unusedVariables false
set_option linter.unusedSimpArgs false

theorem sameRun_q {S : Nat → Prop} (v : Value) (l : List Int) (W : World) (h : V1 S W v l) (hn : 0 < l.length) :
    Calls Tryz.prog 218 #[v] W fun e' w' => e' = .returned (.int .i64 (runAt l (l.length - 1))) ∧ ∃ n, w' = W.drewN n := by
  have hV := h
  obtain ⟨a, c, rfl, hm⟩ := h.form
  go_enter Tryz.func218, Tryz.ntmps218
  go_wp2_with fail
  go_loopw [3] (fun i wr => ∃ r n : Nat, 1 ≤ r ∧ r ≤ l.length ∧ i = .int .i64 r ∧ (∀ j, j < r → geti l (l.length - 1 - j) = geti l (l.length - 1)) ∧ wr = W.drewN n) (fun i _ => l.length - (intOf i).toNat)
  case atStart => exact ⟨1, 0, Nat.le_refl _, by omega, rfl, fun j hj => by rw [show j = 0 from by omega, Nat.sub_zero], rfl⟩
  case round =>
    obtain ⟨r, n, hr1, hr2, rfl, hall, rfl⟩ := hrel
    have Hall := Lib.hid hall; clear hall
    by_cases hkk : r < l.length
    · obtain ⟨b1, off1, rfl, _, hc1⟩ := hV.cell (k := l.length - 1 - r) (by omega)
      obtain ⟨b2, off2, e2, _, hc2⟩ := hV.cell (k := l.length - 1) (by omega)
      simp only [Option.some.injEq, Addr.mk.injEq, and_true] at e2
      obtain ⟨rfl, rfl⟩ := e2
      by_cases he : geti l (l.length - 1 - r) = geti l (l.length - 1)
      · have e1 : (geti l (l.length - 1 - r) == geti l (l.length - 1)) = true := by simp [he]
        have He := Lib.hid he; clear he
        go_wp2_with fail
        go_quiet (fail)
        go_wp2_with fail
        go_roundw
        case rel => exact ⟨r + 1, _, by omega, by omega, by go_num, fun j hj => by
          by_cases e : j = r
          · subst e; exact He.out
          · exact Hall.out j (by omega), by first | rfl | rw [World.drewN_drewN]⟩
        case measure => simp [intOf]; omega
      · have e1 : (geti l (l.length - 1 - r) == geti l (l.length - 1)) = false := by simp [he]
        have hfin : runAt l (l.length - 1) = r := runAt_char _ _ hr1 (by omega) Hall.out (.inr he)
        have He := Lib.hid he; clear he
        have Hf := Lib.hid hfin; clear hfin
        go_wp2_with fail
        go_quiet (fail)
        go_wp2_with fail
        go_ret
        exact ⟨ret_int (by rw [Hf.out]), _, by first | rfl | rw [World.drewN_drewN]⟩
    · obtain rfl : r = l.length := by omega
      have hfin : runAt l (l.length - 1) = l.length := runAt_char _ _ hr1 (by omega) Hall.out (.inl (by omega))
      have Hf := Lib.hid hfin; clear hfin
      have hd : decide (l.length < l.length) = false := by simp
      go_wp2_with fail
      go_quiet (fail)
      go_wp2_with fail
      go_ret
      exact ⟨ret_int (by rw [Hf.out]), _, by first | rfl | rw [World.drewN_drewN]⟩
theorem sameRun_b {S : Nat → Prop} (v : Value) (l : List Int) (W : World) (r : Int) (hr : ((runAt l (l.length - 1) : Nat) : Int) = r) (h : V1 S W v l) (hn : 0 < l.length) :
    Calls Tryz.prog 218 #[v] W fun e' w' => e' = .returned (.int .i64 r) ∧ ∃ n, w' = W.drewN n := by subst hr; exact sameRun_q v l W h hn

theorem absolute_b (x q : Int) (W : World) (hq : absI x = q) (hx : -1000 ≤ x ∧ x ≤ 1000) :
    Calls Tryz.prog 217 #[.int .i64 x] W fun e' w' => e' = .returned (.int .i64 q) ∧ W = w' := by subst hq; exact absolute_any x W hx
theorem l01Abs_b (x q : Int) (W : World) (hq : absI x = q) (hx : -1000 ≤ x ∧ x ≤ 1000) :
    Calls Tryz.prog 237 #[.int .i64 x] W fun e' w' => e' = .returned (.int .i64 q) ∧ W = w' := by subst hq; exact l01Abs_any x W hx

theorem areCuts_any {S : Nat → Prop} (m : Mk) (v : Value) (l : List Int) (W : World) (hm : m.ok = true) (h : V1 S W v l) :
    Calls Tryz.prog 99 #[.agg #[.int .i64 m.c, .int .i64 m.d, .int .i64 m.s, .int .i64 m.e, .int .i64 m.l], v] W fun e' w' => e' = .returned (.bool (decide ((l.length : Int) = m.c) && allB l 0 (m.d - 1))) ∧ Below W.heap.size W w' := by
  have hk := (Mk.ok_iff.1 hm).2.1
  obtain ⟨hd1, hd2⟩ := hk
  clear hm
  have hV := h
  obtain ⟨a, c, rfl, hm⟩ := h.form
  obtain ⟨mc, md, ms, me, ml⟩ := m
  simp only at hd1 hd2
  by_cases hl : (l.length : Int) = mc
  · subst hl
    have hfin : (decide ((l.length : Int) = (l.length : Int)) && allB l 0 (md - 1)) = allB l 0 (md - 1) := by simp
    simp only [hfin]
    cases hb : allB l 0 (md - 1)
    · have Hb := Lib.hid hb; clear hb
      go_enter Tryz.func99, Tryz.ntmps99
      go_wp2_with (go_at_call 180; refine (allWithin_b _ _ _ _ _ _ Hb.out (hV.below ((Below.refl _ _).alloc (Nat.le_refl _) _))).mono ?_; rintro e' w' ⟨rfl, rfl⟩)
      go_ret
      exact ⟨rfl, by (repeat (first | (with_reducible refine Below.setCell ?_ ?_ _) | (with_reducible refine Below.alloc ?_ ?_ _) | (with_reducible refine Below.drew ?_) | (with_reducible refine below_drewN ?_ _) | (with_reducible exact Below.refl _ _) | (with_reducible assumption) | (with_reducible refine Below.trans ?_ (Below.mono (by with_reducible assumption) ?_)) | go_size))⟩
    · have Hb := Lib.hid hb; clear hb
      go_enter Tryz.func99, Tryz.ntmps99
      go_wp2_with (go_at_call 180; refine (allWithin_b _ _ _ _ _ _ Hb.out (hV.below ((Below.refl _ _).alloc (Nat.le_refl _) _))).mono ?_; rintro e' w' ⟨rfl, rfl⟩)
      go_ret
      exact ⟨rfl, by (repeat (first | (with_reducible refine Below.setCell ?_ ?_ _) | (with_reducible refine Below.alloc ?_ ?_ _) | (with_reducible refine Below.drew ?_) | (with_reducible refine below_drewN ?_ _) | (with_reducible exact Below.refl _ _) | (with_reducible assumption) | (with_reducible refine Below.trans ?_ (Below.mono (by with_reducible assumption) ?_)) | go_size))⟩
  · have hfin : (decide ((l.length : Int) = mc) && allB l 0 (md - 1)) = false := by rw [decide_eq_false hl]; rfl
    simp only [hfin]
    have e1 : ((l.length : Int) == mc) = false := by simp [hl]
    have Hf := Lib.hid hfin; clear hfin
    have Hl := Lib.hid hl; clear hl
    go_enter Tryz.func99, Tryz.ntmps99
    go_wp2_with fail
    go_ret
    exact ⟨rfl, by (repeat (first | (with_reducible refine Below.setCell ?_ ?_ _) | (with_reducible refine Below.alloc ?_ ?_ _) | (with_reducible refine Below.drew ?_) | (with_reducible refine below_drewN ?_ _) | (with_reducible exact Below.refl _ _) | (with_reducible assumption) | (with_reducible refine Below.trans ?_ (Below.mono (by with_reducible assumption) ?_)) | go_size))⟩
theorem areCuts_b {S : Nat → Prop} (m : Mk) (v : Value) (l : List Int) (W : World) (r : Bool) (hr : (decide ((l.length : Int) = m.c) && allB l 0 (m.d - 1)) = r) (hm : m.ok = true) (h : V1 S W v l) :
    Calls Tryz.prog 99 #[.agg #[.int .i64 m.c, .int .i64 m.d, .int .i64 m.s, .int .i64 m.e, .int .i64 m.l], v] W fun e' w' => e' = .returned (.bool r) ∧ Below W.heap.size W w' := by subst hr; exact areCuts_any m v l W hm h
end Go.Proofs.YtikdbjaimcciiaaGreat

namespace Go.Proofs.YtikdbjaimcciiaaGreat
open Go.RowKit
set_option linter.unusedVariables false
set_option linter.unusedSimpArgs false

theorem stepBad_succ {m : Mk} {l : List Int} {k : Nat} {q : Int} (hq : absI (geti l (k + 1) - geti l k) = q) : stepBad m l (k + 1) = decide (m.s < q) := by
  unfold stepBad
  rw [Nat.add_sub_cancel, hq]; simp
theorem stepBad_zero {m : Mk} {l : List Int} : stepBad m l 0 = false := by simp [stepBad]
theorem allB_mem {l : List Int} {lo hi : Int} (h : allB l lo hi = true) {k : Nat} (hk : k < l.length) : lo ≤ geti l k ∧ geti l k ≤ hi := allB_iff.1 h _ (geti_mem hk)

set_option maxRecDepth 100000 in
theorem keyFault_any {S : Nat → Prop} (m : Mk) (v : Value) (l : List Int) (W : World) (hm : m.ok = true) (h : V1 S W v l) :
    Calls Tryz.prog 172 #[.agg #[.int .i64 m.c, .int .i64 m.d, .int .i64 m.s, .int .i64 m.e, .int .i64 m.l], v] W fun e' w' => e' = .returned (.int .i64 (fault m l)) ∧ Below W.heap.size W w' := by
  have hV := h
  have hmk := Mk.ok_iff.1 hm
  obtain ⟨a, c, rfl, hmx⟩ := h.form
  obtain ⟨W1, hW1, hB01, hz01, HZ01, hc01, hh01⟩ := box_facts W #[.int .i64 m.c, .int .i64 m.d, .int .i64 m.s, .int .i64 m.e, .int .i64 m.l] 25
  have hV1 := hV.below hB01
  by_cases hl : (l.length : Int) = m.c
  · have hl' : decide ((l.length : Int) = m.c) = true := decide_eq_true hl
    have e1 : ((l.length : Int) != m.c) = false := by simp [hl]
    have e2 : ((l.length : Int) == m.c) = true := by simp [hl]
    cases hb : allB l 0 (m.d - 1)
    · have hfin : fault m l = 2 := fault2 hl hb
      have Hf := Lib.hid hfin; clear hfin
      have Hr := Lib.hid (show (decide ((l.length : Int) = m.c) && allB l 0 (m.d - 1)) = false by rw [hl', hb]; rfl)
      have Hb := Lib.hid hb; clear hb
      have Hl := Lib.hid hl; clear hl hl' hmk
      go_enter Tryz.func172, Tryz.ntmps172
      go_wp2_with fail
      rw [← hW1]
      go_wp2_with fail
      refine (areCuts_b m _ l _ _ Hr.out hm hV1).mono ?_; rintro e' w2 ⟨rfl, hb_w2⟩; have hB2 := (Below.refl W1.heap.size W1).trans (hb_w2.mono (Below.refl W1.heap.size W1).size)
      clear hc01 hh01
      go_wp2_with fail
      go_ret
      exact ⟨ret_int Hf.out.symm, hB01.trans (hB2.mono (by omega))⟩
    · have Hr := Lib.hid (show (decide ((l.length : Int) = m.c) && allB l 0 (m.d - 1)) = true by rw [hl', hb]; rfl)
      have hrange : ∀ k, k < l.length → 0 ≤ geti l k ∧ geti l k ≤ 7 := fun k hk => by have := allB_mem hb hk; omega
      have Hrange := Lib.hid hrange; clear hrange
      have Hb := Lib.hid hb; clear hb
      have Hl := Lib.hid hl; clear hl hl'
      have hlen : 1 ≤ l.length := by have := Hl.out; omega
      have hme : 0 ≤ m.e := by omega
      clear hmk
      go_enter Tryz.func172, Tryz.ntmps172
      go_wp2_with fail
      rw [← hW1]
      go_wp2_with fail
      refine (areCuts_b m _ l _ _ Hr.out hm hV1).mono ?_; rintro e' w2 ⟨rfl, hb_w2⟩; have hB2 := (Below.refl W1.heap.size W1).trans (hb_w2.mono (Below.refl W1.heap.size W1).size)
      have hx2 : ∀ o, (w2).cell? ⟨W.heap.size, o, none⟩ = (#[.int .i64 m.c, .int .i64 m.d, .int .i64 m.s, .int .i64 m.e, .int .i64 m.l] : Array Value)[o]? := fun o => by rw [(bcell hB2).1 _ _ hz01, hc01]
      clear hc01 hh01
      have hV2 := hV1.below hB2
      go_wp2_with fail
      go_loopw [5] (fun i wr => ∃ k n : Nat, k + 1 ≤ l.length ∧ i = .int .i64 ((k + 1 : Nat) : Int) ∧ (∀ j, j ≤ k → stepBad m l j = false) ∧ wr = w2.drewN n) (fun i _ => l.length - (intOf i).toNat)
      case atStart => exact ⟨0, 0, hlen, rfl, fun j hj => by rw [show j = 0 from by omega]; exact stepBad_zero, rfl⟩
      case round =>
        obtain ⟨k, n, hk, rfl, hpre, rfl⟩ := hrel
        have Hpre := Lib.hid hpre; clear hpre
        by_cases hkk : k + 1 < l.length
        · obtain ⟨b1, off1, rfl, _, hc1⟩ := hV2.cell hkk
          obtain ⟨b2, off2, e3, _, hc2⟩ := hV2.cell (k := k) (by omega)
          simp only [Option.some.injEq, Addr.mk.injEq, and_true] at e3
          obtain ⟨rfl, rfl⟩ := e3
          have hr1 := Hrange.out _ hkk
          have hr2 := Hrange.out k (by omega)
          obtain ⟨q, hq⟩ : ∃ q, absI (geti l (k + 1) - geti l k) = q := ⟨_, rfl⟩
          have hst := stepBad_succ (m := m) hq
          have hw : IntKind.i64.wrap (geti l (k + 1) - geti l k) = geti l (k + 1) - geti l k := IntWalk.i64_in _ (by omega)
          have Hst := Lib.hid hst; clear hst
          have Hq := Lib.hid hq; clear hq
          by_cases hbad : m.s < q
          · have hfin : fault m l = 3 := fault3 Hl.out Hb.out (any_range_mono hkk (by rw [Hst.out]; exact decide_eq_true hbad))
            have Hf := Lib.hid hfin; clear hfin
            go_wp2_with fail
            go_quiet ((go_at_call 217; first | exact quiet_same (absolute_b _ _ _ Hq.out (by omega)) | exact quiet_same0 (absolute_b _ _ _ Hq.out (by omega))))
            go_wp2_with fail
            go_ret
            exact ⟨ret_int Hf.out.symm, by repeat' first | refine below_drewN ?_ _ | exact hB01.trans (hB2.mono (by omega))⟩
          · have hd : decide (m.s < q) = false := decide_eq_false hbad
            go_wp2_with fail
            go_quiet ((go_at_call 217; first | exact quiet_same (absolute_b _ _ _ Hq.out (by omega)) | exact quiet_same0 (absolute_b _ _ _ Hq.out (by omega))))
            go_wp2_with fail
            go_roundw
            case rel => exact ⟨k + 1, _, by omega, by go_num, fun j hj => by
              by_cases e : j = k + 1
              · subst e; rw [Hst.out]; exact hd
              · exact Hpre.out j (by omega), by first | rfl | rw [World.drewN_drewN]⟩
            case measure => simp [intOf]; omega
        · have h3 : (List.range l.length).any (stepBad m l) = false := any_range_none fun j hj => Hpre.out j (by omega)
          have H3 := Lib.hid h3; clear h3
          rw [show ((k + 1 : Nat) : Int) = (l.length : Int) from by omega]
          go_wp2_with fail
          go_loopw [6, 38] (fun _ i wr => ∃ k n : Nat, k ≤ l.length ∧ i = .int .i64 (k : Int) ∧ (∀ j, j < k → runBad m l j = false) ∧ wr = w2.drewN n) (fun _ i _ => l.length - (intOf i).toNat)
          case atStart => exact ⟨0, _, Nat.zero_le _, rfl, fun j hj => by omega, rfl⟩
          case round =>
            obtain ⟨k2, n2, hk2, rfl, hpre2, rfl⟩ := hrel
            have Hpre2 := Lib.hid hpre2; clear hpre2
            by_cases hkk2 : k2 < l.length
            · have htk := hV2.take (n := k2 + 1) (by omega)
              have hcap := hV2.cap
              have hlt : (l.take (k2 + 1)).length = k2 + 1 := by simp; omega
              have hru : ((runAt (l.take (k2 + 1)) ((l.take (k2 + 1)).length - 1) : Nat) : Int) = (runAt l k2 : Int) := by rw [hlt, Nat.add_sub_cancel, runAt_take (by omega)]
              have hpos : 0 < (l.take (k2 + 1)).length := by omega
              have hbadd : runBad m l k2 = decide (m.e < (runAt l k2 : Int)) := rfl
              obtain ⟨r, hr⟩ : ∃ r : Int, (runAt l k2 : Int) = r := ⟨_, rfl⟩
              rw [hr] at hru hbadd
              have Hru := Lib.hid hru; clear hru
              have Hbadd := Lib.hid hbadd; clear hbadd hr
              have Hlt := Lib.hid hlt; clear hlt
              have Hpos := Lib.hid hpos; clear hpos
              by_cases hbad : m.e < r
              · have hfin : fault m l = 4 := fault4 Hl.out Hb.out H3.out (any_range_mono hkk2 (by rw [Hbadd.out]; exact decide_eq_true hbad))
                have Hf := Lib.hid hfin; clear hfin
                go_wp2_with fail
                go_quiet ((go_at_call 218; first | exact quiet_at (sameRun_b _ _ _ _ Hru.out (V1.drewN htk) Hpos.out) | exact quiet_at0 (sameRun_b _ _ _ _ Hru.out (V1.drewN htk) Hpos.out)))
                go_wp2_with fail
                go_ret
                exact ⟨ret_int Hf.out.symm, by repeat' first | refine below_drewN ?_ _ | exact hB01.trans (hB2.mono (by omega))⟩
              · have hd : decide (m.e < r) = false := decide_eq_false hbad
                go_wp2_with fail
                go_quiet ((go_at_call 218; first | exact quiet_at (sameRun_b _ _ _ _ Hru.out (V1.drewN htk) Hpos.out) | exact quiet_at0 (sameRun_b _ _ _ _ Hru.out (V1.drewN htk) Hpos.out)))
                go_wp2_with fail
                go_roundw
                case rel => exact ⟨k2 + 1, _, by omega, by go_num, fun j hj => by
                  by_cases e : j = k2
                  · subst e; rw [Hbadd.out]; exact hd
                  · exact Hpre2.out j (by omega), by first | rfl | rw [World.drewN_drewN]⟩
                case measure => simp [intOf]; omega
            · have h4 : (List.range l.length).any (runBad m l) = false := any_range_none fun j hj => Hpre2.out j (by omega)
              by_cases h5 : (kinds l : Int) < m.l
              · have hfin : fault m l = 5 := fault5 Hl.out Hb.out H3.out h4 h5
                have Hf := Lib.hid hfin; clear hfin h4
                go_wp2_with fail
                go_quiet ((go_at_call 219; first | exact quiet_same (different_any _ _ _ (V1.drewN hV2)) | exact quiet_same0 (different_any _ _ _ (V1.drewN hV2))))
                go_wp2_with fail
                go_ret
                exact ⟨ret_int Hf.out.symm, by repeat' first | refine below_drewN ?_ _ | exact hB01.trans (hB2.mono (by omega))⟩
              · have hfin : fault m l = 0 := fault0 Hl.out Hb.out H3.out h4 h5
                have Hf := Lib.hid hfin; clear hfin h4
                have hd : decide ((kinds l : Int) < m.l) = false := decide_eq_false h5
                go_wp2_with fail
                go_quiet ((go_at_call 219; first | exact quiet_same (different_any _ _ _ (V1.drewN hV2)) | exact quiet_same0 (different_any _ _ _ (V1.drewN hV2))))
                go_wp2_with fail
                go_ret
                exact ⟨ret_int Hf.out.symm, by repeat' first | refine below_drewN ?_ _ | exact hB01.trans (hB2.mono (by omega))⟩
  · have hfin : fault m l = 1 := fault1 hl
    have e1 : ((l.length : Int) != m.c) = true := by simp [hl]
    have Hf := Lib.hid hfin; clear hfin
    have Hl := Lib.hid hl; clear hl hmk
    go_enter Tryz.func172, Tryz.ntmps172
    go_wp2_with fail
    rw [← hW1]
    go_wp2_with fail
    go_ret
    exact ⟨ret_int Hf.out.symm, hB01⟩
theorem isKey_any {S : Nat → Prop} (m : Mk) (v : Value) (l : List Int) (W : World) (hm : m.ok = true) (h : V1 S W v l) :
    Calls Tryz.prog 90 #[.agg #[.int .i64 m.c, .int .i64 m.d, .int .i64 m.s, .int .i64 m.e, .int .i64 m.l], v] W fun e' w' => e' = .returned (.bool (isKeyB m l)) ∧ Below W.heap.size W w' := by
  have hV := h
  obtain ⟨a, c, rfl, hmx⟩ := h.form
  have hk : isKeyB m l = (fault m l == 0) := by unfold isKeyB; by_cases h0 : fault m l = 0 <;> simp [h0]
  have Hk := Lib.hid hk; clear hk
  obtain ⟨W1, hW1, hB01, hz01, HZ01, hc01, hh01⟩ := box_facts W #[.int .i64 m.c, .int .i64 m.d, .int .i64 m.s, .int .i64 m.e, .int .i64 m.l] 25
  go_enter Tryz.func90, Tryz.ntmps90
  go_wp2_with fail
  rw [← hW1]
  go_wp2_with fail
  refine (keyFault_any m _ l _ hm (hV.below hB01)).mono ?_; rintro e' w2 ⟨rfl, hb_w2⟩; have hB2 := (Below.refl W1.heap.size W1).trans (hb_w2.mono (Below.refl W1.heap.size W1).size)
  clear hc01 hh01
  go_wp2_with fail
  go_ret
  exact ⟨ret_bool (by rw [Hk.out]), hB01.trans (hB2.mono (by omega))⟩
theorem isKey_b {S : Nat → Prop} (m : Mk) (v : Value) (l : List Int) (W : World) (r : Bool) (hr : isKeyB m l = r) (hm : m.ok = true) (h : V1 S W v l) :
    Calls Tryz.prog 90 #[.agg #[.int .i64 m.c, .int .i64 m.d, .int .i64 m.s, .int .i64 m.e, .int .i64 m.l], v] W fun e' w' => e' = .returned (.bool r) ∧ Below W.heap.size W w' := by subst hr; exact isKey_any m v l W hm h
end Go.Proofs.YtikdbjaimcciiaaGreat

namespace Go.Proofs.YtikdbjaimcciiaaGreat
open Go.RowKit
set_option linter.unusedVariables false
set_option linter.unusedSimpArgs false

theorem l02Cuts_any {S : Nat → Prop} (m : Mk) (v : Value) (l : List Int) (W : World) (hm : m.ok = true) (h : V1 S W v l) :
    Calls Tryz.prog 238 #[.agg #[.int .i64 m.c, .int .i64 m.d, .int .i64 m.s, .int .i64 m.e, .int .i64 m.l], v] W fun e' w' => e' = .returned (.bool (allB l 0 (m.d - 1) && decide ((l.length : Int) = m.c))) ∧ Below W.heap.size W w' := by
  have hV := h
  obtain ⟨hd1, hd2⟩ := (Mk.ok_iff.1 hm).2.1
  clear hm
  obtain ⟨a, c, rfl, hmx⟩ := h.form
  obtain ⟨mc, md, ms, me, ml⟩ := m
  simp only at hd1 hd2
  have hw : IntKind.i64.wrap (md - 1) = md - 1 := IntWalk.i64_in _ (by omega)
  obtain ⟨W1, hW1, hB01, hz01, HZ01, hc01, hh01⟩ := box_facts W #[.int .i64 mc, .int .i64 md, .int .i64 ms, .int .i64 me, .int .i64 ml] 25
  have hV1 := hV.below hB01
  go_enter Tryz.func238, Tryz.ntmps238
  go_wp2_with fail
  rw [← hW1]
  have HW1 := Lib.hid hW1; clear hW1
  clear hh01
  go_wp2_with fail
  go_loopw [5] (fun i wr => ∃ k n : Nat, k ≤ l.length ∧ i = .int .i64 k ∧ allB l 0 (md - 1) = allB (l.drop k) 0 (md - 1) ∧ wr = W1.drewN n) (fun i _ => l.length - (intOf i).toNat)
  case atStart => exact ⟨0, 0, Nat.zero_le _, rfl, rfl, rfl⟩
  case round =>
    obtain ⟨k, n, hk, rfl, hrem, rfl⟩ := hrel
    have Hr := Lib.hid hrem; clear hrem
    by_cases hkk : k < l.length
    · obtain ⟨b1, off1, rfl, _, hc1⟩ := hV1.cell hkk
      cases hin : inB (geti l k) 0 (md - 1)
      · have E1 := Lib.hid hin; clear hin
        go_wp2_with fail
        go_quiet ((go_at_call 102; first | exact quiet_same (l01In_b _ _ _ _ _ E1.out) | exact quiet_same0 (l01In_b _ _ _ _ _ E1.out)))
        go_wp2_with fail
        go_ret
        exact ⟨ret_bool (by rw [Hr.out, allB_step hkk, E1.out]; rfl), by repeat' first | refine below_drewN ?_ _ | exact hB01⟩
      · have E1 := Lib.hid hin; clear hin
        go_wp2_with fail
        go_quiet ((go_at_call 102; first | exact quiet_same (l01In_b _ _ _ _ _ E1.out) | exact quiet_same0 (l01In_b _ _ _ _ _ E1.out)))
        go_wp2_with fail
        go_roundw
        case rel => exact ⟨k + 1, _, by omega, by go_num, by rw [Hr.out, allB_step hkk, E1.out]; rfl, by first | rfl | rw [World.drewN_drewN]⟩
        case measure => simp [intOf]; omega
    · have hd : l.drop k = [] := List.drop_of_length_le (by omega)
      have Hd := Lib.hid hd; clear hd
      by_cases hl : (l.length : Int) = mc
      · subst hl
        go_wp2_with fail
        go_ret
        exact ⟨ret_bool (by rw [Hr.out, Hd.out]; simp [allB]), by repeat' first | refine below_drewN ?_ _ | exact hB01⟩
      · have e1 : ((l.length : Int) == mc) = false := by simp [hl]
        have Hl := Lib.hid hl; clear hl
        go_wp2_with fail
        go_ret
        exact ⟨ret_bool (by rw [decide_eq_false Hl.out]; simp), by repeat' first | refine below_drewN ?_ _ | exact hB01⟩
theorem l02Cuts_b {S : Nat → Prop} (m : Mk) (v : Value) (l : List Int) (W : World) (r : Bool) (hr : (allB l 0 (m.d - 1) && decide ((l.length : Int) = m.c)) = r) (hm : m.ok = true) (h : V1 S W v l) :
    Calls Tryz.prog 238 #[.agg #[.int .i64 m.c, .int .i64 m.d, .int .i64 m.s, .int .i64 m.e, .int .i64 m.l], v] W fun e' w' => e' = .returned (.bool r) ∧ Below W.heap.size W w' := by subst hr; exact l02Cuts_any m v l W hm h

/-- What the reference's loop holds: the last run, and the longest one. -/
def lastRun (l : List Int) : Nat → Nat
  | 0 => 0
  | k + 1 => runAt l k
theorem lastRun_le (l : List Int) : ∀ k, lastRun l k ≤ k
  | 0 => Nat.le_refl _
  | k + 1 => runAt_le l k
theorem runAt_last {l : List Int} {k : Nat} (h : k = 0 ∨ geti l k = geti l (k - 1)) : runAt l k = lastRun l k + 1 := by
  cases k with
  | zero => rfl
  | succ k =>
    rcases h with h | h
    · cases h
    · rw [Nat.add_sub_cancel] at h
      rw [runAt, if_pos h]; rfl
theorem runAt_new {l : List Int} {k : Nat} (h0 : 0 < k) (h : geti l k ≠ geti l (k - 1)) : runAt l k = 1 := by
  cases k with
  | zero => omega
  | succ k => rw [Nat.add_sub_cancel] at h; rw [runAt, if_neg h]

set_option maxRecDepth 100000 in
theorem l02Fault_any {S : Nat → Prop} (m : Mk) (v : Value) (l : List Int) (W : World) (hm : m.ok = true) (h : V1 S W v l) :
    Calls Tryz.prog 224 #[.agg #[.int .i64 m.c, .int .i64 m.d, .int .i64 m.s, .int .i64 m.e, .int .i64 m.l], v] W fun e' w' => e' = .returned (.int .i64 (fault m l)) ∧ Below W.heap.size W w' := by
  have hV := h
  have hmk := Mk.ok_iff.1 hm
  obtain ⟨a, c, rfl, hmx⟩ := h.form
  obtain ⟨W1, hW1, hB01, hz01, HZ01, hc01, hh01⟩ := box_facts W #[.int .i64 m.c, .int .i64 m.d, .int .i64 m.s, .int .i64 m.e, .int .i64 m.l] 25
  have hV1 := hV.below hB01
  by_cases hl : (l.length : Int) = m.c
  · have hl' : decide ((l.length : Int) = m.c) = true := decide_eq_true hl
    have e1 : ((l.length : Int) != m.c) = false := by simp [hl]
    have e2 : ((l.length : Int) == m.c) = true := by simp [hl]
    cases hb : allB l 0 (m.d - 1)
    · have hfin : fault m l = 2 := fault2 hl hb
      have Hf := Lib.hid hfin; clear hfin
      have Hr := Lib.hid (show (allB l 0 (m.d - 1) && decide ((l.length : Int) = m.c)) = false by rw [hl', hb]; rfl)
      have Hb := Lib.hid hb; clear hb
      have Hl := Lib.hid hl; clear hl hl' hmk
      go_enter Tryz.func224, Tryz.ntmps224
      go_wp2_with fail
      rw [← hW1]
      go_wp2_with fail
      refine (l02Cuts_b m _ l _ _ Hr.out hm hV1).mono ?_; rintro e' w2 ⟨rfl, hb_w2⟩; have hB2 := (Below.refl W1.heap.size W1).trans (hb_w2.mono (Below.refl W1.heap.size W1).size)
      clear hc01 hh01
      go_wp2_with fail
      go_ret
      exact ⟨ret_int Hf.out.symm, hB01.trans (hB2.mono (by omega))⟩
    · have Hr := Lib.hid (show (allB l 0 (m.d - 1) && decide ((l.length : Int) = m.c)) = true by rw [hl', hb]; rfl)
      have hrange : ∀ k, k < l.length → 0 ≤ geti l k ∧ geti l k ≤ 7 := fun k hk => by have := allB_mem hb hk; omega
      have Hrange := Lib.hid hrange; clear hrange
      have Hb := Lib.hid hb; clear hb
      have Hl := Lib.hid hl; clear hl hl'
      have hlen : 1 ≤ l.length ∧ l.length ≤ 6 := by have := Hl.out; omega
      have hme : 0 ≤ m.e := by omega
      clear hmk
      go_enter Tryz.func224, Tryz.ntmps224
      go_wp2_with fail
      rw [← hW1]
      go_wp2_with fail
      refine (l02Cuts_b m _ l _ _ Hr.out hm hV1).mono ?_; rintro e' w2 ⟨rfl, hb_w2⟩; have hB2 := (Below.refl W1.heap.size W1).trans (hb_w2.mono (Below.refl W1.heap.size W1).size)
      have hx2 : ∀ o, (w2).cell? ⟨W.heap.size, o, none⟩ = (#[.int .i64 m.c, .int .i64 m.d, .int .i64 m.s, .int .i64 m.e, .int .i64 m.l] : Array Value)[o]? := fun o => by rw [(bcell hB2).1 _ _ hz01, hc01]
      clear hc01 hh01
      have hV2 := hV1.below hB2
      go_wp2_with fail
      go_loopw [5, 6, 7] (fun ru mo i wr => ∃ k n : Nat, k ≤ l.length ∧ i = .int .i64 (k : Int) ∧ ru = .int .i64 (lastRun l k : Int) ∧ mo = .int .i64 (mostRun l k : Int) ∧ (∀ j, j < k → stepBad m l j = false) ∧ wr = w2.drewN n) (fun _ _ i _ => l.length - (intOf i).toNat)
      case atStart => exact ⟨0, 0, Nat.zero_le _, rfl, rfl, rfl, fun j hj => by omega, rfl⟩
      case round =>
        obtain ⟨k, n, hk, rfl, rfl, rfl, hpre, rfl⟩ := hrel
        have Hpre := Lib.hid hpre; clear hpre
        have hlr := lastRun_le l k
        have hmr := mostRun_le l k
        by_cases hkk : k < l.length
        · obtain ⟨b1, off1, rfl, _, hc1⟩ := hV2.cell hkk
          have hr1 := Hrange.out _ hkk
          have hms : mostRun l (k + 1) = max (mostRun l k) (runAt l k) := rfl
          by_cases h0 : k = 0
          · have hst : stepBad m l k = false := by rw [h0]; exact stepBad_zero
            have hru : runAt l k = lastRun l k + 1 := runAt_last (.inl h0)
            have hd : decide (0 < k) = false := by simp [h0]
            have Hst := Lib.hid hst; clear hst
            have Hru := Lib.hid hru; clear hru
            have Hms := Lib.hid hms; clear hms
            have H0 := Lib.hid h0; clear h0
            generalize hLR : lastRun l k = lr at *
            generalize hMR : mostRun l k = mr at *
            have HLR := Lib.hid hLR; clear hLR
            have HMR := Lib.hid hMR; clear hMR
            go_wp2_with fail
            go_quiet (fail)
            go_wp2_with fail
            go_quiet (fail)
            go_wp2_with fail
            all_goals
              go_roundw
              case rel => exact ⟨k + 1, _, by omega, by go_num, by rw [show lastRun l (k + 1) = runAt l k from rfl, Hru.out]; go_num, by rw [Hms.out, Hru.out]; go_num, fun j hj => by
                by_cases e : j = k
                · subst e; exact Hst.out
                · exact Hpre.out j (by omega), by first | rfl | simp only [World.drewN_drewN]⟩
              case measure => simp [intOf]; omega
          · have h1 : 0 < k := by omega
            obtain ⟨b2, off2, e3, _, hc2⟩ := hV2.cell (k := k - 1) (by omega)
            simp only [Option.some.injEq, Addr.mk.injEq, and_true] at e3
            obtain ⟨rfl, rfl⟩ := e3
            have hr2 := Hrange.out (k - 1) (by omega)
            obtain ⟨q, hq⟩ : ∃ q, absI (geti l k - geti l (k - 1)) = q := ⟨_, rfl⟩
            have hst : stepBad m l k = decide (m.s < q) := by unfold stepBad; rw [hq]; simp [h1]
            have hw : IntKind.i64.wrap (geti l k - geti l (k - 1)) = geti l k - geti l (k - 1) := IntWalk.i64_in _ (by omega)
            have Hst := Lib.hid hst; clear hst
            have Hq := Lib.hid hq; clear hq
            have Hms := Lib.hid hms; clear hms
            by_cases hbad : m.s < q
            · have hfin : fault m l = 3 := fault3 Hl.out Hb.out (any_range_mono hkk (by rw [Hst.out]; exact decide_eq_true hbad))
              have Hf := Lib.hid hfin; clear hfin
              clear h0
              go_wp2_with fail
              go_quiet ((go_at_call 237; first | exact quiet_same (l01Abs_b _ _ _ Hq.out (by omega)) | exact quiet_same0 (l01Abs_b _ _ _ Hq.out (by omega))))
              go_wp2_with fail
              go_ret
              exact ⟨ret_int Hf.out.symm, by repeat' first | refine below_drewN ?_ _ | exact hB01.trans (hB2.mono (by omega))⟩
            · have hd : decide (m.s < q) = false := decide_eq_false hbad
              have Hbad := Lib.hid hd
              by_cases he : geti l k = geti l (k - 1)
              · have e4 : (geti l k != geti l (k - 1)) = false := by simp [he]
                have hru : runAt l k = lastRun l k + 1 := runAt_last (.inr he)
                have Hru := Lib.hid hru; clear hru
                have He := Lib.hid he; clear he h0
                generalize hLR : lastRun l k = lr at *
                generalize hMR : mostRun l k = mr at *
                have HLR := Lib.hid hLR; clear hLR
                have HMR := Lib.hid hMR; clear hMR
                go_wp2_with fail
                go_quiet ((go_at_call 237; first | exact quiet_same (l01Abs_b _ _ _ Hq.out (by omega)) | exact quiet_same0 (l01Abs_b _ _ _ Hq.out (by omega))))
                go_wp2_with fail
                go_quiet (fail)
                go_wp2_with fail
                all_goals
                  go_roundw
                  case rel => exact ⟨k + 1, _, by omega, by go_num, by rw [show lastRun l (k + 1) = runAt l k from rfl, Hru.out]; go_num, by rw [Hms.out, Hru.out]; go_num, fun j hj => by
                    by_cases e : j = k
                    · subst e; rw [Hst.out]; exact Hbad.out
                    · exact Hpre.out j (by omega), by first | rfl | simp only [World.drewN_drewN]⟩
                  case measure => simp [intOf]; omega
              · have e4 : (geti l k != geti l (k - 1)) = true := by simp [he]
                have hru : runAt l k = 1 := runAt_new h1 he
                have Hru := Lib.hid hru; clear hru
                have He := Lib.hid he; clear he h0
                generalize hLR : lastRun l k = lr at *
                generalize hMR : mostRun l k = mr at *
                have HLR := Lib.hid hLR; clear hLR
                have HMR := Lib.hid hMR; clear hMR
                go_wp2_with fail
                go_quiet ((go_at_call 237; first | exact quiet_same (l01Abs_b _ _ _ Hq.out (by omega)) | exact quiet_same0 (l01Abs_b _ _ _ Hq.out (by omega))))
                go_wp2_with fail
                go_quiet (fail)
                go_wp2_with fail
                all_goals
                  go_roundw
                  case rel => exact ⟨k + 1, _, by omega, by go_num, by rw [show lastRun l (k + 1) = runAt l k from rfl, Hru.out]; rfl, by rw [Hms.out, Hru.out]; go_num, fun j hj => by
                    by_cases e : j = k
                    · subst e; rw [Hst.out]; exact Hbad.out
                    · exact Hpre.out j (by omega), by first | rfl | simp only [World.drewN_drewN]⟩
                  case measure => simp [intOf]; omega
        · obtain rfl : k = l.length := by omega
          have h3 : (List.range l.length).any (stepBad m l) = false := any_range_none fun j hj => Hpre.out j (by omega)
          have hmb := mostRun_bad (m := m) (l := l) l.length hme
          by_cases h4 : m.e < (mostRun l l.length : Int)
          · have hfin : fault m l = 4 := fault4 Hl.out Hb.out h3 (hmb.1 h4)
            have Hf := Lib.hid hfin; clear hfin h3 hmb
            generalize hLR : lastRun l l.length = lr at *
            generalize hMR : mostRun l l.length = mr at *
            have HLR := Lib.hid hLR; clear hLR
            have HMR := Lib.hid hMR; clear hMR
            go_wp2_with fail
            go_ret
            exact ⟨ret_int Hf.out.symm, by repeat' first | refine below_drewN ?_ _ | exact hB01.trans (hB2.mono (by omega))⟩
          · have h4' : (List.range l.length).any (runBad m l) = false := by
              rw [← Bool.not_eq_true, ← hmb]; exact h4
            have hd4 : decide (m.e < (mostRun l l.length : Int)) = false := decide_eq_false h4
            by_cases h5 : (kinds l : Int) < m.l
            · have hfin : fault m l = 5 := fault5 Hl.out Hb.out h3 h4' h5
              have Hf := Lib.hid hfin; clear hfin h3 h4' hmb
              generalize hLR : lastRun l l.length = lr at *
              generalize hMR : mostRun l l.length = mr at *
              have HLR := Lib.hid hLR; clear hLR
              have HMR := Lib.hid hMR; clear hMR
              go_wp2_with fail
              go_quiet ((go_at_call 205; first | exact quiet_at (l02Kinds_q _ _ _ (V1.drewN hV2)) | exact quiet_at0 (l02Kinds_q _ _ _ (V1.drewN hV2))))
              go_wp2_with fail
              go_ret
              exact ⟨ret_int Hf.out.symm, by repeat' first | refine below_drewN ?_ _ | exact hB01.trans (hB2.mono (by omega))⟩
            · have hfin : fault m l = 0 := fault0 Hl.out Hb.out h3 h4' h5
              have hd : decide ((kinds l : Int) < m.l) = false := decide_eq_false h5
              have Hf := Lib.hid hfin; clear hfin h3 h4' hmb
              generalize hLR : lastRun l l.length = lr at *
              generalize hMR : mostRun l l.length = mr at *
              have HLR := Lib.hid hLR; clear hLR
              have HMR := Lib.hid hMR; clear hMR
              go_wp2_with fail
              go_quiet ((go_at_call 205; first | exact quiet_at (l02Kinds_q _ _ _ (V1.drewN hV2)) | exact quiet_at0 (l02Kinds_q _ _ _ (V1.drewN hV2))))
              go_wp2_with fail
              go_ret
              exact ⟨ret_int Hf.out.symm, by repeat' first | refine below_drewN ?_ _ | exact hB01.trans (hB2.mono (by omega))⟩
  · have hfin : fault m l = 1 := fault1 hl
    have e1 : ((l.length : Int) != m.c) = true := by simp [hl]
    have Hf := Lib.hid hfin; clear hfin
    have Hl := Lib.hid hl; clear hl hmk
    go_enter Tryz.func224, Tryz.ntmps224
    go_wp2_with fail
    rw [← hW1]
    go_wp2_with fail
    go_ret
    exact ⟨ret_int Hf.out.symm, hB01⟩
end Go.Proofs.YtikdbjaimcciiaaGreat
