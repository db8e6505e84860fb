/- The longest chain, as the reference finds it. No conditions. -/
import Derived.Test.YtcdgechaehljgaaChain
import Derived.Test.YtcdgechaehljgaaTable
import Derived.Test.YtcdgechaehljgaaSys
namespace Go.Proofs.Ytcdgechaehljgaa
open Go.RowKit
set_option linter.unusedVariables false
set_option linter.unusedSimpArgs false

theorem inTo_false {a b : List Int} {k : Nat} (h : ¬ geti a k ≤ geti b k) : ∀ {n}, k < n → inTo a b n = false
  | 0, hk => by omega
  | n + 1, hk => by
    unfold inTo
    by_cases e : k = n
    · subst e; rw [decide_eq_false h, Bool.and_false]
    · rw [inTo_false h (by omega), Bool.false_and]
theorem l11In_q {S S' : Nat → Prop} (va vb : Value) (a b : List Int) (W : World) (ha : V1 S W va a) (hb : V1 S' W vb b) (hl : a.length = b.length) :
    Calls Try.prog 127 #[va, vb] W fun e' w' => e' = .returned (.bool (inR a b)) ∧ ∃ n, w' = W.drewN n := by
  have hA := ha
  have hB := hb
  obtain ⟨pa, ca, rfl, hma⟩ := ha.form
  obtain ⟨pb, cb, rfl, hmb⟩ := hb.form
  obtain ⟨r, hr⟩ : ∃ r, inR a b = r := ⟨_, rfl⟩
  rw [hr]
  have Hr := Lib.hid hr; clear hr
  have Hl := Lib.hid hl; clear hl
  go_enter Try.func127, Try.ntmps127
  go_wp2_with fail
  go_loopw [5] (fun i wr => ∃ (k n : Nat), k ≤ a.length ∧ i = .int .i64 (k : Int) ∧ inTo a b k = true ∧ wr = W.drewN n) (fun i _ => a.length - (intOf i).toNat)
  case atStart => exact ⟨0, 0, Nat.zero_le _, rfl, rfl, rfl⟩
  case round =>
    obtain ⟨k, n, hk, rfl, hin, rfl⟩ := hrel
    have Hin := Lib.hid hin; clear hin
    by_cases hkk : k < a.length
    · have hkb : k < b.length := by rw [← Hl.out]; exact hkk
      obtain ⟨b1, off1, rfl, _, hc1⟩ := hA.cell hkk
      obtain ⟨b2, off2, rfl, _, hc2⟩ := hB.cell hkb
      by_cases hgt : geti b k < geti a k
      · have hfin : r = false := by rw [← Hr.out]; exact inTo_false (by omega) hkk
        subst hfin
        have hgd : decide (geti b k < geti a k) = true := decide_eq_true hgt
        go_wp2_with fail
        go_quiet (fail)
        go_wp2_with fail
        go_ret
        exact ⟨rfl, _, by first | rfl | rw [World.drewN_drewN]⟩
      · have hgd : decide (geti b k < geti a k) = false := decide_eq_false hgt
        have hle : geti a k ≤ geti b k := by omega
        have Hle := Lib.hid hle; clear hle hgt
        go_wp2_with fail
        go_quiet (fail)
        go_wp2_with fail
        go_roundw
        case rel => exact ⟨k + 1, _, by omega, by go_num, by rw [inTo, Hin.out, decide_eq_true Hle.out]; rfl, by first | rfl | rw [World.drewN_drewN]⟩
        case measure => simp [intOf]; omega
    · obtain rfl : k = a.length := by omega
      have hfin : r = true := by rw [← Hr.out]; exact Hin.out
      subst hfin
      go_wp2_with fail
      go_ret
      exact ⟨rfl, _, rfl⟩
theorem l11In_b {S S' : Nat → Prop} (va vb : Value) (a b : List Int) (W : World) (r : Bool) (hr : inR a b = r) (ha : V1 S W va a) (hb : V1 S' W vb b) (hl : a.length = b.length) :
    Calls Try.prog 127 #[va, vb] W fun e' w' => e' = .returned (.bool r) ∧ ∃ n, w' = W.drewN n := by subst hr; exact l11In_q va vb a b W ha hb hl

theorem l20Chain_any {S : Nat → Prop} {t : List (List Int)} (T : Tab t) (v : Value) : ∀ (m r : Nat) (W : World), V2 S W v t → r < t.length → ones t r < m →
    Calls Try.prog 87 #[v, .int .i64 r] W fun e' w' => e' = .returned (.int .i64 (ch t r)) ∧ ∃ n, w' = W.drewN n := by
  intro m
  induction m with
  | zero =>
    intro r W h hr h0
    omega
  | succ m ih =>
    intro r W h hr h0
    have hV := h
    obtain ⟨a, c, rfl, hmx⟩ := h.form
    have hch := ch_eq T hr
    obtain ⟨ans, hans⟩ : ∃ x, ch t r = x := ⟨_, rfl⟩
    rw [hans] at hch ⊢
    have Hch := Lib.hid hch
    have Hst := Lib.hid (fun i (hi : i < t.length) (h : strictB t r i = true) => strict_ones T hr hi h)
    have Hlen := Lib.hid T.len
    have Ih := Lib.hid ih
    clear hch hans ih
    obtain ⟨b2, off2, a2, c2, rfl, _, hc2, hr2⟩ := hV.cell hr
    have hl2 := hr2.len
    unfold maxLen at hl2
    go_enter Try.func87, Try.ntmps87
    go_wp2_with fail
    go_loopw [5, 6] (fun s i wr => ∃ (k n : Nat), k ≤ t.length ∧ i = .int .i64 (k : Int) ∧ s = .int .i64 (mxTo (strictB t r) (ch t) k) ∧ wr = W.drewN n) (fun _ i _ => t.length - (intOf i).toNat)
    case atStart => exact ⟨0, 0, Nat.zero_le _, rfl, rfl, rfl⟩
    case round =>
      obtain ⟨k, n, hk, rfl, rfl, rfl⟩ := hrel
      have hmb := mx_bound (t := t) (p := strictB t r) k
      by_cases hkk : k < t.length
      · obtain ⟨b1, off1, a1, c1, e1, _, hc1, hr1⟩ := hV.cell hkk
        simp only [Option.some.injEq, Addr.mk.injEq, and_true] at e1
        obtain ⟨rfl, rfl⟩ := e1
        have hle : (getl t k).length = (getl t r).length := by rw [Hlen.out k hkk, Hlen.out r hr]
        have Hle := Lib.hid hle; clear hle
        have hl1 := hr1.len
        unfold maxLen at hl1
        cases hin : inR (getl t k) (getl t r)
        · have hst : mxTo (strictB t r) (ch t) (k + 1) = mxTo (strictB t r) (ch t) k := by rw [mxTo, if_neg (by simp [strictB, hin])]
          have HS := Lib.hid hst; clear hst
          have Hin := Lib.hid hin; clear hin
          go_wp2_with fail
          go_quiet ((go_at_call 127; exact quiet_at (l11In_b _ _ _ _ _ _ Hin.out (V1.drewN hr1) (V1.drewN hr2) Hle.out)))
          go_wp2_with fail
          go_roundw
          case rel => exact ⟨k + 1, _, by omega, by go_num, by rw [HS.out], by first | rfl | rw [World.drewN_drewN]⟩
          case measure => simp [intOf]; omega
        · by_cases hsm : getl t k = getl t r
          · have hst : mxTo (strictB t r) (ch t) (k + 1) = mxTo (strictB t r) (ch t) k := by rw [mxTo, if_neg (by simp [strictB, hsm])]
            have HS := Lib.hid hst; clear hst
            have Hin := Lib.hid hin; clear hin
            have Hsm := Lib.hid (decide_eq_true hsm); clear hsm
            go_wp2_with fail
            go_quiet (first | (go_at_call 127; exact quiet_at (l11In_b _ _ _ _ _ _ Hin.out (V1.drewN hr1) (V1.drewN hr2) Hle.out)) | (go_at_call 128; exact quiet_at (l01Same_b _ _ _ _ _ _ Hsm.out (V1.drewN hr1) (V1.drewN hr2))))
            go_wp2_with fail
            go_roundw
            case rel => exact ⟨k + 1, _, by omega, by go_num, by rw [HS.out], by first | rfl | rw [World.drewN_drewN]⟩
            case measure => simp [intOf]; omega
          · have hsb : strictB t r k = true := by simp [strictB, hsm, hin]
            have hst : mxTo (strictB t r) (ch t) (k + 1) = max (mxTo (strictB t r) (ch t) k) (ch t k) := by rw [mxTo, if_pos hsb]
            have hon := Hst.out k hkk hsb
            have HS := Lib.hid hst; clear hst hsb
            have Hin := Lib.hid hin; clear hin
            have Hsm := Lib.hid (decide_eq_false hsm); clear hsm
            go_wp2_with fail
            go_quiet (first | (go_at_call 127; exact quiet_at (l11In_b _ _ _ _ _ _ Hin.out (V1.drewN hr1) (V1.drewN hr2) Hle.out)) | (go_at_call 128; exact quiet_at (l01Same_b _ _ _ _ _ _ Hsm.out (V1.drewN hr1) (V1.drewN hr2))))
            go_wp2_with fail
            refine (Ih.out k _ (V2.drewN hV) hkk (by omega)).mono ?_
            rintro e' w2 ⟨rfl, n2, rfl⟩
            generalize mxTo (strictB t r) (ch t) k = mm at *
            generalize ch t k = cc at *
            go_wp2_with fail
            go_roundw
            case rel => exact ⟨k + 1, _, by omega, by go_num, by rw [HS.out]; congr 1; split <;> omega, by first | rfl | simp only [World.drewN_drewN]⟩
            case measure => simp [intOf]; omega
      · obtain rfl : k = t.length := by omega
        rw [show mxTo (strictB t r) (ch t) t.length = ans - 1 by rw [Hch.out]; omega] at *
        have hw : wrap64 (ans - 1 + 1) = ans := by rw [show ans - 1 + 1 = ans by omega]; exact IntWalk.wrap64_in _ (by omega)
        go_wp2_with fail
        go_ret
        exact ⟨by first | rfl | (congr 2; omega) | (simp), _, rfl⟩

theorem tab_of {t : List (List Int)} (h : isTab t = true) : Tab t := by
  obtain ⟨h1, h2⟩ := isTab_iff.1 h
  refine ⟨fun k hk => (h2 k hk).1, (h2 0 (by omega)).2.1.2, fun k hk j hj => ?_⟩
  have := (h2 k hk).2.2 _ (geti_mem hj)
  omega
def longAns (t : List (List Int)) : Int × Int := if isTab t = true then (longest t, 0) else (0, 1)
theorem LongestChainR_any {S : Nat → Prop} (v : Value) (t : List (List Int)) (W : World) (h : V2 S W v t) :
    Calls Try.prog 45 #[v] W fun e' w' => e' = .returned (.tuple #[.int .i64 (longAns t).1, .int .i64 (longAns t).2]) ∧ ∃ n, w' = W.drewN n := by
  have hV := h
  obtain ⟨a, c, rfl, hmx⟩ := h.form
  cases ht : isTab t
  · have ha : longAns t = (0, 1) := by simp [longAns, ht]
    rw [ha]
    have HT := Lib.hid ht; clear ht ha
    go_enter Try.func45, Try.ntmps45
    go_wp2_with (go_at_call 86; refine (isTableR_b _ _ _ _ HT.out h).mono ?_; rintro e' w' ⟨rfl, n, rfl⟩)
    go_ret2
    exact ⟨rfl, _, rfl⟩
  · have ha : longAns t = (longest t, 0) := by simp [longAns, ht]
    have T := tab_of ht
    obtain ⟨ans, hans⟩ : ∃ x, longest t = x := ⟨_, rfl⟩
    rw [ha, hans]
    have Hans := Lib.hid hans
    have HT := Lib.hid ht; clear ht ha hans
    have Hon := Lib.hid (fun k (hk : k < t.length) => (ones_le T hk).1)
    go_enter Try.func45, Try.ntmps45
    go_wp2_with (go_at_call 86; refine (isTableR_b _ _ _ _ HT.out h).mono ?_; rintro e' w' ⟨rfl, n, rfl⟩)
    go_loopw [4, 5] (fun s i wr => ∃ (k n : Nat), k ≤ t.length ∧ i = .int .i64 (k : Int) ∧ s = .int .i64 (mxTo (fun _ => true) (ch t) k) ∧ wr = W.drewN n) (fun _ i _ => t.length - (intOf i).toNat)
    case atStart => exact ⟨0, _, Nat.zero_le _, rfl, rfl, rfl⟩
    case round =>
      obtain ⟨k, n, hk, rfl, rfl, rfl⟩ := hrel
      have hmb := mx_bound (t := t) (p := fun _ => true) k
      by_cases hkk : k < t.length
      · have hst : mxTo (fun _ => true) (ch t) (k + 1) = max (mxTo (fun _ => true) (ch t) k) (ch t k) := by rw [mxTo, if_pos rfl]
        have HS := Lib.hid hst; clear hst
        go_wp2_with fail
        refine (l20Chain_any T _ 13 k _ (V2.drewN hV) hkk (by have := Hon.out k hkk; omega)).mono ?_
        rintro e' w2 ⟨rfl, n2, rfl⟩
        generalize mxTo (fun _ => true) (ch t) k = mm at *
        generalize ch t k = cc at *
        go_wp2_with fail
        go_roundw
        case rel => exact ⟨k + 1, _, by omega, by go_num, by rw [HS.out]; congr 1; split <;> omega, by first | rfl | simp only [World.drewN_drewN]⟩
        case measure => simp [intOf]; omega
      · obtain rfl : k = t.length := by omega
        rw [show mxTo (fun _ => true) (ch t) t.length = ans from Hans.out] at *
        go_wp2_with fail
        go_ret2
        exact ⟨rfl, _, rfl⟩
end Go.Proofs.Ytcdgechaehljgaa
