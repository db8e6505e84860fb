/- What the program and the reference answer on keys: the fault of a key, both. No conditions. -/
import Derived.Test.YtlfnadmbelngeaaFault2
namespace Go.Proofs.Ytlfnadmbelngeaa
open Go.RowKit
set_option linter.unusedVariables false
set_option linter.unusedSimpArgs false

theorem stepBad_succ {m : Mk} {l : List Int} {k : Nat} {q : Int} (hq : absI (geti l (k + 1) - geti l k) = q) : stepBad m l (k + 1) = decide (m.s < q) := by
  unfold stepBad
  rw [Nat.add_sub_cancel, hq]; simp
theorem stepBad_zero {m : Mk} {l : List Int} : stepBad m l 0 = false := by simp [stepBad]
theorem allB_mem {l : List Int} {lo hi : Int} (h : allB l lo hi = true) {k : Nat} (hk : k < l.length) : lo ≤ geti l k ∧ geti l k ≤ hi := allB_iff.1 h _ (geti_mem hk)

set_option maxRecDepth 100000 in
theorem keyFault_any {S : Nat → Prop} (m : Mk) (v : Value) (l : List Int) (W : World) (hm : m.ok = true) (h : V1 S W v l) :
    Calls Try.prog 96 #[.agg #[.int .i64 m.c, .int .i64 m.d, .int .i64 m.s, .int .i64 m.e, .int .i64 m.l], v] W fun e' w' => e' = .returned (.int .i64 (fault m l)) ∧ Below W.heap.size W w' := by
  have hV := h
  have hmk := Mk.ok_iff.1 hm
  obtain ⟨a, c, rfl, hmx⟩ := h.form
  obtain ⟨W1, hW1, hB01, hz01, HZ01, hc01, hh01⟩ := box_facts W #[.int .i64 m.c, .int .i64 m.d, .int .i64 m.s, .int .i64 m.e, .int .i64 m.l] 32
  have hV1 := hV.below hB01
  by_cases hl : (l.length : Int) = m.c
  · have hl' : decide ((l.length : Int) = m.c) = true := decide_eq_true hl
    have e1 : ((l.length : Int) != m.c) = false := by simp [hl]
    have e2 : ((l.length : Int) == m.c) = true := by simp [hl]
    cases hb : allB l 0 (m.d - 1)
    · have hfin : fault m l = 2 := fault2 hl hb
      have Hf := Lib.hid hfin; clear hfin
      have Hr := Lib.hid (show (decide ((l.length : Int) = m.c) && allB l 0 (m.d - 1)) = false by rw [hl', hb]; rfl)
      have Hb := Lib.hid hb; clear hb
      have Hl := Lib.hid hl; clear hl hl' hmk
      go_enter Try.func96, Try.ntmps96
      go_wp2_with fail
      rw [← hW1]
      go_wp2_with fail
      refine (areCuts_b m _ l _ _ Hr.out hm hV1).mono ?_; rintro e' w2 ⟨rfl, hb_w2⟩; have hB2 := (Below.refl W1.heap.size W1).trans (hb_w2.mono (Below.refl W1.heap.size W1).size)
      clear hc01 hh01
      go_wp2_with fail
      go_ret
      exact ⟨ret_int Hf.out.symm, hB01.trans (hB2.mono (by omega))⟩
    · have Hr := Lib.hid (show (decide ((l.length : Int) = m.c) && allB l 0 (m.d - 1)) = true by rw [hl', hb]; rfl)
      have hrange : ∀ k, k < l.length → 0 ≤ geti l k ∧ geti l k ≤ 7 := fun k hk => by have := allB_mem hb hk; omega
      have Hrange := Lib.hid hrange; clear hrange
      have Hb := Lib.hid hb; clear hb
      have Hl := Lib.hid hl; clear hl hl'
      have hlen : 1 ≤ l.length := by have := Hl.out; omega
      have hme : 0 ≤ m.e := by omega
      clear hmk
      go_enter Try.func96, Try.ntmps96
      go_wp2_with fail
      rw [← hW1]
      go_wp2_with fail
      refine (areCuts_b m _ l _ _ Hr.out hm hV1).mono ?_; rintro e' w2 ⟨rfl, hb_w2⟩; have hB2 := (Below.refl W1.heap.size W1).trans (hb_w2.mono (Below.refl W1.heap.size W1).size)
      have hx2 : ∀ o, (w2).cell? ⟨W.heap.size, o, none⟩ = (#[.int .i64 m.c, .int .i64 m.d, .int .i64 m.s, .int .i64 m.e, .int .i64 m.l] : Array Value)[o]? := fun o => by rw [(bcell hB2).1 _ _ hz01, hc01]
      clear hc01 hh01
      have hV2 := hV1.below hB2
      go_wp2_with fail
      go_loopw [5] (fun i wr => ∃ k n : Nat, k + 1 ≤ l.length ∧ i = .int .i64 ((k + 1 : Nat) : Int) ∧ (∀ j, j ≤ k → stepBad m l j = false) ∧ wr = w2.drewN n) (fun i _ => l.length - (intOf i).toNat)
      case atStart => exact ⟨0, 0, hlen, rfl, fun j hj => by rw [show j = 0 from by omega]; exact stepBad_zero, rfl⟩
      case round =>
        obtain ⟨k, n, hk, rfl, hpre, rfl⟩ := hrel
        have Hpre := Lib.hid hpre; clear hpre
        by_cases hkk : k + 1 < l.length
        · obtain ⟨b1, off1, rfl, _, hc1⟩ := hV2.cell hkk
          obtain ⟨b2, off2, e3, _, hc2⟩ := hV2.cell (k := k) (by omega)
          simp only [Option.some.injEq, Addr.mk.injEq, and_true] at e3
          obtain ⟨rfl, rfl⟩ := e3
          have hr1 := Hrange.out _ hkk
          have hr2 := Hrange.out k (by omega)
          obtain ⟨q, hq⟩ : ∃ q, absI (geti l (k + 1) - geti l k) = q := ⟨_, rfl⟩
          have hst := stepBad_succ (m := m) hq
          have hw : IntKind.i64.wrap (geti l (k + 1) - geti l k) = geti l (k + 1) - geti l k := IntWalk.i64_in _ (by omega)
          have Hst := Lib.hid hst; clear hst
          have Hq := Lib.hid hq; clear hq
          by_cases hbad : m.s < q
          · have hfin : fault m l = 3 := fault3 Hl.out Hb.out (any_range_mono hkk (by rw [Hst.out]; exact decide_eq_true hbad))
            have Hf := Lib.hid hfin; clear hfin
            go_wp2_with fail
            go_quiet ((go_at_call 87; first | exact quiet_same (absolute_b _ _ _ Hq.out (by omega)) | exact quiet_same0 (absolute_b _ _ _ Hq.out (by omega))))
            go_wp2_with fail
            go_ret
            exact ⟨ret_int Hf.out.symm, by repeat' first | refine below_drewN ?_ _ | exact hB01.trans (hB2.mono (by omega))⟩
          · have hd : decide (m.s < q) = false := decide_eq_false hbad
            go_wp2_with fail
            go_quiet ((go_at_call 87; first | exact quiet_same (absolute_b _ _ _ Hq.out (by omega)) | exact quiet_same0 (absolute_b _ _ _ Hq.out (by omega))))
            go_wp2_with fail
            go_roundw
            case rel => exact ⟨k + 1, _, by omega, by go_num, fun j hj => by
              by_cases e : j = k + 1
              · subst e; rw [Hst.out]; exact hd
              · exact Hpre.out j (by omega), by first | rfl | rw [World.drewN_drewN]⟩
            case measure => simp [intOf]; omega
        · have h3 : (List.range l.length).any (stepBad m l) = false := any_range_none fun j hj => Hpre.out j (by omega)
          have H3 := Lib.hid h3; clear h3
          rw [show ((k + 1 : Nat) : Int) = (l.length : Int) from by omega]
          go_wp2_with fail
          go_loopw [6, 38] (fun _ i wr => ∃ k n : Nat, k ≤ l.length ∧ i = .int .i64 (k : Int) ∧ (∀ j, j < k → runBad m l j = false) ∧ wr = w2.drewN n) (fun _ i _ => l.length - (intOf i).toNat)
          case atStart => exact ⟨0, _, Nat.zero_le _, rfl, fun j hj => by omega, rfl⟩
          case round =>
            obtain ⟨k2, n2, hk2, rfl, hpre2, rfl⟩ := hrel
            have Hpre2 := Lib.hid hpre2; clear hpre2
            by_cases hkk2 : k2 < l.length
            · have htk := hV2.take (n := k2 + 1) (by omega)
              have hcap := hV2.cap
              have hlt : (l.take (k2 + 1)).length = k2 + 1 := by simp; omega
              have hru : ((runAt (l.take (k2 + 1)) ((l.take (k2 + 1)).length - 1) : Nat) : Int) = (runAt l k2 : Int) := by rw [hlt, Nat.add_sub_cancel, runAt_take (by omega)]
              have hpos : 0 < (l.take (k2 + 1)).length := by omega
              have hbadd : runBad m l k2 = decide (m.e < (runAt l k2 : Int)) := rfl
              obtain ⟨r, hr⟩ : ∃ r : Int, (runAt l k2 : Int) = r := ⟨_, rfl⟩
              rw [hr] at hru hbadd
              have Hru := Lib.hid hru; clear hru
              have Hbadd := Lib.hid hbadd; clear hbadd hr
              have Hlt := Lib.hid hlt; clear hlt
              have Hpos := Lib.hid hpos; clear hpos
              by_cases hbad : m.e < r
              · have hfin : fault m l = 4 := fault4 Hl.out Hb.out H3.out (any_range_mono hkk2 (by rw [Hbadd.out]; exact decide_eq_true hbad))
                have Hf := Lib.hid hfin; clear hfin
                go_wp2_with fail
                go_quiet ((go_at_call 88; first | exact quiet_at (sameRun_b _ _ _ _ Hru.out (V1.drewN htk) Hpos.out) | exact quiet_at0 (sameRun_b _ _ _ _ Hru.out (V1.drewN htk) Hpos.out)))
                go_wp2_with fail
                go_ret
                exact ⟨ret_int Hf.out.symm, by repeat' first | refine below_drewN ?_ _ | exact hB01.trans (hB2.mono (by omega))⟩
              · have hd : decide (m.e < r) = false := decide_eq_false hbad
                go_wp2_with fail
                go_quiet ((go_at_call 88; first | exact quiet_at (sameRun_b _ _ _ _ Hru.out (V1.drewN htk) Hpos.out) | exact quiet_at0 (sameRun_b _ _ _ _ Hru.out (V1.drewN htk) Hpos.out)))
                go_wp2_with fail
                go_roundw
                case rel => exact ⟨k2 + 1, _, by omega, by go_num, fun j hj => by
                  by_cases e : j = k2
                  · subst e; rw [Hbadd.out]; exact hd
                  · exact Hpre2.out j (by omega), by first | rfl | rw [World.drewN_drewN]⟩
                case measure => simp [intOf]; omega
            · have h4 : (List.range l.length).any (runBad m l) = false := any_range_none fun j hj => Hpre2.out j (by omega)
              by_cases h5 : (kinds l : Int) < m.l
              · have hfin : fault m l = 5 := fault5 Hl.out Hb.out H3.out h4 h5
                have Hf := Lib.hid hfin; clear hfin h4
                go_wp2_with fail
                go_quiet ((go_at_call 86; first | exact quiet_same (different_any _ _ _ (V1.drewN hV2)) | exact quiet_same0 (different_any _ _ _ (V1.drewN hV2))))
                go_wp2_with fail
                go_ret
                exact ⟨ret_int Hf.out.symm, by repeat' first | refine below_drewN ?_ _ | exact hB01.trans (hB2.mono (by omega))⟩
              · have hfin : fault m l = 0 := fault0 Hl.out Hb.out H3.out h4 h5
                have Hf := Lib.hid hfin; clear hfin h4
                have hd : decide ((kinds l : Int) < m.l) = false := decide_eq_false h5
                go_wp2_with fail
                go_quiet ((go_at_call 86; first | exact quiet_same (different_any _ _ _ (V1.drewN hV2)) | exact quiet_same0 (different_any _ _ _ (V1.drewN hV2))))
                go_wp2_with fail
                go_ret
                exact ⟨ret_int Hf.out.symm, by repeat' first | refine below_drewN ?_ _ | exact hB01.trans (hB2.mono (by omega))⟩
  · have hfin : fault m l = 1 := fault1 hl
    have e1 : ((l.length : Int) != m.c) = true := by simp [hl]
    have Hf := Lib.hid hfin; clear hfin
    have Hl := Lib.hid hl; clear hl hmk
    go_enter Try.func96, Try.ntmps96
    go_wp2_with fail
    rw [← hW1]
    go_wp2_with fail
    go_ret
    exact ⟨ret_int Hf.out.symm, hB01⟩
theorem isKey_any {S : Nat → Prop} (m : Mk) (v : Value) (l : List Int) (W : World) (hm : m.ok = true) (h : V1 S W v l) :
    Calls Try.prog 70 #[.agg #[.int .i64 m.c, .int .i64 m.d, .int .i64 m.s, .int .i64 m.e, .int .i64 m.l], v] W fun e' w' => e' = .returned (.bool (isKeyB m l)) ∧ Below W.heap.size W w' := by
  have hV := h
  obtain ⟨a, c, rfl, hmx⟩ := h.form
  have hk : isKeyB m l = (fault m l == 0) := by unfold isKeyB; by_cases h0 : fault m l = 0 <;> simp [h0]
  have Hk := Lib.hid hk; clear hk
  obtain ⟨W1, hW1, hB01, hz01, HZ01, hc01, hh01⟩ := box_facts W #[.int .i64 m.c, .int .i64 m.d, .int .i64 m.s, .int .i64 m.e, .int .i64 m.l] 32
  go_enter Try.func70, Try.ntmps70
  go_wp2_with fail
  rw [← hW1]
  go_wp2_with fail
  refine (keyFault_any m _ l _ hm (hV.below hB01)).mono ?_; rintro e' w2 ⟨rfl, hb_w2⟩; have hB2 := (Below.refl W1.heap.size W1).trans (hb_w2.mono (Below.refl W1.heap.size W1).size)
  clear hc01 hh01
  go_wp2_with fail
  go_ret
  exact ⟨ret_bool (by rw [Hk.out]), hB01.trans (hB2.mono (by omega))⟩
theorem isKey_b {S : Nat → Prop} (m : Mk) (v : Value) (l : List Int) (W : World) (r : Bool) (hr : isKeyB m l = r) (hm : m.ok = true) (h : V1 S W v l) :
    Calls Try.prog 70 #[.agg #[.int .i64 m.c, .int .i64 m.d, .int .i64 m.s, .int .i64 m.e, .int .i64 m.l], v] W fun e' w' => e' = .returned (.bool r) ∧ Below W.heap.size W w' := by subst hr; exact isKey_any m v l W hm h
end Go.Proofs.Ytlfnadmbelngeaa
