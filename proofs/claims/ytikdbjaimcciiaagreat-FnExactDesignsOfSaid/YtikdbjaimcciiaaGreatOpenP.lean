/- Whether partial cuts are open; the codes of the searches. No conditions. -/
import Derived.Test.YtikdbjaimcciiaaGreatMFindP
import Derived.Test.YtikdbjaimcciiaaGreatParts
import Derived.Test.YtikdbjaimcciiaaGreatMLocks
import Derived.Test.YtikdbjaimcciiaaGreatDesign
namespace Go.Proofs.YtikdbjaimcciiaaGreat
open Go.RowKit
set_option linter.unusedVariables false
set_option linter.unusedSimpArgs false

set_option maxRecDepth 100000 in
theorem isOpenPart_b {S S' : Nat → Prop} (m : Mk) (u v : Value) (t cuts : List (List Int)) (n : Nat) (W : World) (r : Bool) (hr : openP n t cuts = r) (hf : Fits m t cuts) (hn : (n : Int) = m.c) (h : V2 S W u t) (hc : V2 S' W v cuts) :
    Calls Tryz.prog 185 #[.agg #[.int .i64 m.c, .int .i64 m.d, .int .i64 m.s, .int .i64 m.e, .int .i64 m.l, u], v] W fun e' w' => e' = .returned (.bool r) ∧ Below W.heap.size W w' := by
  subst hr
  obtain ⟨a, c, rfl, hmx⟩ := h.form
  obtain ⟨a', c', rfl, hmx'⟩ := hc.form
  obtain ⟨W1, hW1, hB01, hz01, HZ01, hc01, hh01⟩ := box_facts W #[.int .i64 m.c, .int .i64 m.d, .int .i64 m.s, .int .i64 m.e, .int .i64 m.l, .slice a t.length c] 28
  have hfa := partFaults_any m _ _ t cuts n W1 hf hn (h.below hB01) (hc.below hB01)
  unfold openP
  obtain ⟨L, hL⟩ : ∃ L, falseL n t cuts = L := ⟨_, rfl⟩
  rw [hL] at hfa ⊢
  have H := Lib.hid (And.intro hfa (And.intro hL hf)); clear hfa hL hf
  go_enter Tryz.func185, Tryz.ntmps185
  go_wp2_with fail
  rw [← hW1]
  refine H.out.1.mono ?_
  rintro e' w2 ⟨v2, rfl, hF, hb2⟩
  obtain ⟨la, lc, rfl, hlm⟩ := hF.v2.form
  clear hc01 hh01 hF
  go_wp2_with fail
  go_ret
  exact ⟨ret_bool (by rw [Bool.eq_iff_iff, beq_iff_eq, decide_eq_true_iff]; omega), hB01.trans (hb2.mono (by omega))⟩
set_option maxRecDepth 100000 in
theorem l16Open_b {S S' : Nat → Prop} (m : Mk) (u v : Value) (t cuts : List (List Int)) (n : Nat) (W : World) (r : Bool) (hr : openP n t cuts = r) (hf : Fits m t cuts) (hn : (n : Int) = m.c) (h : V2 S W u t) (hc : V2 S' W v cuts) :
    Calls Tryz.prog 121 #[.agg #[.int .i64 m.c, .int .i64 m.d, .int .i64 m.s, .int .i64 m.e, .int .i64 m.l, u], v] W fun e' w' => e' = .returned (.bool r) ∧ Below W.heap.size W w' := by
  subst hr
  obtain ⟨a, c, rfl, hmx⟩ := h.form
  obtain ⟨a', c', rfl, hmx'⟩ := hc.form
  obtain ⟨W1, hW1, hB01, hz01, HZ01, hc01, hh01⟩ := box_facts W #[.int .i64 m.c, .int .i64 m.d, .int .i64 m.s, .int .i64 m.e, .int .i64 m.l, .slice a t.length c] 28
  have hfa := l15False_any m _ _ t cuts n W1 hf hn (h.below hB01) (hc.below hB01)
  unfold openP
  obtain ⟨L, hL⟩ : ∃ L, falseL n t cuts = L := ⟨_, rfl⟩
  rw [hL] at hfa ⊢
  have H := Lib.hid (And.intro hfa (And.intro hL hf)); clear hfa hL hf
  go_enter Tryz.func121, Tryz.ntmps121
  go_wp2_with fail
  rw [← hW1]
  refine H.out.1.mono ?_
  rintro e' w2 ⟨v2, rfl, hF, hb2⟩
  obtain ⟨la, lc, rfl, hlm⟩ := hF.v2.form
  clear hc01 hh01 hF
  go_wp2_with fail
  go_ret
  exact ⟨ret_bool (by rw [Bool.eq_iff_iff, beq_iff_eq, decide_eq_true_iff]; omega), hB01.trans (hb2.mono (by omega))⟩
theorem isLimit_b (x : Int) (W : World) (r : Bool) (hr : inB x 0 4000 = r) :
    Calls Tryz.prog 184 #[.int .i64 x] W fun e' w' => e' = .returned (.bool r) ∧ W = w' := by
  have Hr := Lib.hid hr; clear hr
  go_enter Tryz.func184, Tryz.ntmps184
  go_wp2_with (go_at_call 106; refine (within_b _ _ _ _ _ Hr.out).mono ?_; rintro e' w' ⟨rfl, rfl⟩)
  go_ret
  exact ⟨rfl, rfl⟩
set_option maxRecDepth 100000 in
theorem searchCode_any {S S' : Nat → Prop} (m : Mk) (u v : Value) (t cuts : List (List Int)) (limit : Int) (W : World) (h : V2 S W u t) (hc : V2 S' W v cuts) :
    Calls Tryz.prog 118 #[.agg #[.int .i64 m.c, .int .i64 m.d, .int .i64 m.s, .int .i64 m.e, .int .i64 m.l, u], v, .int .i64 limit] W fun e' w' => e' = .returned (.int .i64 (searchC m t cuts limit)) ∧ Below W.heap.size W w' := by
  obtain ⟨a, c, rfl, hmx⟩ := h.form
  obtain ⟨a', c', rfl, hmx'⟩ := hc.form
  obtain ⟨W1, hW1, hB01, hz01, HZ01, hc01, hh01⟩ := box_facts W #[.int .i64 m.c, .int .i64 m.d, .int .i64 m.s, .int .i64 m.e, .int .i64 m.l, .slice a t.length c] 28
  have hV1 : V2 (fun _ => True) W1 (.slice a t.length c) t := (h.below hB01).any
  have hC1 : V2 (fun _ => True) W1 (.slice a' cuts.length c') cuts := (hc.below hB01).any
  by_cases hp : partC m t cuts = 0
  · have hok : PartOk m t cuts := by obtain ⟨h1, h2, h3⟩ := partC_ok.1 hp; exact ⟨h1, h2, h3⟩
    have hmc := mc_nat hok.fits.ok
    have Hpc := Lib.hid hp
    cases hi : inB limit 0 4000
    · have hfin : searchC m t cuts limit = 2 := by unfold searchC; rw [if_neg (by rw [hp]; simp), if_pos (fun h => by rw [inB_iff.2 h] at hi; cases hi)]
      rw [hfin]
      have Hi := Lib.hid (And.intro hi hfin); clear hi hfin hp hok hmc
      go_enter Tryz.func118, Tryz.ntmps118
      go_wp2_with fail
      rw [← hW1]
      refine (partCode_any m _ _ t cuts W1 hV1 hC1).mono ?_
      rintro e' w2 ⟨rfl, hb2⟩
      rw [Hpc.out]
      have hz2 := hb2.size
      have hx2 : ∀ o, w2.cell? ⟨W.heap.size, o, none⟩ = (#[.int .i64 m.c, .int .i64 m.d, .int .i64 m.s, .int .i64 m.e, .int .i64 m.l, .slice a t.length c] : Array Value)[o]? := fun o => by rw [(bcell hb2).1 _ _ hz01, hc01]
      clear hc01 hh01
      go_wp2_with (go_at_call 184; refine (isLimit_b _ _ _ Hi.out.1).mono ?_; rintro e' w' ⟨rfl, rfl⟩)
      go_ret
      exact ⟨rfl, hB01.trans (hb2.mono (by omega))⟩
    · have hlim := inB_iff.1 hi
      obtain ⟨r, hr⟩ : ∃ r, openP m.c.toNat t cuts = r := ⟨_, rfl⟩
      have hfin : searchC m t cuts limit = if r = true then 0 else 5 := by
        unfold searchC
        rw [if_neg (by rw [hp]; simp), if_neg (fun h => h hlim)]
        unfold openP at hr
        cases r
        · rw [if_pos (of_decide_eq_false hr)]; rfl
        · rw [if_neg (fun h => h (of_decide_eq_true hr))]; rfl
      rw [hfin]
      have Hi := Lib.hid (And.intro hi (And.intro hr (And.intro hok hmc))); clear hi hfin hp hr hlim hok hmc
      go_enter Tryz.func118, Tryz.ntmps118
      go_wp2_with fail
      rw [← hW1]
      refine (partCode_any m _ _ t cuts W1 hV1 hC1).mono ?_
      rintro e' w2 ⟨rfl, hb2⟩
      rw [Hpc.out]
      have hz2 := hb2.size
      have hx2 : ∀ o, w2.cell? ⟨W.heap.size, o, none⟩ = (#[.int .i64 m.c, .int .i64 m.d, .int .i64 m.s, .int .i64 m.e, .int .i64 m.l, .slice a t.length c] : Array Value)[o]? := fun o => by rw [(bcell hb2).1 _ _ hz01, hc01]
      clear hc01 hh01
      go_wp2_with (go_at_call 184; refine (isLimit_b _ _ _ Hi.out.1).mono ?_; rintro e' w' ⟨rfl, rfl⟩)
      refine (isOpenPart_b m _ _ t cuts m.c.toNat _ r Hi.out.2.1 Hi.out.2.2.1.fits Hi.out.2.2.2 (hV1.below hb2) (hC1.below hb2)).mono ?_
      rintro e' w3 ⟨rfl, hb3⟩
      clear hx2
      cases r
      · go_wp2_with fail
        go_ret
        exact ⟨rfl, hB01.trans ((hb2.trans (hb3.mono hz2)).mono (by omega))⟩
      · go_wp2_with fail
        go_ret
        exact ⟨rfl, hB01.trans ((hb2.trans (hb3.mono hz2)).mono (by omega))⟩
  · have hfin : searchC m t cuts limit = partC m t cuts := by unfold searchC; rw [if_pos hp]
    have e1 : (partC m t cuts != 0) = true := by simp [hp]
    rw [hfin]
    obtain ⟨pc, hpc⟩ : ∃ pc, partC m t cuts = pc := ⟨_, rfl⟩
    rw [hpc] at e1 ⊢
    have Hpc := Lib.hid hpc; clear hpc hp hfin
    go_enter Tryz.func118, Tryz.ntmps118
    go_wp2_with fail
    rw [← hW1]
    refine (partCode_any m _ _ t cuts W1 hV1 hC1).mono ?_
    rintro e' w2 ⟨rfl, hb2⟩
    rw [Hpc.out]
    have hz2 := hb2.size
    have hx2 : ∀ o, w2.cell? ⟨W.heap.size, o, none⟩ = (#[.int .i64 m.c, .int .i64 m.d, .int .i64 m.s, .int .i64 m.e, .int .i64 m.l, .slice a t.length c] : Array Value)[o]? := fun o => by rw [(bcell hb2).1 _ _ hz01, hc01]
    clear hc01 hh01
    clear hx2
    go_wp2_with fail
    go_ret
    exact ⟨rfl, hB01.trans (hb2.mono (by omega))⟩
end Go.Proofs.YtikdbjaimcciiaaGreat
