/- The program's visit of all keys: the closure that sets the cuts, by induction. No conditions. -/
import Derived.Test.YtbekpololmahoaaGreatDoorMFalse
namespace Go.Proofs.YtbekpololmahoaaGreatDoor
open Go.RowKit
set_option linter.unusedVariables false
set_option linter.unusedSimpArgs false
section
variable {σ : Type} {m : Mk} {w0 : World} {F0 : Nat → Prop} {f : FuncId} {caps : Array Value} {step : σ → List Int → σ × Bool} {s0 : σ} {L : List (List Int)} {Inv : σ → (Nat → Prop) → World → Prop} {o : EK} {fv av : Value} {A : Nat → Int → Bool} {fr : List Int}
set_option maxRecDepth 100000 in
set_option maxHeartbeats 4000000 in
theorem cut_free (hm : m.ok = true) (V : VisOk m.c.toNat w0 F0 f caps step s0 L Inv) (hA : AOk m w0 F0 av A) : ∀ (rem : Nat) (s : σ) (F : Nat → Prop) (w : World) (pre : List Int) (kv : Value) (done rest : List (List Int)),
  (pre.length : Int) + rem = m.c → (∀ k, k < pre.length → 0 ≤ geti pre k ∧ geti pre k ≤ 7) →
  L = done ++ genF m A fr false rem pre ++ rest → runL step s0 done = (s, true) → ES m w0 F0 Inv o fv av (.func (.func f) #[] caps) s F w pre kv →
  Calls Tryz.prog 76 #[.bool false, .pointer (some ⟨o.k, 0, none⟩), .pointer (some ⟨o.m, 0, none⟩), .pointer (some ⟨o.v, 0, none⟩), .pointer (some ⟨o.f, 0, none⟩), .pointer (some ⟨o.a, 0, none⟩), .pointer (some ⟨o.c, 0, none⟩)] w
   (CutPost m w0 F0 Inv o fv av (.func (.func f) #[] caps) pre (runL step s0 (done ++ genF m A fr false rem pre))) := by
 intro rem
 induction rem with
 | zero =>
   intro s F w pre kv done rest hpre _ hL hs h
   exact cut_end hm V false s F w pre kv done rest (by omega) hL hs h
 | succ rem ih =>
   intro s F w pre kv done rest hpre hrange hL hs h
   have hmk := Mk.ok_iff.1 hm
   have IH := Lib.hid ih; clear ih
   have HA := Lib.hid hA; clear hA
   have HV := Lib.hid V; clear V
   have Hrange := Lib.hid hrange; clear hrange
   have hne : ((pre.length : Int) == m.c) = false := by simp; omega
   have hle : pre.length ≤ 5 ∧ rem ≤ 5 := by omega
   obtain ⟨d, hd1, hd2, hd8, hdn⟩ : ∃ d : Nat, m.d ≤ d ∧ (d : Int) ≤ m.d ∧ d ≤ 8 ∧ m.d.toNat = d := ⟨m.d.toNat, by omega, by omega, by omega, rfl⟩
   obtain ⟨lo, hlo⟩ : ∃ lo, lowF fr false pre.length = lo := ⟨_, rfl⟩
   have Hpre := Lib.hid hpre; clear hpre
   clear hmk
   have Hdn := Lib.hid hdn; clear hdn
   have Hlo := Lib.hid hlo; clear hlo
   have hck := h.ck.1
   obtain ⟨hc0, hc1, hc2, hc3, hc4⟩ := h.cm
   obtain ⟨ka, kc, rfl, hkc, hkm⟩ := own_form h.own
   have HL := Lib.hid hL; clear hL
   have Hs := Lib.hid hs; clear hs
   obtain ⟨res, hres⟩ : ∃ res, runL step s0 (done ++ genF m A fr false (rem + 1) pre) = res := ⟨_, rfl⟩
   rw [hres]
   have Hres := Lib.hid hres; clear hres
   have hl0 : lo = 0 := by rw [← Hlo.out]; rfl
   have Hh := Lib.hid h; clear h
   have Hl0 := Lib.hid hl0; clear hl0
   go_enter Tryz.func76, Tryz.ntmps76
   go_wp2_with fail
   clear hck hc0 hc1 hc2 hc3 hc4
   go_loopw [11, 12] (fun i _ wr => ∃ (x : Nat) (s' : σ) (F' : Nat → Prop) (kv' : Value), lo ≤ x ∧ (x ≤ d ∨ x = lo) ∧ i = .int .i64 (x : Int) ∧ runL step s0 (done ++ partF m A fr false rem pre x) = (s', true) ∧ ES m w0 F0 Inv o fv av (.func (.func f) #[] caps) s' F' wr pre kv') (fun i _ _ => d - (intOf i).toNat)
   case atStart => exact ⟨lo, s, F, _, Nat.le_refl _, .inr rfl, by rw [Hl0.out]; rfl, by rw [partF_lo (by rw [Hlo.out]; exact Nat.le_refl _), List.append_nil]; exact Hs.out, Hh.out⟩
   case round =>
    obtain ⟨x, s', F', kv', hx0, hxd, rfl, hrun, hES⟩ := hrel
    have Hrun := Lib.hid hrun; clear hrun
    obtain ⟨hm0, hm1, hm2, hm3, hm4⟩ := hES.cm
    have hcca := hES.ca
    have hcck := hES.ck.1
    by_cases hxx : x < d
    ·obtain ⟨ka', kc', rfl, hkc', hkm'⟩ := own_form hES.own
     have hVk := own_V1 hES.own
     by_cases hgood : A pre.length x = true ∧ (pre.length = 0 ∨ absI ((x : Int) - geti pre (pre.length - 1)) ≤ m.s)
     ·rcases HA.out with ⟨rfl, hA1⟩ | ⟨fa, ac, rfl, hen, hcall⟩
      ·clear hA1
       have hnn := neqNil
       by_cases h0 : pre.length = 0
       ·have hd0 : decide (0 < pre.length) = false := by simp [h0]
        have H0 := Lib.hid h0; clear h0
        have Hgood := Lib.hid hgood; clear hgood
        go_wp2_with fail
        go_quiet (fail)
        have hcp := (hES.draw HV.out.keep nq).ck
        obtain ⟨hcpk, hcpf⟩ := hcp
        have hown := (hES.draw HV.out.keep nq).own
        have hn0 : pre.length + 1 ≤ 1000 := by omega
        have HES := Lib.hid (hES.draw HV.out.keep nq); clear hES
        clear hm0 hm1 hm2 hm3 hm4 hcca hcck hnn
        go_wp2_with (at_builtin; refine wp_app1 _ rfl _ _ 57 rfl w0.heap.size 2 (.int .i64 0) 8 Tryz.underlying57 inf_int rfl _ _ _ rfl hown (.int .i64 x) _ rfl rfl (by omega) (by omega) (HES.out.chg.size) ?_; intro v1 w1 hown1 hgrow1 hblk1 hB1; obtain ⟨hk1, hf1⟩ := HES.out.grown_ck hgrow1; obtain ⟨g1, c1, rfl, hc1a, hc1b⟩ := own_some hown1 (by omega))
        have hE2 := HES.out.push HV.out.keep hown1 hgrow1 hblk1
        clear hk1 hf1 hblk1 hB1 hgrow1 hown1 hown hcpk hcpf
        generalize hw2 : w1.setCell ⟨o.k, 0, none⟩ (.slice (some ⟨g1, 0, none⟩) (pre.length + 1) c1) = w2 at *
        clear hw2 HES
        have hV2 := own_V1 hE2.own
        have hpl : (pre ++ [(x : Int)]).length = pre.length + 1 := by simp
        have hru : ((runAt (pre ++ [(x : Int)]) ((pre ++ [(x : Int)]).length - 1) : Nat) : Int) = (runAt (pre ++ [(x : Int)]) pre.length : Int) := by rw [hpl, Nat.add_sub_cancel]
        obtain ⟨r, hr⟩ : ∃ r : Int, (runAt (pre ++ [(x : Int)]) pre.length : Int) = r := ⟨_, rfl⟩
        rw [hr] at hru
        have Hru := Lib.hid hru; clear hru
        have Hr := Lib.hid hr; clear hr
        have Hpl := Lib.hid hpl; clear hpl
        obtain ⟨hm0, hm1, hm2, hm3, hm4⟩ := hE2.cm
        have hk2 := hE2.ck.1
        by_cases hbad : m.e < r
        ·have hfit : brF m A fr false rem pre x = [] := by
          unfold brF
          have h1 : fitAt m (pre ++ [(x : Int)]) pre.length = false := fit_runE Hr.out hbad
          rw [h1]; simp
         have hnext : runL step s0 (done ++ partF m A fr false rem pre (x + 1)) = (s', true) := by
          rw [partF_succ (by rw [Hlo.out]; exact hx0), hfit, List.append_nil]; exact Hrun.out
         have Hnext := Lib.hid hnext; clear hnext hfit
         have HE2 := Lib.hid hE2; clear hE2
         go_quiet ((go_at_call 79; first | exact quiet_at (sameRun_b _ _ _ _ Hru.out (V1.drewN hV2) (by have := Hpl.out; omega)) | exact quiet_at0 (sameRun_b _ _ _ _ Hru.out (V1.drewN hV2) (by have := Hpl.out; omega))))
         have hE3 := HE2.out.draw HV.out.keep nq
         obtain ⟨hk3, hf3⟩ := hE3.ck
         have HE3 := Lib.hid hE3; clear hE3
         clear hk2
         go_wp2_with fail
         go_roundw
         case rel => exact ⟨x + 1, s', F', _, by omega, by omega, by go_num, Hnext.out, by first | exact HE3.out.pop HV.out.keep rfl rfl | exact (HE3.out.pop HV.out.keep rfl rfl).draw HV.out.keep _⟩
         case measure => simp [intOf]; omega
        ·obtain ⟨tt, htt⟩ : ∃ tt, (false && decide ((x : Int) = geti fr pre.length)) = tt := ⟨_, rfl⟩
         have hbr : brF m A fr false rem pre x = genF m A fr tt rem (pre ++ [(x : Int)]) := by
          unfold brF
          have h1 : fitAt m (pre ++ [(x : Int)]) pre.length = true := by
           rw [fit_push, Hr.out, decide_eq_true (show r ≤ m.e by omega), Bool.true_and]
           rcases Hgood.out.2 with h | h
           ·rw [h]; rfl
           ·rw [decide_eq_true h]; simp
          rw [h1, Hgood.out.1, htt]; rfl
         obtain ⟨rst, hrst⟩ := partF_le (m := m) (A := A) (fr := fr) (pre := pre) (tight := false) (rem := rem) (x := x + 1) (y := d) (by omega)
         rw [partF_succ (by rw [Hlo.out]; exact hx0), hbr, ← Hdn.out, partF_end] at hrst
         have hL2 : L = (done ++ partF m A fr false rem pre x) ++ genF m A fr tt rem (pre ++ [(x : Int)]) ++ (rst ++ rest) := by rw [HL.out, hrst]; simp
         obtain ⟨re2, hre2⟩ : ∃ r, runL step s0 ((done ++ partF m A fr false rem pre x) ++ genF m A fr tt rem (pre ++ [(x : Int)])) = r := ⟨_, rfl⟩
         have hps : partF m A fr false rem pre (x + 1) = partF m A fr false rem pre x ++ genF m A fr tt rem (pre ++ [(x : Int)]) := by rw [partF_succ (by rw [Hlo.out]; exact hx0), hbr]
         have hdr : decide (m.e < r) = false := decide_eq_false hbad
         have Hbr := Lib.hid hbr; clear hbr
         have Hps := Lib.hid hps; clear hps
         have Hrst := Lib.hid hrst; clear hrst
         have HL2 := Lib.hid hL2; clear hL2
         have Hre2 := Lib.hid hre2; clear hre2
         have hE2d := hE2.drew HV.out.keep
         have hcc2 : w2.cell? ⟨o.c, 0, none⟩ = some (.func (.func 76) #[] #[.pointer (some ⟨o.k, 0, none⟩), .pointer (some ⟨o.m, 0, none⟩), .pointer (some ⟨o.v, 0, none⟩), .pointer (some ⟨o.f, 0, none⟩), .pointer (some ⟨o.a, 0, none⟩), .pointer (some ⟨o.c, 0, none⟩)]) := hE2.cc
         clear hm0 hm1 hm2 hm4
         obtain rfl : tt = false := by rw [← htt]; rfl
         have Htt := Lib.hid htt; clear htt
         cases hb2 : re2.2
         ·have Hb2 := Lib.hid hb2; clear hb2
          refine wp_region_noPanic ?_
          refine wp_region_held_drew (S := fun w' => w'.cell? ⟨o.m, 3, none⟩ = some (.int .i64 m.e) ∧ w'.cell? ⟨o.c, 0, none⟩ = some (.func (.func 76) #[] #[.pointer (some ⟨o.k, 0, none⟩), .pointer (some ⟨o.m, 0, none⟩), .pointer (some ⟨o.v, 0, none⟩), .pointer (some ⟨o.f, 0, none⟩), .pointer (some ⟨o.a, 0, none⟩), .pointer (some ⟨o.c, 0, none⟩)])) (by kernel_rfl) ⟨hE2d.cm.2.2.2.1, hE2d.cc⟩ (fun hHeld => ?_)
          (refine wpAnyH_take (i := 2) (v := .pointer (some ⟨o.m, 3, none⟩)) rfl (by kernel_rfl) (by kernel_rfl) (by kernel_rfl) (fun _ _ _ h => h) (Or.inl ⟨by kernel_rfl, fun w hSw => by (try dsimp only at hSw); go_split_ands; go_simp⟩) (by assumption) ?_; simp only [Act.put, List.setIfInBounds_toArray, List.set_cons_zero, List.set_cons_succ])
          (refine wpAnyH_take (i := 3) (v := .int .i64 m.e) rfl (by kernel_rfl) (by kernel_rfl) (by kernel_rfl) (fun _ _ _ h => h) (Or.inl ⟨by kernel_rfl, fun w hSw => by (try dsimp only at hSw); go_split_ands; go_simp⟩) (by assumption) ?_; simp only [Act.put, List.setIfInBounds_toArray, List.set_cons_zero, List.set_cons_succ])
          (refine wpAnyH_ready (rs := [0]) (by kernel_rfl) (by simp) (AllReadyH.cons rfl (fun K hK => ?_) AllReadyH.nil); go_simp)
          (refine hK.out _ _ ⟨hE2d.cm.2.2.2.1, hE2d.cc⟩ (fun hHeld => ?_); clear hK K; (try simp only [Act.put, List.setIfInBounds_toArray, List.set_cons_zero, List.set_cons_succ]))
          (refine wpAnyH_ready (rs := [1]) (by kernel_rfl) (by simp) (AllReadyH.cons rfl (fun K hK => ?_) AllReadyH.nil); go_simp)
          go_at_call 79
          refine (sameRun_b _ (pre ++ [(x : Int)]) _ _ Hru.out (hV2.below ((Below.refl _ _).drew)) (by have := Hpl.out; omega)).mono ?_
          rintro e' w' ⟨rfl, n3, rfl⟩
          have hE2n := hE2.draw HV.out.keep (1 + n3)
          dsimp only
          (refine hK.out _ _ ⟨hE2n.cm.2.2.2.1, hE2n.cc⟩ (fun hHeld => ?_); clear hK K; (try simp only [Act.put, List.setIfInBounds_toArray, List.set_cons_zero, List.set_cons_succ]))
          (refine wpAnyH_take (i := 4) (v := .bool false) rfl (by kernel_rfl) (by kernel_rfl) (by kernel_rfl) (fun _ _ _ h => h) (Or.inl ⟨by kernel_rfl, fun w hSw => by (try dsimp only at hSw); go_split_ands; go_simp⟩) (by assumption) ?_; simp only [Act.put, List.setIfInBounds_toArray, List.set_cons_zero, List.set_cons_succ])
          (refine wpAnyH_take (i := 5) (v := .bool false) rfl (by kernel_rfl) (by kernel_rfl) (by kernel_rfl) (fun _ _ _ h => h) (Or.inl ⟨by kernel_rfl, fun w hSw => by (try dsimp only at hSw); go_split_ands; go_simp⟩) (by assumption) ?_; simp only [Act.put, List.setIfInBounds_toArray, List.set_cons_zero, List.set_cons_succ])
          (refine wpAnyH_take (i := 6) (v := .func (.func 76) #[] #[.pointer (some ⟨o.k, 0, none⟩), .pointer (some ⟨o.m, 0, none⟩), .pointer (some ⟨o.v, 0, none⟩), .pointer (some ⟨o.f, 0, none⟩), .pointer (some ⟨o.a, 0, none⟩), .pointer (some ⟨o.c, 0, none⟩)]) rfl (by kernel_rfl) (by kernel_rfl) (by kernel_rfl) (fun _ _ _ h => h) (Or.inl ⟨by kernel_rfl, fun w hSw => by (try dsimp only at hSw); go_split_ands; go_simp⟩) (by assumption) ?_; simp only [Act.put, List.setIfInBounds_toArray, List.set_cons_zero, List.set_cons_succ])
          (refine wpAnyH_take (i := 7) (v := .bool false) rfl (by kernel_rfl) (by kernel_rfl) (by kernel_rfl) (fun _ _ _ h => h) (Or.inl ⟨by kernel_rfl, fun w hSw => by (try dsimp only at hSw); go_split_ands; go_simp⟩) (by assumption) ?_; simp only [Act.put, List.setIfInBounds_toArray, List.set_cons_zero, List.set_cons_succ])
          (refine wpAnyH_take (i := 8) (v := .bool false) rfl (by kernel_rfl) (by kernel_rfl) (by kernel_rfl) (fun _ _ _ h => h) (Or.inl ⟨by kernel_rfl, fun w hSw => by (try dsimp only at hSw); go_split_ands; go_simp⟩) (by assumption) ?_; simp only [Act.put, List.setIfInBounds_toArray, List.set_cons_zero, List.set_cons_succ])
          (refine wpAnyH_take (i := 9) (v := undef) rfl (by kernel_rfl) (by kernel_rfl) (by kernel_rfl) (fun _ _ _ h => h) (Or.inr ⟨by kernel_rfl, rfl⟩) (by assumption) ?_; simp only [Act.put, List.setIfInBounds_toArray, List.set_cons_zero, List.set_cons_succ])
          (refine wpAnyH_take (i := 10) (v := undef) rfl (by kernel_rfl) (by kernel_rfl) (by kernel_rfl) (fun _ _ _ h => h) (Or.inr ⟨by kernel_rfl, rfl⟩) (by assumption) ?_; simp only [Act.put, List.setIfInBounds_toArray, List.set_cons_zero, List.set_cons_succ])
          (refine wpAnyH_take (i := 11) (v := undef) rfl (by kernel_rfl) (by kernel_rfl) (by kernel_rfl) (fun _ _ _ h => h) (Or.inr ⟨by kernel_rfl, rfl⟩) (by assumption) ?_; simp only [Act.put, List.setIfInBounds_toArray, List.set_cons_zero, List.set_cons_succ])
          (refine wpAnyH_take (i := 12) (v := .bool false) rfl (by kernel_rfl) (by kernel_rfl) (by kernel_rfl) (fun _ _ _ h => h) (Or.inl ⟨by kernel_rfl, fun w hSw => by (try dsimp only at hSw); go_split_ands; go_simp⟩) (by assumption) ?_; simp only [Act.put, List.setIfInBounds_toArray, List.set_cons_zero, List.set_cons_succ])
          (refine wpAnyH_ready (rs := [13]) (by kernel_rfl) (by simp) (AllReadyH.cons rfl (fun K hK => ?_) AllReadyH.nil); go_simp)
          refine (IH.out s' F' _ (pre ++ [(x : Int)]) _ (done ++ partF m A fr false rem pre x) (rst ++ rest) (by have := Hpl.out; have := Hpre.out; omega) (range_push Hrange.out (by omega)) HL2.out Hrun.out hE2n).mono ?_
          rintro e' w' ⟨F2, kv2, rfl, hE4⟩
          rw [Hre2.out] at hE4
          rw [Hre2.out, Hb2.out]
          clear hE2n hE2d hE2 hHeld hcc2 hm3
          obtain ⟨g2, c2, rfl, hc2a, hc2b⟩ := own_some (own_len hE4.own) (by omega)
          dsimp only
          (refine hK.out _ _ ⟨hE4.cm.2.2.2.1, hE4.cc⟩ (fun hHeld => ?_); clear hK K; (try simp only [Act.put, List.setIfInBounds_toArray, List.set_cons_zero, List.set_cons_succ]))
          (refine wpAnyH_take (i := 14) (v := .bool false) rfl (by kernel_rfl) (by kernel_rfl) (by kernel_rfl) (fun _ _ _ h => h) (Or.inl ⟨by kernel_rfl, fun w hSw => by (try dsimp only at hSw); go_split_ands; go_simp⟩) (by assumption) ?_; simp only [Act.put, List.setIfInBounds_toArray, List.set_cons_zero, List.set_cons_succ])
          (refine wpAnyH_take (i := 15) (v := .bool false) rfl (by kernel_rfl) (by kernel_rfl) (by kernel_rfl) (fun _ _ _ h => h) (Or.inl ⟨by kernel_rfl, fun w hSw => by (try dsimp only at hSw); go_split_ands; go_simp⟩) (by assumption) ?_; simp only [Act.put, List.setIfInBounds_toArray, List.set_cons_zero, List.set_cons_succ])
          refine wpAnyH_done (by kernel_rfl) (NoPanic.normal ?_) _
          obtain ⟨hk4, hf4⟩ := hE4.ck
          have HE3 := Lib.hid hE4; clear hE4 hHeld
          go_wp2_with fail
          go_ret
          have hfin : res = (re2.1, false) := by
           rw [← Hres.out, Hrst.out, ← List.append_assoc, ← List.append_assoc, runL_append, if_neg (by rw [Hre2.out, Hb2.out]; decide), Hre2.out]
          exact ⟨_, _, by rw [hfin]; rfl, by rw [hfin]; exact HE3.out.pop HV.out.keep rfl rfl⟩
         ·have Hb2 := Lib.hid hb2; clear hb2
          refine wp_region_noPanic ?_
          refine wp_region_held_drew (S := fun w' => w'.cell? ⟨o.m, 3, none⟩ = some (.int .i64 m.e) ∧ w'.cell? ⟨o.c, 0, none⟩ = some (.func (.func 76) #[] #[.pointer (some ⟨o.k, 0, none⟩), .pointer (some ⟨o.m, 0, none⟩), .pointer (some ⟨o.v, 0, none⟩), .pointer (some ⟨o.f, 0, none⟩), .pointer (some ⟨o.a, 0, none⟩), .pointer (some ⟨o.c, 0, none⟩)])) (by kernel_rfl) ⟨hE2d.cm.2.2.2.1, hE2d.cc⟩ (fun hHeld => ?_)
          (refine wpAnyH_take (i := 2) (v := .pointer (some ⟨o.m, 3, none⟩)) rfl (by kernel_rfl) (by kernel_rfl) (by kernel_rfl) (fun _ _ _ h => h) (Or.inl ⟨by kernel_rfl, fun w hSw => by (try dsimp only at hSw); go_split_ands; go_simp⟩) (by assumption) ?_; simp only [Act.put, List.setIfInBounds_toArray, List.set_cons_zero, List.set_cons_succ])
          (refine wpAnyH_take (i := 3) (v := .int .i64 m.e) rfl (by kernel_rfl) (by kernel_rfl) (by kernel_rfl) (fun _ _ _ h => h) (Or.inl ⟨by kernel_rfl, fun w hSw => by (try dsimp only at hSw); go_split_ands; go_simp⟩) (by assumption) ?_; simp only [Act.put, List.setIfInBounds_toArray, List.set_cons_zero, List.set_cons_succ])
          (refine wpAnyH_ready (rs := [0]) (by kernel_rfl) (by simp) (AllReadyH.cons rfl (fun K hK => ?_) AllReadyH.nil); go_simp)
          (refine hK.out _ _ ⟨hE2d.cm.2.2.2.1, hE2d.cc⟩ (fun hHeld => ?_); clear hK K; (try simp only [Act.put, List.setIfInBounds_toArray, List.set_cons_zero, List.set_cons_succ]))
          (refine wpAnyH_ready (rs := [1]) (by kernel_rfl) (by simp) (AllReadyH.cons rfl (fun K hK => ?_) AllReadyH.nil); go_simp)
          go_at_call 79
          refine (sameRun_b _ (pre ++ [(x : Int)]) _ _ Hru.out (hV2.below ((Below.refl _ _).drew)) (by have := Hpl.out; omega)).mono ?_
          rintro e' w' ⟨rfl, n3, rfl⟩
          have hE2n := hE2.draw HV.out.keep (1 + n3)
          dsimp only
          (refine hK.out _ _ ⟨hE2n.cm.2.2.2.1, hE2n.cc⟩ (fun hHeld => ?_); clear hK K; (try simp only [Act.put, List.setIfInBounds_toArray, List.set_cons_zero, List.set_cons_succ]))
          (refine wpAnyH_take (i := 4) (v := .bool false) rfl (by kernel_rfl) (by kernel_rfl) (by kernel_rfl) (fun _ _ _ h => h) (Or.inl ⟨by kernel_rfl, fun w hSw => by (try dsimp only at hSw); go_split_ands; go_simp⟩) (by assumption) ?_; simp only [Act.put, List.setIfInBounds_toArray, List.set_cons_zero, List.set_cons_succ])
          (refine wpAnyH_take (i := 5) (v := .bool false) rfl (by kernel_rfl) (by kernel_rfl) (by kernel_rfl) (fun _ _ _ h => h) (Or.inl ⟨by kernel_rfl, fun w hSw => by (try dsimp only at hSw); go_split_ands; go_simp⟩) (by assumption) ?_; simp only [Act.put, List.setIfInBounds_toArray, List.set_cons_zero, List.set_cons_succ])
          (refine wpAnyH_take (i := 6) (v := .func (.func 76) #[] #[.pointer (some ⟨o.k, 0, none⟩), .pointer (some ⟨o.m, 0, none⟩), .pointer (some ⟨o.v, 0, none⟩), .pointer (some ⟨o.f, 0, none⟩), .pointer (some ⟨o.a, 0, none⟩), .pointer (some ⟨o.c, 0, none⟩)]) rfl (by kernel_rfl) (by kernel_rfl) (by kernel_rfl) (fun _ _ _ h => h) (Or.inl ⟨by kernel_rfl, fun w hSw => by (try dsimp only at hSw); go_split_ands; go_simp⟩) (by assumption) ?_; simp only [Act.put, List.setIfInBounds_toArray, List.set_cons_zero, List.set_cons_succ])
          (refine wpAnyH_take (i := 7) (v := .bool false) rfl (by kernel_rfl) (by kernel_rfl) (by kernel_rfl) (fun _ _ _ h => h) (Or.inl ⟨by kernel_rfl, fun w hSw => by (try dsimp only at hSw); go_split_ands; go_simp⟩) (by assumption) ?_; simp only [Act.put, List.setIfInBounds_toArray, List.set_cons_zero, List.set_cons_succ])
          (refine wpAnyH_take (i := 8) (v := .bool false) rfl (by kernel_rfl) (by kernel_rfl) (by kernel_rfl) (fun _ _ _ h => h) (Or.inl ⟨by kernel_rfl, fun w hSw => by (try dsimp only at hSw); go_split_ands; go_simp⟩) (by assumption) ?_; simp only [Act.put, List.setIfInBounds_toArray, List.set_cons_zero, List.set_cons_succ])
          (refine wpAnyH_take (i := 9) (v := undef) rfl (by kernel_rfl) (by kernel_rfl) (by kernel_rfl) (fun _ _ _ h => h) (Or.inr ⟨by kernel_rfl, rfl⟩) (by assumption) ?_; simp only [Act.put, List.setIfInBounds_toArray, List.set_cons_zero, List.set_cons_succ])
          (refine wpAnyH_take (i := 10) (v := undef) rfl (by kernel_rfl) (by kernel_rfl) (by kernel_rfl) (fun _ _ _ h => h) (Or.inr ⟨by kernel_rfl, rfl⟩) (by assumption) ?_; simp only [Act.put, List.setIfInBounds_toArray, List.set_cons_zero, List.set_cons_succ])
          (refine wpAnyH_take (i := 11) (v := undef) rfl (by kernel_rfl) (by kernel_rfl) (by kernel_rfl) (fun _ _ _ h => h) (Or.inr ⟨by kernel_rfl, rfl⟩) (by assumption) ?_; simp only [Act.put, List.setIfInBounds_toArray, List.set_cons_zero, List.set_cons_succ])
          (refine wpAnyH_take (i := 12) (v := .bool false) rfl (by kernel_rfl) (by kernel_rfl) (by kernel_rfl) (fun _ _ _ h => h) (Or.inl ⟨by kernel_rfl, fun w hSw => by (try dsimp only at hSw); go_split_ands; go_simp⟩) (by assumption) ?_; simp only [Act.put, List.setIfInBounds_toArray, List.set_cons_zero, List.set_cons_succ])
          (refine wpAnyH_ready (rs := [13]) (by kernel_rfl) (by simp) (AllReadyH.cons rfl (fun K hK => ?_) AllReadyH.nil); go_simp)
          refine (IH.out s' F' _ (pre ++ [(x : Int)]) _ (done ++ partF m A fr false rem pre x) (rst ++ rest) (by have := Hpl.out; have := Hpre.out; omega) (range_push Hrange.out (by omega)) HL2.out Hrun.out hE2n).mono ?_
          rintro e' w' ⟨F2, kv2, rfl, hE4⟩
          rw [Hre2.out] at hE4
          rw [Hre2.out, Hb2.out]
          clear hE2n hE2d hE2 hHeld hcc2 hm3
          obtain ⟨g2, c2, rfl, hc2a, hc2b⟩ := own_some (own_len hE4.own) (by omega)
          dsimp only
          (refine hK.out _ _ ⟨hE4.cm.2.2.2.1, hE4.cc⟩ (fun hHeld => ?_); clear hK K; (try simp only [Act.put, List.setIfInBounds_toArray, List.set_cons_zero, List.set_cons_succ]))
          (refine wpAnyH_take (i := 14) (v := .bool true) rfl (by kernel_rfl) (by kernel_rfl) (by kernel_rfl) (fun _ _ _ h => h) (Or.inl ⟨by kernel_rfl, fun w hSw => by (try dsimp only at hSw); go_split_ands; go_simp⟩) (by assumption) ?_; simp only [Act.put, List.setIfInBounds_toArray, List.set_cons_zero, List.set_cons_succ])
          (refine wpAnyH_take (i := 15) (v := .bool true) rfl (by kernel_rfl) (by kernel_rfl) (by kernel_rfl) (fun _ _ _ h => h) (Or.inl ⟨by kernel_rfl, fun w hSw => by (try dsimp only at hSw); go_split_ands; go_simp⟩) (by assumption) ?_; simp only [Act.put, List.setIfInBounds_toArray, List.set_cons_zero, List.set_cons_succ])
          refine wpAnyH_done (by kernel_rfl) (NoPanic.normal ?_) _
          obtain ⟨hk4, hf4⟩ := hE4.ck
          have HE3 := Lib.hid hE4; clear hE4 hHeld
          go_wp2_with fail
          go_roundw
          case rel => exact ⟨x + 1, re2.1, _, _, by omega, by omega, by go_num, by rw [Hps.out, ← List.append_assoc]; exact runL_pair Hre2.out Hb2.out, HE3.out.pop HV.out.keep rfl rfl⟩
          case measure => simp [intOf]; omega
       ·have h0' := h0
        have h1 : 0 < pre.length := by omega
        obtain ⟨pb, po, rfl, _, hpc⟩ := hVk.cell (k := pre.length - 1) (by omega)
        have hrp := Hrange.out (pre.length - 1) (by omega)
        obtain ⟨q, hq⟩ : ∃ q, absI ((x : Int) - geti pre (pre.length - 1)) = q := ⟨_, rfl⟩
        have hw : IntKind.i64.wrap ((x : Int) - geti pre (pre.length - 1)) = (x : Int) - geti pre (pre.length - 1) := IntWalk.i64_in _ (by omega)
        have Hq := Lib.hid hq; clear hq
        have hd1' : decide (m.s < q) = false := decide_eq_false (by rcases hgood.2 with h | h; exact absurd h h0; rw [Hq.out] at h; omega)
        have Hgood := Lib.hid hgood; clear hgood
        clear h0 h0'
        go_wp2_with fail
        go_quiet ((go_at_call 78; first | exact quiet_same (absolute_b _ _ _ Hq.out (by omega)) | exact quiet_same0 (absolute_b _ _ _ Hq.out (by omega))))
        have hcp := (hES.draw HV.out.keep nq).ck
        obtain ⟨hcpk, hcpf⟩ := hcp
        have hown := (hES.draw HV.out.keep nq).own
        have hn0 : pre.length + 1 ≤ 1000 := by omega
        have HES := Lib.hid (hES.draw HV.out.keep nq); clear hES
        clear hm0 hm1 hm2 hm3 hm4 hcca hcck hnn
        go_wp2_with (at_builtin; refine wp_app1 _ rfl _ _ 57 rfl w0.heap.size 2 (.int .i64 0) 8 Tryz.underlying57 inf_int rfl _ _ _ rfl hown (.int .i64 x) _ rfl rfl (by omega) (by omega) (HES.out.chg.size) ?_; intro v1 w1 hown1 hgrow1 hblk1 hB1; obtain ⟨hk1, hf1⟩ := HES.out.grown_ck hgrow1; obtain ⟨g1, c1, rfl, hc1a, hc1b⟩ := own_some hown1 (by omega))
        have hE2 := HES.out.push HV.out.keep hown1 hgrow1 hblk1
        clear hk1 hf1 hblk1 hB1 hgrow1 hown1 hown hcpk hcpf
        generalize hw2 : w1.setCell ⟨o.k, 0, none⟩ (.slice (some ⟨g1, 0, none⟩) (pre.length + 1) c1) = w2 at *
        clear hw2 HES
        have hV2 := own_V1 hE2.own
        have hpl : (pre ++ [(x : Int)]).length = pre.length + 1 := by simp
        have hru : ((runAt (pre ++ [(x : Int)]) ((pre ++ [(x : Int)]).length - 1) : Nat) : Int) = (runAt (pre ++ [(x : Int)]) pre.length : Int) := by rw [hpl, Nat.add_sub_cancel]
        obtain ⟨r, hr⟩ : ∃ r : Int, (runAt (pre ++ [(x : Int)]) pre.length : Int) = r := ⟨_, rfl⟩
        rw [hr] at hru
        have Hru := Lib.hid hru; clear hru
        have Hr := Lib.hid hr; clear hr
        have Hpl := Lib.hid hpl; clear hpl
        obtain ⟨hm0, hm1, hm2, hm3, hm4⟩ := hE2.cm
        have hk2 := hE2.ck.1
        by_cases hbad : m.e < r
        ·have hfit : brF m A fr false rem pre x = [] := by
          unfold brF
          have h1 : fitAt m (pre ++ [(x : Int)]) pre.length = false := fit_runE Hr.out hbad
          rw [h1]; simp
         have hnext : runL step s0 (done ++ partF m A fr false rem pre (x + 1)) = (s', true) := by
          rw [partF_succ (by rw [Hlo.out]; exact hx0), hfit, List.append_nil]; exact Hrun.out
         have Hnext := Lib.hid hnext; clear hnext hfit
         have HE2 := Lib.hid hE2; clear hE2
         go_quiet ((go_at_call 79; first | exact quiet_at (sameRun_b _ _ _ _ Hru.out (V1.drewN hV2) (by have := Hpl.out; omega)) | exact quiet_at0 (sameRun_b _ _ _ _ Hru.out (V1.drewN hV2) (by have := Hpl.out; omega))))
         have hE3 := HE2.out.draw HV.out.keep nq
         obtain ⟨hk3, hf3⟩ := hE3.ck
         have HE3 := Lib.hid hE3; clear hE3
         clear hk2
         go_wp2_with fail
         go_roundw
         case rel => exact ⟨x + 1, s', F', _, by omega, by omega, by go_num, Hnext.out, by first | exact HE3.out.pop HV.out.keep rfl rfl | exact (HE3.out.pop HV.out.keep rfl rfl).draw HV.out.keep _⟩
         case measure => simp [intOf]; omega
        ·obtain ⟨tt, htt⟩ : ∃ tt, (false && decide ((x : Int) = geti fr pre.length)) = tt := ⟨_, rfl⟩
         have hbr : brF m A fr false rem pre x = genF m A fr tt rem (pre ++ [(x : Int)]) := by
          unfold brF
          have h1 : fitAt m (pre ++ [(x : Int)]) pre.length = true := by
           rw [fit_push, Hr.out, decide_eq_true (show r ≤ m.e by omega), Bool.true_and]
           rcases Hgood.out.2 with h | h
           ·rw [h]; rfl
           ·rw [decide_eq_true h]; simp
          rw [h1, Hgood.out.1, htt]; rfl
         obtain ⟨rst, hrst⟩ := partF_le (m := m) (A := A) (fr := fr) (pre := pre) (tight := false) (rem := rem) (x := x + 1) (y := d) (by omega)
         rw [partF_succ (by rw [Hlo.out]; exact hx0), hbr, ← Hdn.out, partF_end] at hrst
         have hL2 : L = (done ++ partF m A fr false rem pre x) ++ genF m A fr tt rem (pre ++ [(x : Int)]) ++ (rst ++ rest) := by rw [HL.out, hrst]; simp
         obtain ⟨re2, hre2⟩ : ∃ r, runL step s0 ((done ++ partF m A fr false rem pre x) ++ genF m A fr tt rem (pre ++ [(x : Int)])) = r := ⟨_, rfl⟩
         have hps : partF m A fr false rem pre (x + 1) = partF m A fr false rem pre x ++ genF m A fr tt rem (pre ++ [(x : Int)]) := by rw [partF_succ (by rw [Hlo.out]; exact hx0), hbr]
         have hdr : decide (m.e < r) = false := decide_eq_false hbad
         have Hbr := Lib.hid hbr; clear hbr
         have Hps := Lib.hid hps; clear hps
         have Hrst := Lib.hid hrst; clear hrst
         have HL2 := Lib.hid hL2; clear hL2
         have Hre2 := Lib.hid hre2; clear hre2
         have hE2d := hE2.drew HV.out.keep
         have hcc2 : w2.cell? ⟨o.c, 0, none⟩ = some (.func (.func 76) #[] #[.pointer (some ⟨o.k, 0, none⟩), .pointer (some ⟨o.m, 0, none⟩), .pointer (some ⟨o.v, 0, none⟩), .pointer (some ⟨o.f, 0, none⟩), .pointer (some ⟨o.a, 0, none⟩), .pointer (some ⟨o.c, 0, none⟩)]) := hE2.cc
         clear hm0 hm1 hm2 hm4
         obtain rfl : tt = false := by rw [← htt]; rfl
         have Htt := Lib.hid htt; clear htt
         cases hb2 : re2.2
         ·have Hb2 := Lib.hid hb2; clear hb2
          refine wp_region_noPanic ?_
          refine wp_region_held_drew (S := fun w' => w'.cell? ⟨o.m, 3, none⟩ = some (.int .i64 m.e) ∧ w'.cell? ⟨o.c, 0, none⟩ = some (.func (.func 76) #[] #[.pointer (some ⟨o.k, 0, none⟩), .pointer (some ⟨o.m, 0, none⟩), .pointer (some ⟨o.v, 0, none⟩), .pointer (some ⟨o.f, 0, none⟩), .pointer (some ⟨o.a, 0, none⟩), .pointer (some ⟨o.c, 0, none⟩)])) (by kernel_rfl) ⟨hE2d.cm.2.2.2.1, hE2d.cc⟩ (fun hHeld => ?_)
          (refine wpAnyH_take (i := 2) (v := .pointer (some ⟨o.m, 3, none⟩)) rfl (by kernel_rfl) (by kernel_rfl) (by kernel_rfl) (fun _ _ _ h => h) (Or.inl ⟨by kernel_rfl, fun w hSw => by (try dsimp only at hSw); go_split_ands; go_simp⟩) (by assumption) ?_; simp only [Act.put, List.setIfInBounds_toArray, List.set_cons_zero, List.set_cons_succ])
          (refine wpAnyH_take (i := 3) (v := .int .i64 m.e) rfl (by kernel_rfl) (by kernel_rfl) (by kernel_rfl) (fun _ _ _ h => h) (Or.inl ⟨by kernel_rfl, fun w hSw => by (try dsimp only at hSw); go_split_ands; go_simp⟩) (by assumption) ?_; simp only [Act.put, List.setIfInBounds_toArray, List.set_cons_zero, List.set_cons_succ])
          (refine wpAnyH_ready (rs := [0]) (by kernel_rfl) (by simp) (AllReadyH.cons rfl (fun K hK => ?_) AllReadyH.nil); go_simp)
          (refine hK.out _ _ ⟨hE2d.cm.2.2.2.1, hE2d.cc⟩ (fun hHeld => ?_); clear hK K; (try simp only [Act.put, List.setIfInBounds_toArray, List.set_cons_zero, List.set_cons_succ]))
          (refine wpAnyH_ready (rs := [1]) (by kernel_rfl) (by simp) (AllReadyH.cons rfl (fun K hK => ?_) AllReadyH.nil); go_simp)
          go_at_call 79
          refine (sameRun_b _ (pre ++ [(x : Int)]) _ _ Hru.out (hV2.below ((Below.refl _ _).drew)) (by have := Hpl.out; omega)).mono ?_
          rintro e' w' ⟨rfl, n3, rfl⟩
          have hE2n := hE2.draw HV.out.keep (1 + n3)
          dsimp only
          (refine hK.out _ _ ⟨hE2n.cm.2.2.2.1, hE2n.cc⟩ (fun hHeld => ?_); clear hK K; (try simp only [Act.put, List.setIfInBounds_toArray, List.set_cons_zero, List.set_cons_succ]))
          (refine wpAnyH_take (i := 4) (v := .bool false) rfl (by kernel_rfl) (by kernel_rfl) (by kernel_rfl) (fun _ _ _ h => h) (Or.inl ⟨by kernel_rfl, fun w hSw => by (try dsimp only at hSw); go_split_ands; go_simp⟩) (by assumption) ?_; simp only [Act.put, List.setIfInBounds_toArray, List.set_cons_zero, List.set_cons_succ])
          (refine wpAnyH_take (i := 5) (v := .bool false) rfl (by kernel_rfl) (by kernel_rfl) (by kernel_rfl) (fun _ _ _ h => h) (Or.inl ⟨by kernel_rfl, fun w hSw => by (try dsimp only at hSw); go_split_ands; go_simp⟩) (by assumption) ?_; simp only [Act.put, List.setIfInBounds_toArray, List.set_cons_zero, List.set_cons_succ])
          (refine wpAnyH_take (i := 6) (v := .func (.func 76) #[] #[.pointer (some ⟨o.k, 0, none⟩), .pointer (some ⟨o.m, 0, none⟩), .pointer (some ⟨o.v, 0, none⟩), .pointer (some ⟨o.f, 0, none⟩), .pointer (some ⟨o.a, 0, none⟩), .pointer (some ⟨o.c, 0, none⟩)]) rfl (by kernel_rfl) (by kernel_rfl) (by kernel_rfl) (fun _ _ _ h => h) (Or.inl ⟨by kernel_rfl, fun w hSw => by (try dsimp only at hSw); go_split_ands; go_simp⟩) (by assumption) ?_; simp only [Act.put, List.setIfInBounds_toArray, List.set_cons_zero, List.set_cons_succ])
          (refine wpAnyH_take (i := 7) (v := .bool false) rfl (by kernel_rfl) (by kernel_rfl) (by kernel_rfl) (fun _ _ _ h => h) (Or.inl ⟨by kernel_rfl, fun w hSw => by (try dsimp only at hSw); go_split_ands; go_simp⟩) (by assumption) ?_; simp only [Act.put, List.setIfInBounds_toArray, List.set_cons_zero, List.set_cons_succ])
          (refine wpAnyH_take (i := 8) (v := .bool false) rfl (by kernel_rfl) (by kernel_rfl) (by kernel_rfl) (fun _ _ _ h => h) (Or.inl ⟨by kernel_rfl, fun w hSw => by (try dsimp only at hSw); go_split_ands; go_simp⟩) (by assumption) ?_; simp only [Act.put, List.setIfInBounds_toArray, List.set_cons_zero, List.set_cons_succ])
          (refine wpAnyH_take (i := 9) (v := undef) rfl (by kernel_rfl) (by kernel_rfl) (by kernel_rfl) (fun _ _ _ h => h) (Or.inr ⟨by kernel_rfl, rfl⟩) (by assumption) ?_; simp only [Act.put, List.setIfInBounds_toArray, List.set_cons_zero, List.set_cons_succ])
          (refine wpAnyH_take (i := 10) (v := undef) rfl (by kernel_rfl) (by kernel_rfl) (by kernel_rfl) (fun _ _ _ h => h) (Or.inr ⟨by kernel_rfl, rfl⟩) (by assumption) ?_; simp only [Act.put, List.setIfInBounds_toArray, List.set_cons_zero, List.set_cons_succ])
          (refine wpAnyH_take (i := 11) (v := undef) rfl (by kernel_rfl) (by kernel_rfl) (by kernel_rfl) (fun _ _ _ h => h) (Or.inr ⟨by kernel_rfl, rfl⟩) (by assumption) ?_; simp only [Act.put, List.setIfInBounds_toArray, List.set_cons_zero, List.set_cons_succ])
          (refine wpAnyH_take (i := 12) (v := .bool false) rfl (by kernel_rfl) (by kernel_rfl) (by kernel_rfl) (fun _ _ _ h => h) (Or.inl ⟨by kernel_rfl, fun w hSw => by (try dsimp only at hSw); go_split_ands; go_simp⟩) (by assumption) ?_; simp only [Act.put, List.setIfInBounds_toArray, List.set_cons_zero, List.set_cons_succ])
          (refine wpAnyH_ready (rs := [13]) (by kernel_rfl) (by simp) (AllReadyH.cons rfl (fun K hK => ?_) AllReadyH.nil); go_simp)
          refine (IH.out s' F' _ (pre ++ [(x : Int)]) _ (done ++ partF m A fr false rem pre x) (rst ++ rest) (by have := Hpl.out; have := Hpre.out; omega) (range_push Hrange.out (by omega)) HL2.out Hrun.out hE2n).mono ?_
          rintro e' w' ⟨F2, kv2, rfl, hE4⟩
          rw [Hre2.out] at hE4
          rw [Hre2.out, Hb2.out]
          clear hE2n hE2d hE2 hHeld hcc2 hm3
          obtain ⟨g2, c2, rfl, hc2a, hc2b⟩ := own_some (own_len hE4.own) (by omega)
          dsimp only
          (refine hK.out _ _ ⟨hE4.cm.2.2.2.1, hE4.cc⟩ (fun hHeld => ?_); clear hK K; (try simp only [Act.put, List.setIfInBounds_toArray, List.set_cons_zero, List.set_cons_succ]))
          (refine wpAnyH_take (i := 14) (v := .bool false) rfl (by kernel_rfl) (by kernel_rfl) (by kernel_rfl) (fun _ _ _ h => h) (Or.inl ⟨by kernel_rfl, fun w hSw => by (try dsimp only at hSw); go_split_ands; go_simp⟩) (by assumption) ?_; simp only [Act.put, List.setIfInBounds_toArray, List.set_cons_zero, List.set_cons_succ])
          (refine wpAnyH_take (i := 15) (v := .bool false) rfl (by kernel_rfl) (by kernel_rfl) (by kernel_rfl) (fun _ _ _ h => h) (Or.inl ⟨by kernel_rfl, fun w hSw => by (try dsimp only at hSw); go_split_ands; go_simp⟩) (by assumption) ?_; simp only [Act.put, List.setIfInBounds_toArray, List.set_cons_zero, List.set_cons_succ])
          refine wpAnyH_done (by kernel_rfl) (NoPanic.normal ?_) _
          obtain ⟨hk4, hf4⟩ := hE4.ck
          have HE3 := Lib.hid hE4; clear hE4 hHeld
          go_wp2_with fail
          go_ret
          have hfin : res = (re2.1, false) := by
           rw [← Hres.out, Hrst.out, ← List.append_assoc, ← List.append_assoc, runL_append, if_neg (by rw [Hre2.out, Hb2.out]; decide), Hre2.out]
          exact ⟨_, _, by rw [hfin]; rfl, by rw [hfin]; exact HE3.out.pop HV.out.keep rfl rfl⟩
         ·have Hb2 := Lib.hid hb2; clear hb2
          refine wp_region_noPanic ?_
          refine wp_region_held_drew (S := fun w' => w'.cell? ⟨o.m, 3, none⟩ = some (.int .i64 m.e) ∧ w'.cell? ⟨o.c, 0, none⟩ = some (.func (.func 76) #[] #[.pointer (some ⟨o.k, 0, none⟩), .pointer (some ⟨o.m, 0, none⟩), .pointer (some ⟨o.v, 0, none⟩), .pointer (some ⟨o.f, 0, none⟩), .pointer (some ⟨o.a, 0, none⟩), .pointer (some ⟨o.c, 0, none⟩)])) (by kernel_rfl) ⟨hE2d.cm.2.2.2.1, hE2d.cc⟩ (fun hHeld => ?_)
          (refine wpAnyH_take (i := 2) (v := .pointer (some ⟨o.m, 3, none⟩)) rfl (by kernel_rfl) (by kernel_rfl) (by kernel_rfl) (fun _ _ _ h => h) (Or.inl ⟨by kernel_rfl, fun w hSw => by (try dsimp only at hSw); go_split_ands; go_simp⟩) (by assumption) ?_; simp only [Act.put, List.setIfInBounds_toArray, List.set_cons_zero, List.set_cons_succ])
          (refine wpAnyH_take (i := 3) (v := .int .i64 m.e) rfl (by kernel_rfl) (by kernel_rfl) (by kernel_rfl) (fun _ _ _ h => h) (Or.inl ⟨by kernel_rfl, fun w hSw => by (try dsimp only at hSw); go_split_ands; go_simp⟩) (by assumption) ?_; simp only [Act.put, List.setIfInBounds_toArray, List.set_cons_zero, List.set_cons_succ])
          (refine wpAnyH_ready (rs := [0]) (by kernel_rfl) (by simp) (AllReadyH.cons rfl (fun K hK => ?_) AllReadyH.nil); go_simp)
          (refine hK.out _ _ ⟨hE2d.cm.2.2.2.1, hE2d.cc⟩ (fun hHeld => ?_); clear hK K; (try simp only [Act.put, List.setIfInBounds_toArray, List.set_cons_zero, List.set_cons_succ]))
          (refine wpAnyH_ready (rs := [1]) (by kernel_rfl) (by simp) (AllReadyH.cons rfl (fun K hK => ?_) AllReadyH.nil); go_simp)
          go_at_call 79
          refine (sameRun_b _ (pre ++ [(x : Int)]) _ _ Hru.out (hV2.below ((Below.refl _ _).drew)) (by have := Hpl.out; omega)).mono ?_
          rintro e' w' ⟨rfl, n3, rfl⟩
          have hE2n := hE2.draw HV.out.keep (1 + n3)
          dsimp only
          (refine hK.out _ _ ⟨hE2n.cm.2.2.2.1, hE2n.cc⟩ (fun hHeld => ?_); clear hK K; (try simp only [Act.put, List.setIfInBounds_toArray, List.set_cons_zero, List.set_cons_succ]))
          (refine wpAnyH_take (i := 4) (v := .bool false) rfl (by kernel_rfl) (by kernel_rfl) (by kernel_rfl) (fun _ _ _ h => h) (Or.inl ⟨by kernel_rfl, fun w hSw => by (try dsimp only at hSw); go_split_ands; go_simp⟩) (by assumption) ?_; simp only [Act.put, List.setIfInBounds_toArray, List.set_cons_zero, List.set_cons_succ])
          (refine wpAnyH_take (i := 5) (v := .bool false) rfl (by kernel_rfl) (by kernel_rfl) (by kernel_rfl) (fun _ _ _ h => h) (Or.inl ⟨by kernel_rfl, fun w hSw => by (try dsimp only at hSw); go_split_ands; go_simp⟩) (by assumption) ?_; simp only [Act.put, List.setIfInBounds_toArray, List.set_cons_zero, List.set_cons_succ])
          (refine wpAnyH_take (i := 6) (v := .func (.func 76) #[] #[.pointer (some ⟨o.k, 0, none⟩), .pointer (some ⟨o.m, 0, none⟩), .pointer (some ⟨o.v, 0, none⟩), .pointer (some ⟨o.f, 0, none⟩), .pointer (some ⟨o.a, 0, none⟩), .pointer (some ⟨o.c, 0, none⟩)]) rfl (by kernel_rfl) (by kernel_rfl) (by kernel_rfl) (fun _ _ _ h => h) (Or.inl ⟨by kernel_rfl, fun w hSw => by (try dsimp only at hSw); go_split_ands; go_simp⟩) (by assumption) ?_; simp only [Act.put, List.setIfInBounds_toArray, List.set_cons_zero, List.set_cons_succ])
          (refine wpAnyH_take (i := 7) (v := .bool false) rfl (by kernel_rfl) (by kernel_rfl) (by kernel_rfl) (fun _ _ _ h => h) (Or.inl ⟨by kernel_rfl, fun w hSw => by (try dsimp only at hSw); go_split_ands; go_simp⟩) (by assumption) ?_; simp only [Act.put, List.setIfInBounds_toArray, List.set_cons_zero, List.set_cons_succ])
          (refine wpAnyH_take (i := 8) (v := .bool false) rfl (by kernel_rfl) (by kernel_rfl) (by kernel_rfl) (fun _ _ _ h => h) (Or.inl ⟨by kernel_rfl, fun w hSw => by (try dsimp only at hSw); go_split_ands; go_simp⟩) (by assumption) ?_; simp only [Act.put, List.setIfInBounds_toArray, List.set_cons_zero, List.set_cons_succ])
          (refine wpAnyH_take (i := 9) (v := undef) rfl (by kernel_rfl) (by kernel_rfl) (by kernel_rfl) (fun _ _ _ h => h) (Or.inr ⟨by kernel_rfl, rfl⟩) (by assumption) ?_; simp only [Act.put, List.setIfInBounds_toArray, List.set_cons_zero, List.set_cons_succ])
          (refine wpAnyH_take (i := 10) (v := undef) rfl (by kernel_rfl) (by kernel_rfl) (by kernel_rfl) (fun _ _ _ h => h) (Or.inr ⟨by kernel_rfl, rfl⟩) (by assumption) ?_; simp only [Act.put, List.setIfInBounds_toArray, List.set_cons_zero, List.set_cons_succ])
          (refine wpAnyH_take (i := 11) (v := undef) rfl (by kernel_rfl) (by kernel_rfl) (by kernel_rfl) (fun _ _ _ h => h) (Or.inr ⟨by kernel_rfl, rfl⟩) (by assumption) ?_; simp only [Act.put, List.setIfInBounds_toArray, List.set_cons_zero, List.set_cons_succ])
          (refine wpAnyH_take (i := 12) (v := .bool false) rfl (by kernel_rfl) (by kernel_rfl) (by kernel_rfl) (fun _ _ _ h => h) (Or.inl ⟨by kernel_rfl, fun w hSw => by (try dsimp only at hSw); go_split_ands; go_simp⟩) (by assumption) ?_; simp only [Act.put, List.setIfInBounds_toArray, List.set_cons_zero, List.set_cons_succ])
          (refine wpAnyH_ready (rs := [13]) (by kernel_rfl) (by simp) (AllReadyH.cons rfl (fun K hK => ?_) AllReadyH.nil); go_simp)
          refine (IH.out s' F' _ (pre ++ [(x : Int)]) _ (done ++ partF m A fr false rem pre x) (rst ++ rest) (by have := Hpl.out; have := Hpre.out; omega) (range_push Hrange.out (by omega)) HL2.out Hrun.out hE2n).mono ?_
          rintro e' w' ⟨F2, kv2, rfl, hE4⟩
          rw [Hre2.out] at hE4
          rw [Hre2.out, Hb2.out]
          clear hE2n hE2d hE2 hHeld hcc2 hm3
          obtain ⟨g2, c2, rfl, hc2a, hc2b⟩ := own_some (own_len hE4.own) (by omega)
          dsimp only
          (refine hK.out _ _ ⟨hE4.cm.2.2.2.1, hE4.cc⟩ (fun hHeld => ?_); clear hK K; (try simp only [Act.put, List.setIfInBounds_toArray, List.set_cons_zero, List.set_cons_succ]))
          (refine wpAnyH_take (i := 14) (v := .bool true) rfl (by kernel_rfl) (by kernel_rfl) (by kernel_rfl) (fun _ _ _ h => h) (Or.inl ⟨by kernel_rfl, fun w hSw => by (try dsimp only at hSw); go_split_ands; go_simp⟩) (by assumption) ?_; simp only [Act.put, List.setIfInBounds_toArray, List.set_cons_zero, List.set_cons_succ])
          (refine wpAnyH_take (i := 15) (v := .bool true) rfl (by kernel_rfl) (by kernel_rfl) (by kernel_rfl) (fun _ _ _ h => h) (Or.inl ⟨by kernel_rfl, fun w hSw => by (try dsimp only at hSw); go_split_ands; go_simp⟩) (by assumption) ?_; simp only [Act.put, List.setIfInBounds_toArray, List.set_cons_zero, List.set_cons_succ])
          refine wpAnyH_done (by kernel_rfl) (NoPanic.normal ?_) _
          obtain ⟨hk4, hf4⟩ := hE4.ck
          have HE3 := Lib.hid hE4; clear hE4 hHeld
          go_wp2_with fail
          go_roundw
          case rel => exact ⟨x + 1, re2.1, _, _, by omega, by omega, by go_num, by rw [Hps.out, ← List.append_assoc]; exact runL_pair Hre2.out Hb2.out, HE3.out.pop HV.out.keep rfl rfl⟩
          case measure => simp [intOf]; omega
      ·have hnn := neqFunc fa ac
       have hcl := fun (w' : World) (hw : Chg F0 w0 w') => hcall pre.length x w' (by have := Hpre.out; omega) (by omega) (by omega) hw
       rw [hgood.1] at hcl
       have Hcl := Lib.hid hcl; clear hcl hcall
       unfold Enters at hen
       have hchg := hES.chg
       by_cases h0 : pre.length = 0
       ·have hd0 : decide (0 < pre.length) = false := by simp [h0]
        have H0 := Lib.hid h0; clear h0
        have Hgood := Lib.hid hgood; clear hgood
        go_wp2_with fail
        go_quiet ((first | exact quiet_at (Hcl.out _ (hchg.drewN' _)) | exact quiet_at0 (Hcl.out _ (hchg.drewN' _))))
        have hcp := (hES.draw HV.out.keep nq).ck
        obtain ⟨hcpk, hcpf⟩ := hcp
        have hown := (hES.draw HV.out.keep nq).own
        have hn0 : pre.length + 1 ≤ 1000 := by omega
        have HES := Lib.hid (hES.draw HV.out.keep nq); clear hES
        clear hm0 hm1 hm2 hm3 hm4 hcca hcck hnn
        go_wp2_with (at_builtin; refine wp_app1 _ rfl _ _ 57 rfl w0.heap.size 2 (.int .i64 0) 8 Tryz.underlying57 inf_int rfl _ _ _ rfl hown (.int .i64 x) _ rfl rfl (by omega) (by omega) (HES.out.chg.size) ?_; intro v1 w1 hown1 hgrow1 hblk1 hB1; obtain ⟨hk1, hf1⟩ := HES.out.grown_ck hgrow1; obtain ⟨g1, c1, rfl, hc1a, hc1b⟩ := own_some hown1 (by omega))
        have hE2 := HES.out.push HV.out.keep hown1 hgrow1 hblk1
        clear hk1 hf1 hblk1 hB1 hgrow1 hown1 hown hcpk hcpf
        generalize hw2 : w1.setCell ⟨o.k, 0, none⟩ (.slice (some ⟨g1, 0, none⟩) (pre.length + 1) c1) = w2 at *
        clear hw2 HES
        have hV2 := own_V1 hE2.own
        have hpl : (pre ++ [(x : Int)]).length = pre.length + 1 := by simp
        have hru : ((runAt (pre ++ [(x : Int)]) ((pre ++ [(x : Int)]).length - 1) : Nat) : Int) = (runAt (pre ++ [(x : Int)]) pre.length : Int) := by rw [hpl, Nat.add_sub_cancel]
        obtain ⟨r, hr⟩ : ∃ r : Int, (runAt (pre ++ [(x : Int)]) pre.length : Int) = r := ⟨_, rfl⟩
        rw [hr] at hru
        have Hru := Lib.hid hru; clear hru
        have Hr := Lib.hid hr; clear hr
        have Hpl := Lib.hid hpl; clear hpl
        obtain ⟨hm0, hm1, hm2, hm3, hm4⟩ := hE2.cm
        have hk2 := hE2.ck.1
        by_cases hbad : m.e < r
        ·have hfit : brF m A fr false rem pre x = [] := by
          unfold brF
          have h1 : fitAt m (pre ++ [(x : Int)]) pre.length = false := fit_runE Hr.out hbad
          rw [h1]; simp
         have hnext : runL step s0 (done ++ partF m A fr false rem pre (x + 1)) = (s', true) := by
          rw [partF_succ (by rw [Hlo.out]; exact hx0), hfit, List.append_nil]; exact Hrun.out
         have Hnext := Lib.hid hnext; clear hnext hfit
         have HE2 := Lib.hid hE2; clear hE2
         go_quiet ((go_at_call 79; first | exact quiet_at (sameRun_b _ _ _ _ Hru.out (V1.drewN hV2) (by have := Hpl.out; omega)) | exact quiet_at0 (sameRun_b _ _ _ _ Hru.out (V1.drewN hV2) (by have := Hpl.out; omega))))
         have hE3 := HE2.out.draw HV.out.keep nq
         obtain ⟨hk3, hf3⟩ := hE3.ck
         have HE3 := Lib.hid hE3; clear hE3
         clear hk2
         go_wp2_with fail
         go_roundw
         case rel => exact ⟨x + 1, s', F', _, by omega, by omega, by go_num, Hnext.out, by first | exact HE3.out.pop HV.out.keep rfl rfl | exact (HE3.out.pop HV.out.keep rfl rfl).draw HV.out.keep _⟩
         case measure => simp [intOf]; omega
        ·obtain ⟨tt, htt⟩ : ∃ tt, (false && decide ((x : Int) = geti fr pre.length)) = tt := ⟨_, rfl⟩
         have hbr : brF m A fr false rem pre x = genF m A fr tt rem (pre ++ [(x : Int)]) := by
          unfold brF
          have h1 : fitAt m (pre ++ [(x : Int)]) pre.length = true := by
           rw [fit_push, Hr.out, decide_eq_true (show r ≤ m.e by omega), Bool.true_and]
           rcases Hgood.out.2 with h | h
           ·rw [h]; rfl
           ·rw [decide_eq_true h]; simp
          rw [h1, Hgood.out.1, htt]; rfl
         obtain ⟨rst, hrst⟩ := partF_le (m := m) (A := A) (fr := fr) (pre := pre) (tight := false) (rem := rem) (x := x + 1) (y := d) (by omega)
         rw [partF_succ (by rw [Hlo.out]; exact hx0), hbr, ← Hdn.out, partF_end] at hrst
         have hL2 : L = (done ++ partF m A fr false rem pre x) ++ genF m A fr tt rem (pre ++ [(x : Int)]) ++ (rst ++ rest) := by rw [HL.out, hrst]; simp
         obtain ⟨re2, hre2⟩ : ∃ r, runL step s0 ((done ++ partF m A fr false rem pre x) ++ genF m A fr tt rem (pre ++ [(x : Int)])) = r := ⟨_, rfl⟩
         have hps : partF m A fr false rem pre (x + 1) = partF m A fr false rem pre x ++ genF m A fr tt rem (pre ++ [(x : Int)]) := by rw [partF_succ (by rw [Hlo.out]; exact hx0), hbr]
         have hdr : decide (m.e < r) = false := decide_eq_false hbad
         have Hbr := Lib.hid hbr; clear hbr
         have Hps := Lib.hid hps; clear hps
         have Hrst := Lib.hid hrst; clear hrst
         have HL2 := Lib.hid hL2; clear hL2
         have Hre2 := Lib.hid hre2; clear hre2
         have hE2d := hE2.drew HV.out.keep
         have hcc2 : w2.cell? ⟨o.c, 0, none⟩ = some (.func (.func 76) #[] #[.pointer (some ⟨o.k, 0, none⟩), .pointer (some ⟨o.m, 0, none⟩), .pointer (some ⟨o.v, 0, none⟩), .pointer (some ⟨o.f, 0, none⟩), .pointer (some ⟨o.a, 0, none⟩), .pointer (some ⟨o.c, 0, none⟩)]) := hE2.cc
         clear hm0 hm1 hm2 hm4
         obtain rfl : tt = false := by rw [← htt]; rfl
         have Htt := Lib.hid htt; clear htt
         cases hb2 : re2.2
         ·have Hb2 := Lib.hid hb2; clear hb2
          refine wp_region_noPanic ?_
          refine wp_region_held_drew (S := fun w' => w'.cell? ⟨o.m, 3, none⟩ = some (.int .i64 m.e) ∧ w'.cell? ⟨o.c, 0, none⟩ = some (.func (.func 76) #[] #[.pointer (some ⟨o.k, 0, none⟩), .pointer (some ⟨o.m, 0, none⟩), .pointer (some ⟨o.v, 0, none⟩), .pointer (some ⟨o.f, 0, none⟩), .pointer (some ⟨o.a, 0, none⟩), .pointer (some ⟨o.c, 0, none⟩)])) (by kernel_rfl) ⟨hE2d.cm.2.2.2.1, hE2d.cc⟩ (fun hHeld => ?_)
          (refine wpAnyH_take (i := 2) (v := .pointer (some ⟨o.m, 3, none⟩)) rfl (by kernel_rfl) (by kernel_rfl) (by kernel_rfl) (fun _ _ _ h => h) (Or.inl ⟨by kernel_rfl, fun w hSw => by (try dsimp only at hSw); go_split_ands; go_simp⟩) (by assumption) ?_; simp only [Act.put, List.setIfInBounds_toArray, List.set_cons_zero, List.set_cons_succ])
          (refine wpAnyH_take (i := 3) (v := .int .i64 m.e) rfl (by kernel_rfl) (by kernel_rfl) (by kernel_rfl) (fun _ _ _ h => h) (Or.inl ⟨by kernel_rfl, fun w hSw => by (try dsimp only at hSw); go_split_ands; go_simp⟩) (by assumption) ?_; simp only [Act.put, List.setIfInBounds_toArray, List.set_cons_zero, List.set_cons_succ])
          (refine wpAnyH_ready (rs := [0]) (by kernel_rfl) (by simp) (AllReadyH.cons rfl (fun K hK => ?_) AllReadyH.nil); go_simp)
          (refine hK.out _ _ ⟨hE2d.cm.2.2.2.1, hE2d.cc⟩ (fun hHeld => ?_); clear hK K; (try simp only [Act.put, List.setIfInBounds_toArray, List.set_cons_zero, List.set_cons_succ]))
          (refine wpAnyH_ready (rs := [1]) (by kernel_rfl) (by simp) (AllReadyH.cons rfl (fun K hK => ?_) AllReadyH.nil); go_simp)
          go_at_call 79
          refine (sameRun_b _ (pre ++ [(x : Int)]) _ _ Hru.out (hV2.below ((Below.refl _ _).drew)) (by have := Hpl.out; omega)).mono ?_
          rintro e' w' ⟨rfl, n3, rfl⟩
          have hE2n := hE2.draw HV.out.keep (1 + n3)
          dsimp only
          (refine hK.out _ _ ⟨hE2n.cm.2.2.2.1, hE2n.cc⟩ (fun hHeld => ?_); clear hK K; (try simp only [Act.put, List.setIfInBounds_toArray, List.set_cons_zero, List.set_cons_succ]))
          (refine wpAnyH_take (i := 4) (v := .bool false) rfl (by kernel_rfl) (by kernel_rfl) (by kernel_rfl) (fun _ _ _ h => h) (Or.inl ⟨by kernel_rfl, fun w hSw => by (try dsimp only at hSw); go_split_ands; go_simp⟩) (by assumption) ?_; simp only [Act.put, List.setIfInBounds_toArray, List.set_cons_zero, List.set_cons_succ])
          (refine wpAnyH_take (i := 5) (v := .bool false) rfl (by kernel_rfl) (by kernel_rfl) (by kernel_rfl) (fun _ _ _ h => h) (Or.inl ⟨by kernel_rfl, fun w hSw => by (try dsimp only at hSw); go_split_ands; go_simp⟩) (by assumption) ?_; simp only [Act.put, List.setIfInBounds_toArray, List.set_cons_zero, List.set_cons_succ])
          (refine wpAnyH_take (i := 6) (v := .func (.func 76) #[] #[.pointer (some ⟨o.k, 0, none⟩), .pointer (some ⟨o.m, 0, none⟩), .pointer (some ⟨o.v, 0, none⟩), .pointer (some ⟨o.f, 0, none⟩), .pointer (some ⟨o.a, 0, none⟩), .pointer (some ⟨o.c, 0, none⟩)]) rfl (by kernel_rfl) (by kernel_rfl) (by kernel_rfl) (fun _ _ _ h => h) (Or.inl ⟨by kernel_rfl, fun w hSw => by (try dsimp only at hSw); go_split_ands; go_simp⟩) (by assumption) ?_; simp only [Act.put, List.setIfInBounds_toArray, List.set_cons_zero, List.set_cons_succ])
          (refine wpAnyH_take (i := 7) (v := .bool false) rfl (by kernel_rfl) (by kernel_rfl) (by kernel_rfl) (fun _ _ _ h => h) (Or.inl ⟨by kernel_rfl, fun w hSw => by (try dsimp only at hSw); go_split_ands; go_simp⟩) (by assumption) ?_; simp only [Act.put, List.setIfInBounds_toArray, List.set_cons_zero, List.set_cons_succ])
          (refine wpAnyH_take (i := 8) (v := .bool false) rfl (by kernel_rfl) (by kernel_rfl) (by kernel_rfl) (fun _ _ _ h => h) (Or.inl ⟨by kernel_rfl, fun w hSw => by (try dsimp only at hSw); go_split_ands; go_simp⟩) (by assumption) ?_; simp only [Act.put, List.setIfInBounds_toArray, List.set_cons_zero, List.set_cons_succ])
          (refine wpAnyH_take (i := 9) (v := undef) rfl (by kernel_rfl) (by kernel_rfl) (by kernel_rfl) (fun _ _ _ h => h) (Or.inr ⟨by kernel_rfl, rfl⟩) (by assumption) ?_; simp only [Act.put, List.setIfInBounds_toArray, List.set_cons_zero, List.set_cons_succ])
          (refine wpAnyH_take (i := 10) (v := undef) rfl (by kernel_rfl) (by kernel_rfl) (by kernel_rfl) (fun _ _ _ h => h) (Or.inr ⟨by kernel_rfl, rfl⟩) (by assumption) ?_; simp only [Act.put, List.setIfInBounds_toArray, List.set_cons_zero, List.set_cons_succ])
          (refine wpAnyH_take (i := 11) (v := undef) rfl (by kernel_rfl) (by kernel_rfl) (by kernel_rfl) (fun _ _ _ h => h) (Or.inr ⟨by kernel_rfl, rfl⟩) (by assumption) ?_; simp only [Act.put, List.setIfInBounds_toArray, List.set_cons_zero, List.set_cons_succ])
          (refine wpAnyH_take (i := 12) (v := .bool false) rfl (by kernel_rfl) (by kernel_rfl) (by kernel_rfl) (fun _ _ _ h => h) (Or.inl ⟨by kernel_rfl, fun w hSw => by (try dsimp only at hSw); go_split_ands; go_simp⟩) (by assumption) ?_; simp only [Act.put, List.setIfInBounds_toArray, List.set_cons_zero, List.set_cons_succ])
          (refine wpAnyH_ready (rs := [13]) (by kernel_rfl) (by simp) (AllReadyH.cons rfl (fun K hK => ?_) AllReadyH.nil); go_simp)
          refine (IH.out s' F' _ (pre ++ [(x : Int)]) _ (done ++ partF m A fr false rem pre x) (rst ++ rest) (by have := Hpl.out; have := Hpre.out; omega) (range_push Hrange.out (by omega)) HL2.out Hrun.out hE2n).mono ?_
          rintro e' w' ⟨F2, kv2, rfl, hE4⟩
          rw [Hre2.out] at hE4
          rw [Hre2.out, Hb2.out]
          clear hE2n hE2d hE2 hHeld hcc2 hm3
          obtain ⟨g2, c2, rfl, hc2a, hc2b⟩ := own_some (own_len hE4.own) (by omega)
          dsimp only
          (refine hK.out _ _ ⟨hE4.cm.2.2.2.1, hE4.cc⟩ (fun hHeld => ?_); clear hK K; (try simp only [Act.put, List.setIfInBounds_toArray, List.set_cons_zero, List.set_cons_succ]))
          (refine wpAnyH_take (i := 14) (v := .bool false) rfl (by kernel_rfl) (by kernel_rfl) (by kernel_rfl) (fun _ _ _ h => h) (Or.inl ⟨by kernel_rfl, fun w hSw => by (try dsimp only at hSw); go_split_ands; go_simp⟩) (by assumption) ?_; simp only [Act.put, List.setIfInBounds_toArray, List.set_cons_zero, List.set_cons_succ])
          (refine wpAnyH_take (i := 15) (v := .bool false) rfl (by kernel_rfl) (by kernel_rfl) (by kernel_rfl) (fun _ _ _ h => h) (Or.inl ⟨by kernel_rfl, fun w hSw => by (try dsimp only at hSw); go_split_ands; go_simp⟩) (by assumption) ?_; simp only [Act.put, List.setIfInBounds_toArray, List.set_cons_zero, List.set_cons_succ])
          refine wpAnyH_done (by kernel_rfl) (NoPanic.normal ?_) _
          obtain ⟨hk4, hf4⟩ := hE4.ck
          have HE3 := Lib.hid hE4; clear hE4 hHeld
          go_wp2_with fail
          go_ret
          have hfin : res = (re2.1, false) := by
           rw [← Hres.out, Hrst.out, ← List.append_assoc, ← List.append_assoc, runL_append, if_neg (by rw [Hre2.out, Hb2.out]; decide), Hre2.out]
          exact ⟨_, _, by rw [hfin]; rfl, by rw [hfin]; exact HE3.out.pop HV.out.keep rfl rfl⟩
         ·have Hb2 := Lib.hid hb2; clear hb2
          refine wp_region_noPanic ?_
          refine wp_region_held_drew (S := fun w' => w'.cell? ⟨o.m, 3, none⟩ = some (.int .i64 m.e) ∧ w'.cell? ⟨o.c, 0, none⟩ = some (.func (.func 76) #[] #[.pointer (some ⟨o.k, 0, none⟩), .pointer (some ⟨o.m, 0, none⟩), .pointer (some ⟨o.v, 0, none⟩), .pointer (some ⟨o.f, 0, none⟩), .pointer (some ⟨o.a, 0, none⟩), .pointer (some ⟨o.c, 0, none⟩)])) (by kernel_rfl) ⟨hE2d.cm.2.2.2.1, hE2d.cc⟩ (fun hHeld => ?_)
          (refine wpAnyH_take (i := 2) (v := .pointer (some ⟨o.m, 3, none⟩)) rfl (by kernel_rfl) (by kernel_rfl) (by kernel_rfl) (fun _ _ _ h => h) (Or.inl ⟨by kernel_rfl, fun w hSw => by (try dsimp only at hSw); go_split_ands; go_simp⟩) (by assumption) ?_; simp only [Act.put, List.setIfInBounds_toArray, List.set_cons_zero, List.set_cons_succ])
          (refine wpAnyH_take (i := 3) (v := .int .i64 m.e) rfl (by kernel_rfl) (by kernel_rfl) (by kernel_rfl) (fun _ _ _ h => h) (Or.inl ⟨by kernel_rfl, fun w hSw => by (try dsimp only at hSw); go_split_ands; go_simp⟩) (by assumption) ?_; simp only [Act.put, List.setIfInBounds_toArray, List.set_cons_zero, List.set_cons_succ])
          (refine wpAnyH_ready (rs := [0]) (by kernel_rfl) (by simp) (AllReadyH.cons rfl (fun K hK => ?_) AllReadyH.nil); go_simp)
          (refine hK.out _ _ ⟨hE2d.cm.2.2.2.1, hE2d.cc⟩ (fun hHeld => ?_); clear hK K; (try simp only [Act.put, List.setIfInBounds_toArray, List.set_cons_zero, List.set_cons_succ]))
          (refine wpAnyH_ready (rs := [1]) (by kernel_rfl) (by simp) (AllReadyH.cons rfl (fun K hK => ?_) AllReadyH.nil); go_simp)
          go_at_call 79
          refine (sameRun_b _ (pre ++ [(x : Int)]) _ _ Hru.out (hV2.below ((Below.refl _ _).drew)) (by have := Hpl.out; omega)).mono ?_
          rintro e' w' ⟨rfl, n3, rfl⟩
          have hE2n := hE2.draw HV.out.keep (1 + n3)
          dsimp only
          (refine hK.out _ _ ⟨hE2n.cm.2.2.2.1, hE2n.cc⟩ (fun hHeld => ?_); clear hK K; (try simp only [Act.put, List.setIfInBounds_toArray, List.set_cons_zero, List.set_cons_succ]))
          (refine wpAnyH_take (i := 4) (v := .bool false) rfl (by kernel_rfl) (by kernel_rfl) (by kernel_rfl) (fun _ _ _ h => h) (Or.inl ⟨by kernel_rfl, fun w hSw => by (try dsimp only at hSw); go_split_ands; go_simp⟩) (by assumption) ?_; simp only [Act.put, List.setIfInBounds_toArray, List.set_cons_zero, List.set_cons_succ])
          (refine wpAnyH_take (i := 5) (v := .bool false) rfl (by kernel_rfl) (by kernel_rfl) (by kernel_rfl) (fun _ _ _ h => h) (Or.inl ⟨by kernel_rfl, fun w hSw => by (try dsimp only at hSw); go_split_ands; go_simp⟩) (by assumption) ?_; simp only [Act.put, List.setIfInBounds_toArray, List.set_cons_zero, List.set_cons_succ])
          (refine wpAnyH_take (i := 6) (v := .func (.func 76) #[] #[.pointer (some ⟨o.k, 0, none⟩), .pointer (some ⟨o.m, 0, none⟩), .pointer (some ⟨o.v, 0, none⟩), .pointer (some ⟨o.f, 0, none⟩), .pointer (some ⟨o.a, 0, none⟩), .pointer (some ⟨o.c, 0, none⟩)]) rfl (by kernel_rfl) (by kernel_rfl) (by kernel_rfl) (fun _ _ _ h => h) (Or.inl ⟨by kernel_rfl, fun w hSw => by (try dsimp only at hSw); go_split_ands; go_simp⟩) (by assumption) ?_; simp only [Act.put, List.setIfInBounds_toArray, List.set_cons_zero, List.set_cons_succ])
          (refine wpAnyH_take (i := 7) (v := .bool false) rfl (by kernel_rfl) (by kernel_rfl) (by kernel_rfl) (fun _ _ _ h => h) (Or.inl ⟨by kernel_rfl, fun w hSw => by (try dsimp only at hSw); go_split_ands; go_simp⟩) (by assumption) ?_; simp only [Act.put, List.setIfInBounds_toArray, List.set_cons_zero, List.set_cons_succ])
          (refine wpAnyH_take (i := 8) (v := .bool false) rfl (by kernel_rfl) (by kernel_rfl) (by kernel_rfl) (fun _ _ _ h => h) (Or.inl ⟨by kernel_rfl, fun w hSw => by (try dsimp only at hSw); go_split_ands; go_simp⟩) (by assumption) ?_; simp only [Act.put, List.setIfInBounds_toArray, List.set_cons_zero, List.set_cons_succ])
          (refine wpAnyH_take (i := 9) (v := undef) rfl (by kernel_rfl) (by kernel_rfl) (by kernel_rfl) (fun _ _ _ h => h) (Or.inr ⟨by kernel_rfl, rfl⟩) (by assumption) ?_; simp only [Act.put, List.setIfInBounds_toArray, List.set_cons_zero, List.set_cons_succ])
          (refine wpAnyH_take (i := 10) (v := undef) rfl (by kernel_rfl) (by kernel_rfl) (by kernel_rfl) (fun _ _ _ h => h) (Or.inr ⟨by kernel_rfl, rfl⟩) (by assumption) ?_; simp only [Act.put, List.setIfInBounds_toArray, List.set_cons_zero, List.set_cons_succ])
          (refine wpAnyH_take (i := 11) (v := undef) rfl (by kernel_rfl) (by kernel_rfl) (by kernel_rfl) (fun _ _ _ h => h) (Or.inr ⟨by kernel_rfl, rfl⟩) (by assumption) ?_; simp only [Act.put, List.setIfInBounds_toArray, List.set_cons_zero, List.set_cons_succ])
          (refine wpAnyH_take (i := 12) (v := .bool false) rfl (by kernel_rfl) (by kernel_rfl) (by kernel_rfl) (fun _ _ _ h => h) (Or.inl ⟨by kernel_rfl, fun w hSw => by (try dsimp only at hSw); go_split_ands; go_simp⟩) (by assumption) ?_; simp only [Act.put, List.setIfInBounds_toArray, List.set_cons_zero, List.set_cons_succ])
          (refine wpAnyH_ready (rs := [13]) (by kernel_rfl) (by simp) (AllReadyH.cons rfl (fun K hK => ?_) AllReadyH.nil); go_simp)
          refine (IH.out s' F' _ (pre ++ [(x : Int)]) _ (done ++ partF m A fr false rem pre x) (rst ++ rest) (by have := Hpl.out; have := Hpre.out; omega) (range_push Hrange.out (by omega)) HL2.out Hrun.out hE2n).mono ?_
          rintro e' w' ⟨F2, kv2, rfl, hE4⟩
          rw [Hre2.out] at hE4
          rw [Hre2.out, Hb2.out]
          clear hE2n hE2d hE2 hHeld hcc2 hm3
          obtain ⟨g2, c2, rfl, hc2a, hc2b⟩ := own_some (own_len hE4.own) (by omega)
          dsimp only
          (refine hK.out _ _ ⟨hE4.cm.2.2.2.1, hE4.cc⟩ (fun hHeld => ?_); clear hK K; (try simp only [Act.put, List.setIfInBounds_toArray, List.set_cons_zero, List.set_cons_succ]))
          (refine wpAnyH_take (i := 14) (v := .bool true) rfl (by kernel_rfl) (by kernel_rfl) (by kernel_rfl) (fun _ _ _ h => h) (Or.inl ⟨by kernel_rfl, fun w hSw => by (try dsimp only at hSw); go_split_ands; go_simp⟩) (by assumption) ?_; simp only [Act.put, List.setIfInBounds_toArray, List.set_cons_zero, List.set_cons_succ])
          (refine wpAnyH_take (i := 15) (v := .bool true) rfl (by kernel_rfl) (by kernel_rfl) (by kernel_rfl) (fun _ _ _ h => h) (Or.inl ⟨by kernel_rfl, fun w hSw => by (try dsimp only at hSw); go_split_ands; go_simp⟩) (by assumption) ?_; simp only [Act.put, List.setIfInBounds_toArray, List.set_cons_zero, List.set_cons_succ])
          refine wpAnyH_done (by kernel_rfl) (NoPanic.normal ?_) _
          obtain ⟨hk4, hf4⟩ := hE4.ck
          have HE3 := Lib.hid hE4; clear hE4 hHeld
          go_wp2_with fail
          go_roundw
          case rel => exact ⟨x + 1, re2.1, _, _, by omega, by omega, by go_num, by rw [Hps.out, ← List.append_assoc]; exact runL_pair Hre2.out Hb2.out, HE3.out.pop HV.out.keep rfl rfl⟩
          case measure => simp [intOf]; omega
       ·have h0' := h0
        have h1 : 0 < pre.length := by omega
        obtain ⟨pb, po, rfl, _, hpc⟩ := hVk.cell (k := pre.length - 1) (by omega)
        have hrp := Hrange.out (pre.length - 1) (by omega)
        obtain ⟨q, hq⟩ : ∃ q, absI ((x : Int) - geti pre (pre.length - 1)) = q := ⟨_, rfl⟩
        have hw : IntKind.i64.wrap ((x : Int) - geti pre (pre.length - 1)) = (x : Int) - geti pre (pre.length - 1) := IntWalk.i64_in _ (by omega)
        have Hq := Lib.hid hq; clear hq
        have hd1' : decide (m.s < q) = false := decide_eq_false (by rcases hgood.2 with h | h; exact absurd h h0; rw [Hq.out] at h; omega)
        have Hgood := Lib.hid hgood; clear hgood
        clear h0 h0'
        go_wp2_with fail
        go_quiet ((first | (go_at_call 78; first | exact quiet_same (absolute_b _ _ _ Hq.out (by omega)) | exact quiet_same0 (absolute_b _ _ _ Hq.out (by omega))) | exact quiet_at (Hcl.out _ (hchg.drewN' _)) | exact quiet_at0 (Hcl.out _ (hchg.drewN' _))))
        have hcp := (hES.draw HV.out.keep nq).ck
        obtain ⟨hcpk, hcpf⟩ := hcp
        have hown := (hES.draw HV.out.keep nq).own
        have hn0 : pre.length + 1 ≤ 1000 := by omega
        have HES := Lib.hid (hES.draw HV.out.keep nq); clear hES
        clear hm0 hm1 hm2 hm3 hm4 hcca hcck hnn
        go_wp2_with (at_builtin; refine wp_app1 _ rfl _ _ 57 rfl w0.heap.size 2 (.int .i64 0) 8 Tryz.underlying57 inf_int rfl _ _ _ rfl hown (.int .i64 x) _ rfl rfl (by omega) (by omega) (HES.out.chg.size) ?_; intro v1 w1 hown1 hgrow1 hblk1 hB1; obtain ⟨hk1, hf1⟩ := HES.out.grown_ck hgrow1; obtain ⟨g1, c1, rfl, hc1a, hc1b⟩ := own_some hown1 (by omega))
        have hE2 := HES.out.push HV.out.keep hown1 hgrow1 hblk1
        clear hk1 hf1 hblk1 hB1 hgrow1 hown1 hown hcpk hcpf
        generalize hw2 : w1.setCell ⟨o.k, 0, none⟩ (.slice (some ⟨g1, 0, none⟩) (pre.length + 1) c1) = w2 at *
        clear hw2 HES
        have hV2 := own_V1 hE2.own
        have hpl : (pre ++ [(x : Int)]).length = pre.length + 1 := by simp
        have hru : ((runAt (pre ++ [(x : Int)]) ((pre ++ [(x : Int)]).length - 1) : Nat) : Int) = (runAt (pre ++ [(x : Int)]) pre.length : Int) := by rw [hpl, Nat.add_sub_cancel]
        obtain ⟨r, hr⟩ : ∃ r : Int, (runAt (pre ++ [(x : Int)]) pre.length : Int) = r := ⟨_, rfl⟩
        rw [hr] at hru
        have Hru := Lib.hid hru; clear hru
        have Hr := Lib.hid hr; clear hr
        have Hpl := Lib.hid hpl; clear hpl
        obtain ⟨hm0, hm1, hm2, hm3, hm4⟩ := hE2.cm
        have hk2 := hE2.ck.1
        by_cases hbad : m.e < r
        ·have hfit : brF m A fr false rem pre x = [] := by
          unfold brF
          have h1 : fitAt m (pre ++ [(x : Int)]) pre.length = false := fit_runE Hr.out hbad
          rw [h1]; simp
         have hnext : runL step s0 (done ++ partF m A fr false rem pre (x + 1)) = (s', true) := by
          rw [partF_succ (by rw [Hlo.out]; exact hx0), hfit, List.append_nil]; exact Hrun.out
         have Hnext := Lib.hid hnext; clear hnext hfit
         have HE2 := Lib.hid hE2; clear hE2
         go_quiet ((go_at_call 79; first | exact quiet_at (sameRun_b _ _ _ _ Hru.out (V1.drewN hV2) (by have := Hpl.out; omega)) | exact quiet_at0 (sameRun_b _ _ _ _ Hru.out (V1.drewN hV2) (by have := Hpl.out; omega))))
         have hE3 := HE2.out.draw HV.out.keep nq
         obtain ⟨hk3, hf3⟩ := hE3.ck
         have HE3 := Lib.hid hE3; clear hE3
         clear hk2
         go_wp2_with fail
         go_roundw
         case rel => exact ⟨x + 1, s', F', _, by omega, by omega, by go_num, Hnext.out, by first | exact HE3.out.pop HV.out.keep rfl rfl | exact (HE3.out.pop HV.out.keep rfl rfl).draw HV.out.keep _⟩
         case measure => simp [intOf]; omega
        ·obtain ⟨tt, htt⟩ : ∃ tt, (false && decide ((x : Int) = geti fr pre.length)) = tt := ⟨_, rfl⟩
         have hbr : brF m A fr false rem pre x = genF m A fr tt rem (pre ++ [(x : Int)]) := by
          unfold brF
          have h1 : fitAt m (pre ++ [(x : Int)]) pre.length = true := by
           rw [fit_push, Hr.out, decide_eq_true (show r ≤ m.e by omega), Bool.true_and]
           rcases Hgood.out.2 with h | h
           ·rw [h]; rfl
           ·rw [decide_eq_true h]; simp
          rw [h1, Hgood.out.1, htt]; rfl
         obtain ⟨rst, hrst⟩ := partF_le (m := m) (A := A) (fr := fr) (pre := pre) (tight := false) (rem := rem) (x := x + 1) (y := d) (by omega)
         rw [partF_succ (by rw [Hlo.out]; exact hx0), hbr, ← Hdn.out, partF_end] at hrst
         have hL2 : L = (done ++ partF m A fr false rem pre x) ++ genF m A fr tt rem (pre ++ [(x : Int)]) ++ (rst ++ rest) := by rw [HL.out, hrst]; simp
         obtain ⟨re2, hre2⟩ : ∃ r, runL step s0 ((done ++ partF m A fr false rem pre x) ++ genF m A fr tt rem (pre ++ [(x : Int)])) = r := ⟨_, rfl⟩
         have hps : partF m A fr false rem pre (x + 1) = partF m A fr false rem pre x ++ genF m A fr tt rem (pre ++ [(x : Int)]) := by rw [partF_succ (by rw [Hlo.out]; exact hx0), hbr]
         have hdr : decide (m.e < r) = false := decide_eq_false hbad
         have Hbr := Lib.hid hbr; clear hbr
         have Hps := Lib.hid hps; clear hps
         have Hrst := Lib.hid hrst; clear hrst
         have HL2 := Lib.hid hL2; clear hL2
         have Hre2 := Lib.hid hre2; clear hre2
         have hE2d := hE2.drew HV.out.keep
         have hcc2 : w2.cell? ⟨o.c, 0, none⟩ = some (.func (.func 76) #[] #[.pointer (some ⟨o.k, 0, none⟩), .pointer (some ⟨o.m, 0, none⟩), .pointer (some ⟨o.v, 0, none⟩), .pointer (some ⟨o.f, 0, none⟩), .pointer (some ⟨o.a, 0, none⟩), .pointer (some ⟨o.c, 0, none⟩)]) := hE2.cc
         clear hm0 hm1 hm2 hm4
         obtain rfl : tt = false := by rw [← htt]; rfl
         have Htt := Lib.hid htt; clear htt
         cases hb2 : re2.2
         ·have Hb2 := Lib.hid hb2; clear hb2
          refine wp_region_noPanic ?_
          refine wp_region_held_drew (S := fun w' => w'.cell? ⟨o.m, 3, none⟩ = some (.int .i64 m.e) ∧ w'.cell? ⟨o.c, 0, none⟩ = some (.func (.func 76) #[] #[.pointer (some ⟨o.k, 0, none⟩), .pointer (some ⟨o.m, 0, none⟩), .pointer (some ⟨o.v, 0, none⟩), .pointer (some ⟨o.f, 0, none⟩), .pointer (some ⟨o.a, 0, none⟩), .pointer (some ⟨o.c, 0, none⟩)])) (by kernel_rfl) ⟨hE2d.cm.2.2.2.1, hE2d.cc⟩ (fun hHeld => ?_)
          (refine wpAnyH_take (i := 2) (v := .pointer (some ⟨o.m, 3, none⟩)) rfl (by kernel_rfl) (by kernel_rfl) (by kernel_rfl) (fun _ _ _ h => h) (Or.inl ⟨by kernel_rfl, fun w hSw => by (try dsimp only at hSw); go_split_ands; go_simp⟩) (by assumption) ?_; simp only [Act.put, List.setIfInBounds_toArray, List.set_cons_zero, List.set_cons_succ])
          (refine wpAnyH_take (i := 3) (v := .int .i64 m.e) rfl (by kernel_rfl) (by kernel_rfl) (by kernel_rfl) (fun _ _ _ h => h) (Or.inl ⟨by kernel_rfl, fun w hSw => by (try dsimp only at hSw); go_split_ands; go_simp⟩) (by assumption) ?_; simp only [Act.put, List.setIfInBounds_toArray, List.set_cons_zero, List.set_cons_succ])
          (refine wpAnyH_ready (rs := [0]) (by kernel_rfl) (by simp) (AllReadyH.cons rfl (fun K hK => ?_) AllReadyH.nil); go_simp)
          (refine hK.out _ _ ⟨hE2d.cm.2.2.2.1, hE2d.cc⟩ (fun hHeld => ?_); clear hK K; (try simp only [Act.put, List.setIfInBounds_toArray, List.set_cons_zero, List.set_cons_succ]))
          (refine wpAnyH_ready (rs := [1]) (by kernel_rfl) (by simp) (AllReadyH.cons rfl (fun K hK => ?_) AllReadyH.nil); go_simp)
          go_at_call 79
          refine (sameRun_b _ (pre ++ [(x : Int)]) _ _ Hru.out (hV2.below ((Below.refl _ _).drew)) (by have := Hpl.out; omega)).mono ?_
          rintro e' w' ⟨rfl, n3, rfl⟩
          have hE2n := hE2.draw HV.out.keep (1 + n3)
          dsimp only
          (refine hK.out _ _ ⟨hE2n.cm.2.2.2.1, hE2n.cc⟩ (fun hHeld => ?_); clear hK K; (try simp only [Act.put, List.setIfInBounds_toArray, List.set_cons_zero, List.set_cons_succ]))
          (refine wpAnyH_take (i := 4) (v := .bool false) rfl (by kernel_rfl) (by kernel_rfl) (by kernel_rfl) (fun _ _ _ h => h) (Or.inl ⟨by kernel_rfl, fun w hSw => by (try dsimp only at hSw); go_split_ands; go_simp⟩) (by assumption) ?_; simp only [Act.put, List.setIfInBounds_toArray, List.set_cons_zero, List.set_cons_succ])
          (refine wpAnyH_take (i := 5) (v := .bool false) rfl (by kernel_rfl) (by kernel_rfl) (by kernel_rfl) (fun _ _ _ h => h) (Or.inl ⟨by kernel_rfl, fun w hSw => by (try dsimp only at hSw); go_split_ands; go_simp⟩) (by assumption) ?_; simp only [Act.put, List.setIfInBounds_toArray, List.set_cons_zero, List.set_cons_succ])
          (refine wpAnyH_take (i := 6) (v := .func (.func 76) #[] #[.pointer (some ⟨o.k, 0, none⟩), .pointer (some ⟨o.m, 0, none⟩), .pointer (some ⟨o.v, 0, none⟩), .pointer (some ⟨o.f, 0, none⟩), .pointer (some ⟨o.a, 0, none⟩), .pointer (some ⟨o.c, 0, none⟩)]) rfl (by kernel_rfl) (by kernel_rfl) (by kernel_rfl) (fun _ _ _ h => h) (Or.inl ⟨by kernel_rfl, fun w hSw => by (try dsimp only at hSw); go_split_ands; go_simp⟩) (by assumption) ?_; simp only [Act.put, List.setIfInBounds_toArray, List.set_cons_zero, List.set_cons_succ])
          (refine wpAnyH_take (i := 7) (v := .bool false) rfl (by kernel_rfl) (by kernel_rfl) (by kernel_rfl) (fun _ _ _ h => h) (Or.inl ⟨by kernel_rfl, fun w hSw => by (try dsimp only at hSw); go_split_ands; go_simp⟩) (by assumption) ?_; simp only [Act.put, List.setIfInBounds_toArray, List.set_cons_zero, List.set_cons_succ])
          (refine wpAnyH_take (i := 8) (v := .bool false) rfl (by kernel_rfl) (by kernel_rfl) (by kernel_rfl) (fun _ _ _ h => h) (Or.inl ⟨by kernel_rfl, fun w hSw => by (try dsimp only at hSw); go_split_ands; go_simp⟩) (by assumption) ?_; simp only [Act.put, List.setIfInBounds_toArray, List.set_cons_zero, List.set_cons_succ])
          (refine wpAnyH_take (i := 9) (v := undef) rfl (by kernel_rfl) (by kernel_rfl) (by kernel_rfl) (fun _ _ _ h => h) (Or.inr ⟨by kernel_rfl, rfl⟩) (by assumption) ?_; simp only [Act.put, List.setIfInBounds_toArray, List.set_cons_zero, List.set_cons_succ])
          (refine wpAnyH_take (i := 10) (v := undef) rfl (by kernel_rfl) (by kernel_rfl) (by kernel_rfl) (fun _ _ _ h => h) (Or.inr ⟨by kernel_rfl, rfl⟩) (by assumption) ?_; simp only [Act.put, List.setIfInBounds_toArray, List.set_cons_zero, List.set_cons_succ])
          (refine wpAnyH_take (i := 11) (v := undef) rfl (by kernel_rfl) (by kernel_rfl) (by kernel_rfl) (fun _ _ _ h => h) (Or.inr ⟨by kernel_rfl, rfl⟩) (by assumption) ?_; simp only [Act.put, List.setIfInBounds_toArray, List.set_cons_zero, List.set_cons_succ])
          (refine wpAnyH_take (i := 12) (v := .bool false) rfl (by kernel_rfl) (by kernel_rfl) (by kernel_rfl) (fun _ _ _ h => h) (Or.inl ⟨by kernel_rfl, fun w hSw => by (try dsimp only at hSw); go_split_ands; go_simp⟩) (by assumption) ?_; simp only [Act.put, List.setIfInBounds_toArray, List.set_cons_zero, List.set_cons_succ])
          (refine wpAnyH_ready (rs := [13]) (by kernel_rfl) (by simp) (AllReadyH.cons rfl (fun K hK => ?_) AllReadyH.nil); go_simp)
          refine (IH.out s' F' _ (pre ++ [(x : Int)]) _ (done ++ partF m A fr false rem pre x) (rst ++ rest) (by have := Hpl.out; have := Hpre.out; omega) (range_push Hrange.out (by omega)) HL2.out Hrun.out hE2n).mono ?_
          rintro e' w' ⟨F2, kv2, rfl, hE4⟩
          rw [Hre2.out] at hE4
          rw [Hre2.out, Hb2.out]
          clear hE2n hE2d hE2 hHeld hcc2 hm3
          obtain ⟨g2, c2, rfl, hc2a, hc2b⟩ := own_some (own_len hE4.own) (by omega)
          dsimp only
          (refine hK.out _ _ ⟨hE4.cm.2.2.2.1, hE4.cc⟩ (fun hHeld => ?_); clear hK K; (try simp only [Act.put, List.setIfInBounds_toArray, List.set_cons_zero, List.set_cons_succ]))
          (refine wpAnyH_take (i := 14) (v := .bool false) rfl (by kernel_rfl) (by kernel_rfl) (by kernel_rfl) (fun _ _ _ h => h) (Or.inl ⟨by kernel_rfl, fun w hSw => by (try dsimp only at hSw); go_split_ands; go_simp⟩) (by assumption) ?_; simp only [Act.put, List.setIfInBounds_toArray, List.set_cons_zero, List.set_cons_succ])
          (refine wpAnyH_take (i := 15) (v := .bool false) rfl (by kernel_rfl) (by kernel_rfl) (by kernel_rfl) (fun _ _ _ h => h) (Or.inl ⟨by kernel_rfl, fun w hSw => by (try dsimp only at hSw); go_split_ands; go_simp⟩) (by assumption) ?_; simp only [Act.put, List.setIfInBounds_toArray, List.set_cons_zero, List.set_cons_succ])
          refine wpAnyH_done (by kernel_rfl) (NoPanic.normal ?_) _
          obtain ⟨hk4, hf4⟩ := hE4.ck
          have HE3 := Lib.hid hE4; clear hE4 hHeld
          go_wp2_with fail
          go_ret
          have hfin : res = (re2.1, false) := by
           rw [← Hres.out, Hrst.out, ← List.append_assoc, ← List.append_assoc, runL_append, if_neg (by rw [Hre2.out, Hb2.out]; decide), Hre2.out]
          exact ⟨_, _, by rw [hfin]; rfl, by rw [hfin]; exact HE3.out.pop HV.out.keep rfl rfl⟩
         ·have Hb2 := Lib.hid hb2; clear hb2
          refine wp_region_noPanic ?_
          refine wp_region_held_drew (S := fun w' => w'.cell? ⟨o.m, 3, none⟩ = some (.int .i64 m.e) ∧ w'.cell? ⟨o.c, 0, none⟩ = some (.func (.func 76) #[] #[.pointer (some ⟨o.k, 0, none⟩), .pointer (some ⟨o.m, 0, none⟩), .pointer (some ⟨o.v, 0, none⟩), .pointer (some ⟨o.f, 0, none⟩), .pointer (some ⟨o.a, 0, none⟩), .pointer (some ⟨o.c, 0, none⟩)])) (by kernel_rfl) ⟨hE2d.cm.2.2.2.1, hE2d.cc⟩ (fun hHeld => ?_)
          (refine wpAnyH_take (i := 2) (v := .pointer (some ⟨o.m, 3, none⟩)) rfl (by kernel_rfl) (by kernel_rfl) (by kernel_rfl) (fun _ _ _ h => h) (Or.inl ⟨by kernel_rfl, fun w hSw => by (try dsimp only at hSw); go_split_ands; go_simp⟩) (by assumption) ?_; simp only [Act.put, List.setIfInBounds_toArray, List.set_cons_zero, List.set_cons_succ])
          (refine wpAnyH_take (i := 3) (v := .int .i64 m.e) rfl (by kernel_rfl) (by kernel_rfl) (by kernel_rfl) (fun _ _ _ h => h) (Or.inl ⟨by kernel_rfl, fun w hSw => by (try dsimp only at hSw); go_split_ands; go_simp⟩) (by assumption) ?_; simp only [Act.put, List.setIfInBounds_toArray, List.set_cons_zero, List.set_cons_succ])
          (refine wpAnyH_ready (rs := [0]) (by kernel_rfl) (by simp) (AllReadyH.cons rfl (fun K hK => ?_) AllReadyH.nil); go_simp)
          (refine hK.out _ _ ⟨hE2d.cm.2.2.2.1, hE2d.cc⟩ (fun hHeld => ?_); clear hK K; (try simp only [Act.put, List.setIfInBounds_toArray, List.set_cons_zero, List.set_cons_succ]))
          (refine wpAnyH_ready (rs := [1]) (by kernel_rfl) (by simp) (AllReadyH.cons rfl (fun K hK => ?_) AllReadyH.nil); go_simp)
          go_at_call 79
          refine (sameRun_b _ (pre ++ [(x : Int)]) _ _ Hru.out (hV2.below ((Below.refl _ _).drew)) (by have := Hpl.out; omega)).mono ?_
          rintro e' w' ⟨rfl, n3, rfl⟩
          have hE2n := hE2.draw HV.out.keep (1 + n3)
          dsimp only
          (refine hK.out _ _ ⟨hE2n.cm.2.2.2.1, hE2n.cc⟩ (fun hHeld => ?_); clear hK K; (try simp only [Act.put, List.setIfInBounds_toArray, List.set_cons_zero, List.set_cons_succ]))
          (refine wpAnyH_take (i := 4) (v := .bool false) rfl (by kernel_rfl) (by kernel_rfl) (by kernel_rfl) (fun _ _ _ h => h) (Or.inl ⟨by kernel_rfl, fun w hSw => by (try dsimp only at hSw); go_split_ands; go_simp⟩) (by assumption) ?_; simp only [Act.put, List.setIfInBounds_toArray, List.set_cons_zero, List.set_cons_succ])
          (refine wpAnyH_take (i := 5) (v := .bool false) rfl (by kernel_rfl) (by kernel_rfl) (by kernel_rfl) (fun _ _ _ h => h) (Or.inl ⟨by kernel_rfl, fun w hSw => by (try dsimp only at hSw); go_split_ands; go_simp⟩) (by assumption) ?_; simp only [Act.put, List.setIfInBounds_toArray, List.set_cons_zero, List.set_cons_succ])
          (refine wpAnyH_take (i := 6) (v := .func (.func 76) #[] #[.pointer (some ⟨o.k, 0, none⟩), .pointer (some ⟨o.m, 0, none⟩), .pointer (some ⟨o.v, 0, none⟩), .pointer (some ⟨o.f, 0, none⟩), .pointer (some ⟨o.a, 0, none⟩), .pointer (some ⟨o.c, 0, none⟩)]) rfl (by kernel_rfl) (by kernel_rfl) (by kernel_rfl) (fun _ _ _ h => h) (Or.inl ⟨by kernel_rfl, fun w hSw => by (try dsimp only at hSw); go_split_ands; go_simp⟩) (by assumption) ?_; simp only [Act.put, List.setIfInBounds_toArray, List.set_cons_zero, List.set_cons_succ])
          (refine wpAnyH_take (i := 7) (v := .bool false) rfl (by kernel_rfl) (by kernel_rfl) (by kernel_rfl) (fun _ _ _ h => h) (Or.inl ⟨by kernel_rfl, fun w hSw => by (try dsimp only at hSw); go_split_ands; go_simp⟩) (by assumption) ?_; simp only [Act.put, List.setIfInBounds_toArray, List.set_cons_zero, List.set_cons_succ])
          (refine wpAnyH_take (i := 8) (v := .bool false) rfl (by kernel_rfl) (by kernel_rfl) (by kernel_rfl) (fun _ _ _ h => h) (Or.inl ⟨by kernel_rfl, fun w hSw => by (try dsimp only at hSw); go_split_ands; go_simp⟩) (by assumption) ?_; simp only [Act.put, List.setIfInBounds_toArray, List.set_cons_zero, List.set_cons_succ])
          (refine wpAnyH_take (i := 9) (v := undef) rfl (by kernel_rfl) (by kernel_rfl) (by kernel_rfl) (fun _ _ _ h => h) (Or.inr ⟨by kernel_rfl, rfl⟩) (by assumption) ?_; simp only [Act.put, List.setIfInBounds_toArray, List.set_cons_zero, List.set_cons_succ])
          (refine wpAnyH_take (i := 10) (v := undef) rfl (by kernel_rfl) (by kernel_rfl) (by kernel_rfl) (fun _ _ _ h => h) (Or.inr ⟨by kernel_rfl, rfl⟩) (by assumption) ?_; simp only [Act.put, List.setIfInBounds_toArray, List.set_cons_zero, List.set_cons_succ])
          (refine wpAnyH_take (i := 11) (v := undef) rfl (by kernel_rfl) (by kernel_rfl) (by kernel_rfl) (fun _ _ _ h => h) (Or.inr ⟨by kernel_rfl, rfl⟩) (by assumption) ?_; simp only [Act.put, List.setIfInBounds_toArray, List.set_cons_zero, List.set_cons_succ])
          (refine wpAnyH_take (i := 12) (v := .bool false) rfl (by kernel_rfl) (by kernel_rfl) (by kernel_rfl) (fun _ _ _ h => h) (Or.inl ⟨by kernel_rfl, fun w hSw => by (try dsimp only at hSw); go_split_ands; go_simp⟩) (by assumption) ?_; simp only [Act.put, List.setIfInBounds_toArray, List.set_cons_zero, List.set_cons_succ])
          (refine wpAnyH_ready (rs := [13]) (by kernel_rfl) (by simp) (AllReadyH.cons rfl (fun K hK => ?_) AllReadyH.nil); go_simp)
          refine (IH.out s' F' _ (pre ++ [(x : Int)]) _ (done ++ partF m A fr false rem pre x) (rst ++ rest) (by have := Hpl.out; have := Hpre.out; omega) (range_push Hrange.out (by omega)) HL2.out Hrun.out hE2n).mono ?_
          rintro e' w' ⟨F2, kv2, rfl, hE4⟩
          rw [Hre2.out] at hE4
          rw [Hre2.out, Hb2.out]
          clear hE2n hE2d hE2 hHeld hcc2 hm3
          obtain ⟨g2, c2, rfl, hc2a, hc2b⟩ := own_some (own_len hE4.own) (by omega)
          dsimp only
          (refine hK.out _ _ ⟨hE4.cm.2.2.2.1, hE4.cc⟩ (fun hHeld => ?_); clear hK K; (try simp only [Act.put, List.setIfInBounds_toArray, List.set_cons_zero, List.set_cons_succ]))
          (refine wpAnyH_take (i := 14) (v := .bool true) rfl (by kernel_rfl) (by kernel_rfl) (by kernel_rfl) (fun _ _ _ h => h) (Or.inl ⟨by kernel_rfl, fun w hSw => by (try dsimp only at hSw); go_split_ands; go_simp⟩) (by assumption) ?_; simp only [Act.put, List.setIfInBounds_toArray, List.set_cons_zero, List.set_cons_succ])
          (refine wpAnyH_take (i := 15) (v := .bool true) rfl (by kernel_rfl) (by kernel_rfl) (by kernel_rfl) (fun _ _ _ h => h) (Or.inl ⟨by kernel_rfl, fun w hSw => by (try dsimp only at hSw); go_split_ands; go_simp⟩) (by assumption) ?_; simp only [Act.put, List.setIfInBounds_toArray, List.set_cons_zero, List.set_cons_succ])
          refine wpAnyH_done (by kernel_rfl) (NoPanic.normal ?_) _
          obtain ⟨hk4, hf4⟩ := hE4.ck
          have HE3 := Lib.hid hE4; clear hE4 hHeld
          go_wp2_with fail
          go_roundw
          case rel => exact ⟨x + 1, re2.1, _, _, by omega, by omega, by go_num, by rw [Hps.out, ← List.append_assoc]; exact runL_pair Hre2.out Hb2.out, HE3.out.pop HV.out.keep rfl rfl⟩
          case measure => simp [intOf]; omega
     ·have hnext : runL step s0 (done ++ partF m A fr false rem pre (x + 1)) = (s', true) := by
       rw [partF_succ (by rw [Hlo.out]; exact hx0), brF_bad hgood, List.append_nil]; exact Hrun.out
      have Hnext := Lib.hid hnext; clear hnext
      rcases HA.out with ⟨rfl, hA1⟩ | ⟨fa, ac, rfl, hen, hcall⟩
      ·have hnn := neqNil
       have h0 : ¬ pre.length = 0 := fun h => hgood ⟨hA1 _ _, .inl h⟩
       have h1 : 0 < pre.length := by omega
       obtain ⟨pb, po, rfl, _, hpc⟩ := hVk.cell (k := pre.length - 1) (by omega)
       have hrp := Hrange.out (pre.length - 1) (by omega)
       obtain ⟨q, hq⟩ : ∃ q, absI ((x : Int) - geti pre (pre.length - 1)) = q := ⟨_, rfl⟩
       have hw : IntKind.i64.wrap ((x : Int) - geti pre (pre.length - 1)) = (x : Int) - geti pre (pre.length - 1) := IntWalk.i64_in _ (by omega)
       have Hq := Lib.hid hq; clear hq
       have hd1' : m.s < q := by
        rw [← Hq.out]; exact Int.not_le.1 (fun h => hgood ⟨hA1 _ _, .inr h⟩)
       clear h0 hA1 hgood
       go_wp2_with fail
       go_quiet ((go_at_call 78; first | exact quiet_same (absolute_b _ _ _ Hq.out (by omega)) | exact quiet_same0 (absolute_b _ _ _ Hq.out (by omega))))
       have HES := Lib.hid hES; clear hES
       go_wp2_with fail
       go_roundw
       case rel => exact ⟨x + 1, s', F', _, by omega, by omega, by go_num, Hnext.out, HES.out.draw HV.out.keep _⟩
       case measure => simp [intOf]; omega
      ·have hnn := neqFunc fa ac
       have hcl := fun (w' : World) (hw : Chg F0 w0 w') => hcall pre.length x w' (by have := Hpre.out; omega) (by omega) (by omega) hw
       unfold Enters at hen
       have hchg := hES.chg
       cases hAx : A pre.length x
       ·rw [hAx] at hcl
        have Hcl := Lib.hid hcl; clear hcl hcall hAx hgood
        go_wp2_with fail
        go_quiet ((first | exact quiet_at (Hcl.out _ (hchg.drewN' _)) | exact quiet_at0 (Hcl.out _ (hchg.drewN' _))))
        have HES := Lib.hid hES; clear hES
        go_wp2_with fail
        go_roundw
        case rel => exact ⟨x + 1, s', F', _, by omega, by omega, by go_num, Hnext.out, HES.out.draw HV.out.keep _⟩
        case measure => simp [intOf]; omega
       ·rw [hAx] at hcl
        have h0 : ¬ pre.length = 0 := fun h => hgood ⟨hAx, .inl h⟩
        have h1 : 0 < pre.length := by omega
        obtain ⟨pb, po, rfl, _, hpc⟩ := hVk.cell (k := pre.length - 1) (by omega)
        have hrp := Hrange.out (pre.length - 1) (by omega)
        obtain ⟨q, hq⟩ : ∃ q, absI ((x : Int) - geti pre (pre.length - 1)) = q := ⟨_, rfl⟩
        have hw : IntKind.i64.wrap ((x : Int) - geti pre (pre.length - 1)) = (x : Int) - geti pre (pre.length - 1) := IntWalk.i64_in _ (by omega)
        have Hq := Lib.hid hq; clear hq
        have hd1' : m.s < q := by
         rw [← Hq.out]; exact Int.not_le.1 (fun h => hgood ⟨hAx, .inr h⟩)
        have Hcl := Lib.hid hcl; clear hcl hcall hAx hgood h0
        go_wp2_with fail
        go_quiet ((first | (go_at_call 78; first | exact quiet_same (absolute_b _ _ _ Hq.out (by omega)) | exact quiet_same0 (absolute_b _ _ _ Hq.out (by omega))) | exact quiet_at (Hcl.out _ (hchg.drewN' _)) | exact quiet_at0 (Hcl.out _ (hchg.drewN' _))))
        have HES := Lib.hid hES; clear hES
        go_wp2_with fail
        go_roundw
        case rel => exact ⟨x + 1, s', F', _, by omega, by omega, by go_num, Hnext.out, HES.out.draw HV.out.keep _⟩
        case measure => simp [intOf]; omega
    ·have hfx : partF m A fr false rem pre x = genF m A fr false (rem + 1) pre := by
      rw [← partF_end, Hdn.out]
      rcases hxd with h1 | h1
      ·rw [show x = d from by omega]
      ·rw [h1]
       by_cases hld : lo ≤ d
       ·rw [show lo = d from by omega]
       ·rw [partF_lo (by rw [Hlo.out]; exact Nat.le_refl _), partF_lo (by rw [Hlo.out]; omega)]
     have hrr : runL step s0 (done ++ genF m A fr false (rem + 1) pre) = (s', true) := by rw [← hfx]; exact Hrun.out
     have Hrr := Lib.hid (Hres.out.symm.trans hrr); clear hfx hrr
     have HES := Lib.hid hES; clear hES
     go_wp2_with fail
     go_ret
     exact ⟨F', _, by rw [Hrr.out]; rfl, by rw [Hrr.out]; exact HES.out⟩
end
end Go.Proofs.YtbekpololmahoaaGreatDoor
