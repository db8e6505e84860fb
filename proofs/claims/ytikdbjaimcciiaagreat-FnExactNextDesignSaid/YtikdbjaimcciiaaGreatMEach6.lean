/- The program's visit of all keys from some cuts on: the closure that sets the cuts, by induction. No conditions. -/
import Derived.Laws.EntriesVeiled
import Derived.Test.YtikdbjaimcciiaaGreatEach5
import Derived.Test.YtikdbjaimcciiaaGreatGoI
namespace Go.Proofs.YtikdbjaimcciiaaGreat
open Go.RowKit
set_option linter.unusedVariables false
set_option linter.unusedSimpArgs false

section
variable {σ : Type} {m : Mk} {w0 : World} {F0 : Nat → Prop} {f : FuncId} {caps : Array Value} {step : σ → List Int → σ × Bool} {s0 : σ} {L : List (List Int)} {Inv : σ → (Nat → Prop) → World → Prop} {o : EK} {fv : Value} {A : Nat → Int → Bool} {fr : List Int}

set_option maxRecDepth 100000 in
set_option maxHeartbeats 8000000 in
theorem cut_tight (hm : m.ok = true) (V : VisOk m.c.toNat w0 F0 f caps step s0 L Inv) (hA1 : ∀ k x, A k x = true) (hfr : FrOk m w0 F0 fv fr) : ∀ (rem : Nat) (s : σ) (F : Nat → Prop) (w : World) (pre : List Int) (kv : Value) (done rest : List (List Int)),
    (pre.length : Int) + rem = m.c → (∀ k, k < pre.length → 0 ≤ geti pre k ∧ geti pre k ≤ 7) →
    L = done ++ genF m A fr true rem pre ++ rest → runL step s0 done = (s, true) → ES m w0 F0 Inv o fv .nilFunc (.func (.func f) #[] caps) s F w pre kv →
    Calls Tryz.prog 222 #[.bool true, .pointer (some ⟨o.k, 0, none⟩), .pointer (some ⟨o.m, 0, none⟩), .pointer (some ⟨o.v, 0, none⟩), .pointer (some ⟨o.f, 0, none⟩), .pointer (some ⟨o.a, 0, none⟩), .pointer (some ⟨o.c, 0, none⟩)] w
      (CutPost m w0 F0 Inv o fv .nilFunc (.func (.func f) #[] caps) pre (runL step s0 (done ++ genF m A fr true rem pre))) := by
  intro rem
  induction rem with
  | zero =>
    intro s F w pre kv done rest hpre _ hL hs h
    exact cut_end hm V true s F w pre kv done rest (by omega) hL hs h
  | succ rem ih =>
    intro s F w pre kv done rest hpre hrange hL hs h
    have hmk := Mk.ok_iff.1 hm
    have IH := Lib.hid ih; clear ih
    have HV := Lib.hid V; clear V
    have HA1 := Lib.hid hA1; clear hA1
    have Hrange := Lib.hid hrange; clear hrange
    have hne : ((pre.length : Int) == m.c) = false := by simp; omega
    have hle : pre.length ≤ 5 ∧ rem ≤ 5 := by omega
    obtain ⟨d, hd1, hd2, hd8, hdn⟩ : ∃ d : Nat, m.d ≤ d ∧ (d : Int) ≤ m.d ∧ d ≤ 8 ∧ m.d.toNat = d := ⟨m.d.toNat, by omega, by omega, by omega, rfl⟩
    obtain ⟨lo, hlo⟩ : ∃ lo, lowF fr true pre.length = lo := ⟨_, rfl⟩
    have hfl : pre.length < fr.length := by have := hfr.2.1; omega
    have hfR := hfr.2.2 _ hfl
    have hloI : geti fr pre.length = (lo : Int) := by
      have h1 : (geti fr pre.length).toNat = lo := hlo
      omega
    have hlo7 : lo ≤ 7 := by omega
    have hfV := frOk_cell hfr h.chg
    have hcf := h.cf
    obtain ⟨fa, fc, rfl, hfm⟩ := hfV.form
    obtain ⟨fb, fo, rfl, _, hfcell⟩ := hfV.cell hfl
    rw [hloI] at hfcell
    have Hpre := Lib.hid hpre; clear hpre
    clear hmk hfR hfV
    have Hdn := Lib.hid hdn; clear hdn
    have Hlo := Lib.hid hlo; clear hlo
    have HloI := Lib.hid hloI; clear hloI
    have Hfr := Lib.hid hfr; clear hfr
    have hck := h.ck.1
    obtain ⟨hc0, hc1, hc2, hc3, hc4⟩ := h.cm
    obtain ⟨ka, kc, rfl, hkc, hkm⟩ := own_form h.own
    have HL := Lib.hid hL; clear hL
    have Hs := Lib.hid hs; clear hs
    obtain ⟨res, hres⟩ : ∃ res, runL step s0 (done ++ genF m A fr true (rem + 1) pre) = res := ⟨_, rfl⟩
    rw [hres]
    have Hres := Lib.hid hres; clear hres
    have Hh := Lib.hid h; clear h
    go_enter Tryz.func222, Tryz.ntmps222
    go_wp2_with fail
    clear hck hc0 hc1 hc2 hc3 hc4 hcf hfcell
    go_loopw [11, 12] (fun i _ wr => ∃ (x : Nat) (s' : σ) (F' : Nat → Prop) (kv' : Value), lo ≤ x ∧ (x ≤ d ∨ x = lo) ∧ i = .int .i64 (x : Int) ∧ runL step s0 (done ++ partF m A fr true rem pre x) = (s', true) ∧ ES m w0 F0 Inv o (.slice (some ⟨fb, fo, none⟩) fr.length fc) .nilFunc (.func (.func f) #[] caps) s' F' wr pre kv') (fun i _ _ => d - (intOf i).toNat)
    case atStart => exact ⟨lo, s, F, _, Nat.le_refl _, .inr rfl, rfl, by rw [partF_lo (by rw [Hlo.out]; exact Nat.le_refl _), List.append_nil]; exact Hs.out, Hh.out⟩
    case round =>
      obtain ⟨x, s', F', kv', hx0, hxd, rfl, hrun, hES⟩ := hrel
      have Hrun := Lib.hid hrun; clear hrun
      obtain ⟨hm0, hm1, hm2, hm3, hm4⟩ := hES.cm
      have hcca := hES.ca
      have hcck := hES.ck.1
      by_cases hxx : x < d
      · obtain ⟨ka', kc', rfl, hkc', hkm'⟩ := own_form hES.own
        have hVk := own_V1 hES.own
        by_cases hgood : A pre.length x = true ∧ (pre.length = 0 ∨ absI ((x : Int) - geti pre (pre.length - 1)) ≤ m.s)
        · skip
          · have hnn := neqNil
            by_cases h0 : pre.length = 0
            · have hd0 : decide (0 < pre.length) = false := by simp [h0]
              have H0 := Lib.hid h0; clear h0
              have Hgood := Lib.hid hgood; clear hgood
              go_wp2_with fail
              go_quiet (fail)
              have hcp := (hES.draw HV.out.keep nq).ck
              obtain ⟨hcpk, hcpf⟩ := hcp
              have hown := (hES.draw HV.out.keep nq).own
              have hn0 : pre.length + 1 ≤ 1000 := by omega
              have HES := Lib.hid (hES.draw HV.out.keep nq); clear hES
              clear hm0 hm1 hm2 hm3 hm4 hcca hcck hnn
              go_wp2_with (at_builtin; refine wp_app1 _ rfl _ _ 35 rfl w0.heap.size 2 (.int .i64 0) 8 Tryz.underlying35 inf_int rfl _ _ _ rfl hown (.int .i64 x) _ rfl rfl (by omega) (by omega) (HES.out.chg.size) ?_; intro v1 w1 hown1 hgrow1 hblk1 hB1; obtain ⟨hk1, hf1⟩ := HES.out.grown_ck hgrow1; obtain ⟨g1, c1, rfl, hc1a, hc1b⟩ := own_some hown1 (by omega))
              have hE2 := HES.out.push HV.out.keep hown1 hgrow1 hblk1
              clear hk1 hf1 hblk1 hB1 hgrow1 hown1 hown hcpk hcpf
              generalize hw2 : w1.setCell ⟨o.k, 0, none⟩ (.slice (some ⟨g1, 0, none⟩) (pre.length + 1) c1) = w2 at *
              clear hw2 HES
              have hV2 := own_V1 hE2.own
              have hpl : (pre ++ [(x : Int)]).length = pre.length + 1 := by simp
              have hru : ((runAt (pre ++ [(x : Int)]) ((pre ++ [(x : Int)]).length - 1) : Nat) : Int) = (runAt (pre ++ [(x : Int)]) pre.length : Int) := by rw [hpl, Nat.add_sub_cancel]
              obtain ⟨r, hr⟩ : ∃ r : Int, (runAt (pre ++ [(x : Int)]) pre.length : Int) = r := ⟨_, rfl⟩
              rw [hr] at hru
              have Hru := Lib.hid hru; clear hru
              have Hr := Lib.hid hr; clear hr
              have Hpl := Lib.hid hpl; clear hpl
              obtain ⟨hm0, hm1, hm2, hm3, hm4⟩ := hE2.cm
              have hk2 := hE2.ck.1
              by_cases hbad : m.e < r
              · have hfit : brF m A fr true rem pre x = [] := by
                  unfold brF
                  have h1 : fitAt m (pre ++ [(x : Int)]) pre.length = false := fit_runE Hr.out hbad
                  rw [h1]; simp
                have hnext : runL step s0 (done ++ partF m A fr true rem pre (x + 1)) = (s', true) := by
                  rw [partF_succ (by rw [Hlo.out]; exact hx0), hfit, List.append_nil]; exact Hrun.out
                have Hnext := Lib.hid hnext; clear hnext hfit
                have HE2 := Lib.hid hE2; clear hE2
                go_quiet ((go_at_call 218; first | exact quiet_at (sameRun_b _ _ _ _ Hru.out (V1.drewN hV2) (by have := Hpl.out; omega)) | exact quiet_at0 (sameRun_b _ _ _ _ Hru.out (V1.drewN hV2) (by have := Hpl.out; omega))))
                have hE3 := HE2.out.draw HV.out.keep nq
                obtain ⟨hk3, hf3⟩ := hE3.ck
                have HE3 := Lib.hid hE3; clear hE3
                clear hk2
                go_wp2_with fail
                go_roundw
                case rel => exact ⟨x + 1, s', F', _, by omega, by omega, by go_num, Hnext.out, by first | exact HE3.out.pop HV.out.keep rfl rfl | exact (HE3.out.pop HV.out.keep rfl rfl).draw HV.out.keep _⟩
                case measure => simp [intOf]; omega
              · obtain ⟨tt, htt⟩ : ∃ tt, (true && decide ((x : Int) = geti fr pre.length)) = tt := ⟨_, rfl⟩
                have hbr : brF m A fr true rem pre x = genF m A fr tt rem (pre ++ [(x : Int)]) := by
                  unfold brF
                  have h1 : fitAt m (pre ++ [(x : Int)]) pre.length = true := by
                    rw [fit_push, Hr.out, decide_eq_true (show r ≤ m.e by omega), Bool.true_and]
                    rcases Hgood.out.2 with h | h
                    · rw [h]; rfl
                    · rw [decide_eq_true h]; simp
                  rw [h1, Hgood.out.1, htt]; rfl
                obtain ⟨rst, hrst⟩ := partF_le (m := m) (A := A) (fr := fr) (pre := pre) (tight := true) (rem := rem) (x := x + 1) (y := d) (by omega)
                rw [partF_succ (by rw [Hlo.out]; exact hx0), hbr, ← Hdn.out, partF_end] at hrst
                have hL2 : L = (done ++ partF m A fr true rem pre x) ++ genF m A fr tt rem (pre ++ [(x : Int)]) ++ (rst ++ rest) := by rw [HL.out, hrst]; simp
                obtain ⟨re2, hre2⟩ : ∃ r, runL step s0 ((done ++ partF m A fr true rem pre x) ++ genF m A fr tt rem (pre ++ [(x : Int)])) = r := ⟨_, rfl⟩
                have hps : partF m A fr true rem pre (x + 1) = partF m A fr true rem pre x ++ genF m A fr tt rem (pre ++ [(x : Int)]) := by rw [partF_succ (by rw [Hlo.out]; exact hx0), hbr]
                have hdr : decide (m.e < r) = false := decide_eq_false hbad
                have Hbr := Lib.hid hbr; clear hbr
                have Hps := Lib.hid hps; clear hps
                have Hrst := Lib.hid hrst; clear hrst
                have HL2 := Lib.hid hL2; clear hL2
                have Hre2 := Lib.hid hre2; clear hre2
                have hE2d := hE2.drew HV.out.keep
                have hcc2 : w2.cell? ⟨o.c, 0, none⟩ = some (.func (.func 222) #[] #[.pointer (some ⟨o.k, 0, none⟩), .pointer (some ⟨o.m, 0, none⟩), .pointer (some ⟨o.v, 0, none⟩), .pointer (some ⟨o.f, 0, none⟩), .pointer (some ⟨o.a, 0, none⟩), .pointer (some ⟨o.c, 0, none⟩)]) := hE2.cc
                clear hm0 hm1 hm2 hm4
                have hte : ((x : Int) == (lo : Int)) = tt := by
                  rw [← htt, Bool.true_and, ← HloI.out]
                  exact (Bool.eq_iff_iff.2 (by rw [beq_iff_eq, decide_eq_true_iff]))
                cases tt
                · have Htt := Lib.hid htt; clear htt
                  cases hb2 : re2.2
                  · have Hb2 := Lib.hid hb2; clear hb2
                    refine wp_region_noPanic ?_
                    refine wp_region_held_drew (S := fun w' => w'.cell? ⟨o.m, 3, none⟩ = some (.int .i64 m.e) ∧ w'.cell? ⟨o.c, 0, none⟩ = some (.func (.func 222) #[] #[.pointer (some ⟨o.k, 0, none⟩), .pointer (some ⟨o.m, 0, none⟩), .pointer (some ⟨o.v, 0, none⟩), .pointer (some ⟨o.f, 0, none⟩), .pointer (some ⟨o.a, 0, none⟩), .pointer (some ⟨o.c, 0, none⟩)])) (by kernel_rfl) ⟨hE2d.cm.2.2.2.1, hE2d.cc⟩ (fun hHeld => ?_)
                    (refine wpAnyH_take (i := 2) (v := .pointer (some ⟨o.m, 3, none⟩)) rfl (by kernel_rfl) (by kernel_rfl) (by kernel_rfl) (fun _ _ _ h => h) (Or.inl ⟨by kernel_rfl, fun w hSw => by (try dsimp only at hSw); go_split_ands; go_simp⟩) (by assumption) ?_; simp only [Act.put, List.setIfInBounds_toArray, List.set_cons_zero, List.set_cons_succ])
                    (refine wpAnyH_take (i := 3) (v := .int .i64 m.e) rfl (by kernel_rfl) (by kernel_rfl) (by kernel_rfl) (fun _ _ _ h => h) (Or.inl ⟨by kernel_rfl, fun w hSw => by (try dsimp only at hSw); go_split_ands; go_simp⟩) (by assumption) ?_; simp only [Act.put, List.setIfInBounds_toArray, List.set_cons_zero, List.set_cons_succ])
                    (refine wpAnyH_ready (rs := [0]) (by kernel_rfl) (by simp) (AllReadyH.cons rfl (fun K hK => ?_) AllReadyH.nil); go_simp)
                    (refine hK.out _ _ ⟨hE2d.cm.2.2.2.1, hE2d.cc⟩ (fun hHeld => ?_); clear hK K; (try simp only [Act.put, List.setIfInBounds_toArray, List.set_cons_zero, List.set_cons_succ]))
                    (refine wpAnyH_ready (rs := [1]) (by kernel_rfl) (by simp) (AllReadyH.cons rfl (fun K hK => ?_) AllReadyH.nil); go_simp)
                    go_at_call 218
                    refine (sameRun_b _ (pre ++ [(x : Int)]) _ _ Hru.out (hV2.below ((Below.refl _ _).drew)) (by have := Hpl.out; omega)).mono ?_
                    rintro e' w' ⟨rfl, n3, rfl⟩
                    have hE2n := hE2.draw HV.out.keep (1 + n3)
                    dsimp only
                    (refine hK.out _ _ ⟨hE2n.cm.2.2.2.1, hE2n.cc⟩ (fun hHeld => ?_); clear hK K; (try simp only [Act.put, List.setIfInBounds_toArray, List.set_cons_zero, List.set_cons_succ]))
                    (refine wpAnyH_take (i := 4) (v := .bool false) rfl (by kernel_rfl) (by kernel_rfl) (by kernel_rfl) (fun _ _ _ h => h) (Or.inl ⟨by kernel_rfl, fun w hSw => by (try dsimp only at hSw); go_split_ands; go_simp⟩) (by assumption) ?_; simp only [Act.put, List.setIfInBounds_toArray, List.set_cons_zero, List.set_cons_succ])
                    (refine wpAnyH_take (i := 5) (v := .bool false) rfl (by kernel_rfl) (by kernel_rfl) (by kernel_rfl) (fun _ _ _ h => h) (Or.inl ⟨by kernel_rfl, fun w hSw => by (try dsimp only at hSw); go_split_ands; go_simp⟩) (by assumption) ?_; simp only [Act.put, List.setIfInBounds_toArray, List.set_cons_zero, List.set_cons_succ])
                    (refine wpAnyH_take (i := 6) (v := .func (.func 222) #[] #[.pointer (some ⟨o.k, 0, none⟩), .pointer (some ⟨o.m, 0, none⟩), .pointer (some ⟨o.v, 0, none⟩), .pointer (some ⟨o.f, 0, none⟩), .pointer (some ⟨o.a, 0, none⟩), .pointer (some ⟨o.c, 0, none⟩)]) rfl (by kernel_rfl) (by kernel_rfl) (by kernel_rfl) (fun _ _ _ h => h) (Or.inl ⟨by kernel_rfl, fun w hSw => by (try dsimp only at hSw); go_split_ands; go_simp⟩) (by assumption) ?_; simp only [Act.put, List.setIfInBounds_toArray, List.set_cons_zero, List.set_cons_succ])
                    (refine wpAnyH_take (i := 7) (v := .bool true) rfl (by kernel_rfl) (by kernel_rfl) (by kernel_rfl) (fun _ _ _ h => h) (Or.inl ⟨by kernel_rfl, fun w hSw => by (try dsimp only at hSw); go_split_ands; go_simp⟩) (by assumption) ?_; simp only [Act.put, List.setIfInBounds_toArray, List.set_cons_zero, List.set_cons_succ])
                    (refine wpAnyH_take (i := 8) (v := .bool true) rfl (by kernel_rfl) (by kernel_rfl) (by kernel_rfl) (fun _ _ _ h => h) (Or.inl ⟨by kernel_rfl, fun w hSw => by (try dsimp only at hSw); go_split_ands; go_simp⟩) (by assumption) ?_; simp only [Act.put, List.setIfInBounds_toArray, List.set_cons_zero, List.set_cons_succ])
                    (refine wpAnyH_take (i := 9) (v := .int .i64 x) rfl (by kernel_rfl) (by kernel_rfl) (by kernel_rfl) (fun _ _ _ h => h) (Or.inl ⟨by kernel_rfl, fun w hSw => by (try dsimp only at hSw); go_split_ands; go_simp⟩) (by assumption) ?_; simp only [Act.put, List.setIfInBounds_toArray, List.set_cons_zero, List.set_cons_succ])
                    (refine wpAnyH_take (i := 10) (v := .int .i64 lo) rfl (by kernel_rfl) (by kernel_rfl) (by kernel_rfl) (fun _ _ _ h => h) (Or.inl ⟨by kernel_rfl, fun w hSw => by (try dsimp only at hSw); go_split_ands; go_simp⟩) (by assumption) ?_; simp only [Act.put, List.setIfInBounds_toArray, List.set_cons_zero, List.set_cons_succ])
                    (refine wpAnyH_take (i := 11) (v := .bool false) rfl (by kernel_rfl) (by kernel_rfl) (by kernel_rfl) (fun _ _ _ h => h) (Or.inl ⟨by kernel_rfl, fun w hSw => by (try dsimp only at hSw); go_split_ands; go_simp⟩) (by assumption) ?_; simp only [Act.put, List.setIfInBounds_toArray, List.set_cons_zero, List.set_cons_succ])
                    (refine wpAnyH_take (i := 12) (v := .bool false) rfl (by kernel_rfl) (by kernel_rfl) (by kernel_rfl) (fun _ _ _ h => h) (Or.inl ⟨by kernel_rfl, fun w hSw => by (try dsimp only at hSw); go_split_ands; go_simp⟩) (by assumption) ?_; simp only [Act.put, List.setIfInBounds_toArray, List.set_cons_zero, List.set_cons_succ])
                    (refine wpAnyH_ready (rs := [13]) (by kernel_rfl) (by simp) (AllReadyH.cons rfl (fun K hK => ?_) AllReadyH.nil); go_simp)
                    refine (cut_free (fr := fr) hm HV.out (.inl ⟨rfl, HA1.out⟩) rem s' F' _ (pre ++ [(x : Int)]) _ (done ++ partF m A fr true rem pre x) (rst ++ rest) (by have := Hpl.out; have := Hpre.out; omega) (range_push Hrange.out (by omega)) HL2.out Hrun.out hE2n).mono ?_
                    rintro e' w' ⟨F2, kv2, rfl, hE4⟩
                    rw [Hre2.out] at hE4
                    rw [Hre2.out, Hb2.out]
                    clear hE2n hE2d hE2 hHeld hcc2 hm3
                    obtain ⟨g2, c2, rfl, hc2a, hc2b⟩ := own_some (own_len hE4.own) (by omega)
                    dsimp only
                    (refine hK.out _ _ ⟨hE4.cm.2.2.2.1, hE4.cc⟩ (fun hHeld => ?_); clear hK K; (try simp only [Act.put, List.setIfInBounds_toArray, List.set_cons_zero, List.set_cons_succ]))
                    (refine wpAnyH_take (i := 14) (v := .bool false) rfl (by kernel_rfl) (by kernel_rfl) (by kernel_rfl) (fun _ _ _ h => h) (Or.inl ⟨by kernel_rfl, fun w hSw => by (try dsimp only at hSw); go_split_ands; go_simp⟩) (by assumption) ?_; simp only [Act.put, List.setIfInBounds_toArray, List.set_cons_zero, List.set_cons_succ])
                    (refine wpAnyH_take (i := 15) (v := .bool false) rfl (by kernel_rfl) (by kernel_rfl) (by kernel_rfl) (fun _ _ _ h => h) (Or.inl ⟨by kernel_rfl, fun w hSw => by (try dsimp only at hSw); go_split_ands; go_simp⟩) (by assumption) ?_; simp only [Act.put, List.setIfInBounds_toArray, List.set_cons_zero, List.set_cons_succ])
                    refine wpAnyH_done (by kernel_rfl) (NoPanic.normal ?_) _
                    obtain ⟨hk4, hf4⟩ := hE4.ck
                    have HE3 := Lib.hid hE4; clear hE4 hHeld
                    go_wp2_with fail
                    go_ret
                    have hfin : res = (re2.1, false) := by
                      rw [← Hres.out, Hrst.out, ← List.append_assoc, ← List.append_assoc, runL_append, if_neg (by rw [Hre2.out, Hb2.out]; decide), Hre2.out]
                    exact ⟨_, _, by rw [hfin]; rfl, by rw [hfin]; exact HE3.out.pop HV.out.keep rfl rfl⟩
                  · have Hb2 := Lib.hid hb2; clear hb2
                    refine wp_region_noPanic ?_
                    refine wp_region_held_drew (S := fun w' => w'.cell? ⟨o.m, 3, none⟩ = some (.int .i64 m.e) ∧ w'.cell? ⟨o.c, 0, none⟩ = some (.func (.func 222) #[] #[.pointer (some ⟨o.k, 0, none⟩), .pointer (some ⟨o.m, 0, none⟩), .pointer (some ⟨o.v, 0, none⟩), .pointer (some ⟨o.f, 0, none⟩), .pointer (some ⟨o.a, 0, none⟩), .pointer (some ⟨o.c, 0, none⟩)])) (by kernel_rfl) ⟨hE2d.cm.2.2.2.1, hE2d.cc⟩ (fun hHeld => ?_)
                    (refine wpAnyH_take (i := 2) (v := .pointer (some ⟨o.m, 3, none⟩)) rfl (by kernel_rfl) (by kernel_rfl) (by kernel_rfl) (fun _ _ _ h => h) (Or.inl ⟨by kernel_rfl, fun w hSw => by (try dsimp only at hSw); go_split_ands; go_simp⟩) (by assumption) ?_; simp only [Act.put, List.setIfInBounds_toArray, List.set_cons_zero, List.set_cons_succ])
                    (refine wpAnyH_take (i := 3) (v := .int .i64 m.e) rfl (by kernel_rfl) (by kernel_rfl) (by kernel_rfl) (fun _ _ _ h => h) (Or.inl ⟨by kernel_rfl, fun w hSw => by (try dsimp only at hSw); go_split_ands; go_simp⟩) (by assumption) ?_; simp only [Act.put, List.setIfInBounds_toArray, List.set_cons_zero, List.set_cons_succ])
                    (refine wpAnyH_ready (rs := [0]) (by kernel_rfl) (by simp) (AllReadyH.cons rfl (fun K hK => ?_) AllReadyH.nil); go_simp)
                    (refine hK.out _ _ ⟨hE2d.cm.2.2.2.1, hE2d.cc⟩ (fun hHeld => ?_); clear hK K; (try simp only [Act.put, List.setIfInBounds_toArray, List.set_cons_zero, List.set_cons_succ]))
                    (refine wpAnyH_ready (rs := [1]) (by kernel_rfl) (by simp) (AllReadyH.cons rfl (fun K hK => ?_) AllReadyH.nil); go_simp)
                    go_at_call 218
                    refine (sameRun_b _ (pre ++ [(x : Int)]) _ _ Hru.out (hV2.below ((Below.refl _ _).drew)) (by have := Hpl.out; omega)).mono ?_
                    rintro e' w' ⟨rfl, n3, rfl⟩
                    have hE2n := hE2.draw HV.out.keep (1 + n3)
                    dsimp only
                    (refine hK.out _ _ ⟨hE2n.cm.2.2.2.1, hE2n.cc⟩ (fun hHeld => ?_); clear hK K; (try simp only [Act.put, List.setIfInBounds_toArray, List.set_cons_zero, List.set_cons_succ]))
                    (refine wpAnyH_take (i := 4) (v := .bool false) rfl (by kernel_rfl) (by kernel_rfl) (by kernel_rfl) (fun _ _ _ h => h) (Or.inl ⟨by kernel_rfl, fun w hSw => by (try dsimp only at hSw); go_split_ands; go_simp⟩) (by assumption) ?_; simp only [Act.put, List.setIfInBounds_toArray, List.set_cons_zero, List.set_cons_succ])
                    (refine wpAnyH_take (i := 5) (v := .bool false) rfl (by kernel_rfl) (by kernel_rfl) (by kernel_rfl) (fun _ _ _ h => h) (Or.inl ⟨by kernel_rfl, fun w hSw => by (try dsimp only at hSw); go_split_ands; go_simp⟩) (by assumption) ?_; simp only [Act.put, List.setIfInBounds_toArray, List.set_cons_zero, List.set_cons_succ])
                    (refine wpAnyH_take (i := 6) (v := .func (.func 222) #[] #[.pointer (some ⟨o.k, 0, none⟩), .pointer (some ⟨o.m, 0, none⟩), .pointer (some ⟨o.v, 0, none⟩), .pointer (some ⟨o.f, 0, none⟩), .pointer (some ⟨o.a, 0, none⟩), .pointer (some ⟨o.c, 0, none⟩)]) rfl (by kernel_rfl) (by kernel_rfl) (by kernel_rfl) (fun _ _ _ h => h) (Or.inl ⟨by kernel_rfl, fun w hSw => by (try dsimp only at hSw); go_split_ands; go_simp⟩) (by assumption) ?_; simp only [Act.put, List.setIfInBounds_toArray, List.set_cons_zero, List.set_cons_succ])
                    (refine wpAnyH_take (i := 7) (v := .bool true) rfl (by kernel_rfl) (by kernel_rfl) (by kernel_rfl) (fun _ _ _ h => h) (Or.inl ⟨by kernel_rfl, fun w hSw => by (try dsimp only at hSw); go_split_ands; go_simp⟩) (by assumption) ?_; simp only [Act.put, List.setIfInBounds_toArray, List.set_cons_zero, List.set_cons_succ])
                    (refine wpAnyH_take (i := 8) (v := .bool true) rfl (by kernel_rfl) (by kernel_rfl) (by kernel_rfl) (fun _ _ _ h => h) (Or.inl ⟨by kernel_rfl, fun w hSw => by (try dsimp only at hSw); go_split_ands; go_simp⟩) (by assumption) ?_; simp only [Act.put, List.setIfInBounds_toArray, List.set_cons_zero, List.set_cons_succ])
                    (refine wpAnyH_take (i := 9) (v := .int .i64 x) rfl (by kernel_rfl) (by kernel_rfl) (by kernel_rfl) (fun _ _ _ h => h) (Or.inl ⟨by kernel_rfl, fun w hSw => by (try dsimp only at hSw); go_split_ands; go_simp⟩) (by assumption) ?_; simp only [Act.put, List.setIfInBounds_toArray, List.set_cons_zero, List.set_cons_succ])
                    (refine wpAnyH_take (i := 10) (v := .int .i64 lo) rfl (by kernel_rfl) (by kernel_rfl) (by kernel_rfl) (fun _ _ _ h => h) (Or.inl ⟨by kernel_rfl, fun w hSw => by (try dsimp only at hSw); go_split_ands; go_simp⟩) (by assumption) ?_; simp only [Act.put, List.setIfInBounds_toArray, List.set_cons_zero, List.set_cons_succ])
                    (refine wpAnyH_take (i := 11) (v := .bool false) rfl (by kernel_rfl) (by kernel_rfl) (by kernel_rfl) (fun _ _ _ h => h) (Or.inl ⟨by kernel_rfl, fun w hSw => by (try dsimp only at hSw); go_split_ands; go_simp⟩) (by assumption) ?_; simp only [Act.put, List.setIfInBounds_toArray, List.set_cons_zero, List.set_cons_succ])
                    (refine wpAnyH_take (i := 12) (v := .bool false) rfl (by kernel_rfl) (by kernel_rfl) (by kernel_rfl) (fun _ _ _ h => h) (Or.inl ⟨by kernel_rfl, fun w hSw => by (try dsimp only at hSw); go_split_ands; go_simp⟩) (by assumption) ?_; simp only [Act.put, List.setIfInBounds_toArray, List.set_cons_zero, List.set_cons_succ])
                    (refine wpAnyH_ready (rs := [13]) (by kernel_rfl) (by simp) (AllReadyH.cons rfl (fun K hK => ?_) AllReadyH.nil); go_simp)
                    refine (cut_free (fr := fr) hm HV.out (.inl ⟨rfl, HA1.out⟩) rem s' F' _ (pre ++ [(x : Int)]) _ (done ++ partF m A fr true rem pre x) (rst ++ rest) (by have := Hpl.out; have := Hpre.out; omega) (range_push Hrange.out (by omega)) HL2.out Hrun.out hE2n).mono ?_
                    rintro e' w' ⟨F2, kv2, rfl, hE4⟩
                    rw [Hre2.out] at hE4
                    rw [Hre2.out, Hb2.out]
                    clear hE2n hE2d hE2 hHeld hcc2 hm3
                    obtain ⟨g2, c2, rfl, hc2a, hc2b⟩ := own_some (own_len hE4.own) (by omega)
                    dsimp only
                    (refine hK.out _ _ ⟨hE4.cm.2.2.2.1, hE4.cc⟩ (fun hHeld => ?_); clear hK K; (try simp only [Act.put, List.setIfInBounds_toArray, List.set_cons_zero, List.set_cons_succ]))
                    (refine wpAnyH_take (i := 14) (v := .bool true) rfl (by kernel_rfl) (by kernel_rfl) (by kernel_rfl) (fun _ _ _ h => h) (Or.inl ⟨by kernel_rfl, fun w hSw => by (try dsimp only at hSw); go_split_ands; go_simp⟩) (by assumption) ?_; simp only [Act.put, List.setIfInBounds_toArray, List.set_cons_zero, List.set_cons_succ])
                    (refine wpAnyH_take (i := 15) (v := .bool true) rfl (by kernel_rfl) (by kernel_rfl) (by kernel_rfl) (fun _ _ _ h => h) (Or.inl ⟨by kernel_rfl, fun w hSw => by (try dsimp only at hSw); go_split_ands; go_simp⟩) (by assumption) ?_; simp only [Act.put, List.setIfInBounds_toArray, List.set_cons_zero, List.set_cons_succ])
                    refine wpAnyH_done (by kernel_rfl) (NoPanic.normal ?_) _
                    obtain ⟨hk4, hf4⟩ := hE4.ck
                    have HE3 := Lib.hid hE4; clear hE4 hHeld
                    go_wp2_with fail
                    go_roundw
                    case rel => exact ⟨x + 1, re2.1, _, _, by omega, by omega, by go_num, by rw [Hps.out, ← List.append_assoc]; exact runL_pair Hre2.out Hb2.out, HE3.out.pop HV.out.keep rfl rfl⟩
                    case measure => simp [intOf]; omega
                · have Htt := Lib.hid htt; clear htt
                  cases hb2 : re2.2
                  · have Hb2 := Lib.hid hb2; clear hb2
                    refine wp_region_noPanic ?_
                    refine wp_region_held_drew (S := fun w' => w'.cell? ⟨o.m, 3, none⟩ = some (.int .i64 m.e) ∧ w'.cell? ⟨o.c, 0, none⟩ = some (.func (.func 222) #[] #[.pointer (some ⟨o.k, 0, none⟩), .pointer (some ⟨o.m, 0, none⟩), .pointer (some ⟨o.v, 0, none⟩), .pointer (some ⟨o.f, 0, none⟩), .pointer (some ⟨o.a, 0, none⟩), .pointer (some ⟨o.c, 0, none⟩)])) (by kernel_rfl) ⟨hE2d.cm.2.2.2.1, hE2d.cc⟩ (fun hHeld => ?_)
                    (refine wpAnyH_take (i := 2) (v := .pointer (some ⟨o.m, 3, none⟩)) rfl (by kernel_rfl) (by kernel_rfl) (by kernel_rfl) (fun _ _ _ h => h) (Or.inl ⟨by kernel_rfl, fun w hSw => by (try dsimp only at hSw); go_split_ands; go_simp⟩) (by assumption) ?_; simp only [Act.put, List.setIfInBounds_toArray, List.set_cons_zero, List.set_cons_succ])
                    (refine wpAnyH_take (i := 3) (v := .int .i64 m.e) rfl (by kernel_rfl) (by kernel_rfl) (by kernel_rfl) (fun _ _ _ h => h) (Or.inl ⟨by kernel_rfl, fun w hSw => by (try dsimp only at hSw); go_split_ands; go_simp⟩) (by assumption) ?_; simp only [Act.put, List.setIfInBounds_toArray, List.set_cons_zero, List.set_cons_succ])
                    (refine wpAnyH_ready (rs := [0]) (by kernel_rfl) (by simp) (AllReadyH.cons rfl (fun K hK => ?_) AllReadyH.nil); go_simp)
                    (refine hK.out _ _ ⟨hE2d.cm.2.2.2.1, hE2d.cc⟩ (fun hHeld => ?_); clear hK K; (try simp only [Act.put, List.setIfInBounds_toArray, List.set_cons_zero, List.set_cons_succ]))
                    (refine wpAnyH_ready (rs := [1]) (by kernel_rfl) (by simp) (AllReadyH.cons rfl (fun K hK => ?_) AllReadyH.nil); go_simp)
                    go_at_call 218
                    refine (sameRun_b _ (pre ++ [(x : Int)]) _ _ Hru.out (hV2.below ((Below.refl _ _).drew)) (by have := Hpl.out; omega)).mono ?_
                    rintro e' w' ⟨rfl, n3, rfl⟩
                    have hE2n := hE2.draw HV.out.keep (1 + n3)
                    dsimp only
                    (refine hK.out _ _ ⟨hE2n.cm.2.2.2.1, hE2n.cc⟩ (fun hHeld => ?_); clear hK K; (try simp only [Act.put, List.setIfInBounds_toArray, List.set_cons_zero, List.set_cons_succ]))
                    (refine wpAnyH_take (i := 4) (v := .bool false) rfl (by kernel_rfl) (by kernel_rfl) (by kernel_rfl) (fun _ _ _ h => h) (Or.inl ⟨by kernel_rfl, fun w hSw => by (try dsimp only at hSw); go_split_ands; go_simp⟩) (by assumption) ?_; simp only [Act.put, List.setIfInBounds_toArray, List.set_cons_zero, List.set_cons_succ])
                    (refine wpAnyH_take (i := 5) (v := .bool false) rfl (by kernel_rfl) (by kernel_rfl) (by kernel_rfl) (fun _ _ _ h => h) (Or.inl ⟨by kernel_rfl, fun w hSw => by (try dsimp only at hSw); go_split_ands; go_simp⟩) (by assumption) ?_; simp only [Act.put, List.setIfInBounds_toArray, List.set_cons_zero, List.set_cons_succ])
                    (refine wpAnyH_take (i := 6) (v := .func (.func 222) #[] #[.pointer (some ⟨o.k, 0, none⟩), .pointer (some ⟨o.m, 0, none⟩), .pointer (some ⟨o.v, 0, none⟩), .pointer (some ⟨o.f, 0, none⟩), .pointer (some ⟨o.a, 0, none⟩), .pointer (some ⟨o.c, 0, none⟩)]) rfl (by kernel_rfl) (by kernel_rfl) (by kernel_rfl) (fun _ _ _ h => h) (Or.inl ⟨by kernel_rfl, fun w hSw => by (try dsimp only at hSw); go_split_ands; go_simp⟩) (by assumption) ?_; simp only [Act.put, List.setIfInBounds_toArray, List.set_cons_zero, List.set_cons_succ])
                    (refine wpAnyH_take (i := 7) (v := .bool true) rfl (by kernel_rfl) (by kernel_rfl) (by kernel_rfl) (fun _ _ _ h => h) (Or.inl ⟨by kernel_rfl, fun w hSw => by (try dsimp only at hSw); go_split_ands; go_simp⟩) (by assumption) ?_; simp only [Act.put, List.setIfInBounds_toArray, List.set_cons_zero, List.set_cons_succ])
                    (refine wpAnyH_take (i := 8) (v := .bool true) rfl (by kernel_rfl) (by kernel_rfl) (by kernel_rfl) (fun _ _ _ h => h) (Or.inl ⟨by kernel_rfl, fun w hSw => by (try dsimp only at hSw); go_split_ands; go_simp⟩) (by assumption) ?_; simp only [Act.put, List.setIfInBounds_toArray, List.set_cons_zero, List.set_cons_succ])
                    (refine wpAnyH_take (i := 9) (v := .int .i64 x) rfl (by kernel_rfl) (by kernel_rfl) (by kernel_rfl) (fun _ _ _ h => h) (Or.inl ⟨by kernel_rfl, fun w hSw => by (try dsimp only at hSw); go_split_ands; go_simp⟩) (by assumption) ?_; simp only [Act.put, List.setIfInBounds_toArray, List.set_cons_zero, List.set_cons_succ])
                    (refine wpAnyH_take (i := 10) (v := .int .i64 lo) rfl (by kernel_rfl) (by kernel_rfl) (by kernel_rfl) (fun _ _ _ h => h) (Or.inl ⟨by kernel_rfl, fun w hSw => by (try dsimp only at hSw); go_split_ands; go_simp⟩) (by assumption) ?_; simp only [Act.put, List.setIfInBounds_toArray, List.set_cons_zero, List.set_cons_succ])
                    (refine wpAnyH_take (i := 11) (v := .bool true) rfl (by kernel_rfl) (by kernel_rfl) (by kernel_rfl) (fun _ _ _ h => h) (Or.inl ⟨by kernel_rfl, fun w hSw => by (try dsimp only at hSw); go_split_ands; go_simp⟩) (by assumption) ?_; simp only [Act.put, List.setIfInBounds_toArray, List.set_cons_zero, List.set_cons_succ])
                    (refine wpAnyH_take (i := 12) (v := .bool true) rfl (by kernel_rfl) (by kernel_rfl) (by kernel_rfl) (fun _ _ _ h => h) (Or.inl ⟨by kernel_rfl, fun w hSw => by (try dsimp only at hSw); go_split_ands; go_simp⟩) (by assumption) ?_; simp only [Act.put, List.setIfInBounds_toArray, List.set_cons_zero, List.set_cons_succ])
                    (refine wpAnyH_ready (rs := [13]) (by kernel_rfl) (by simp) (AllReadyH.cons rfl (fun K hK => ?_) AllReadyH.nil); go_simp)
                    refine (IH.out s' F' _ (pre ++ [(x : Int)]) _ (done ++ partF m A fr true rem pre x) (rst ++ rest) (by have := Hpl.out; have := Hpre.out; omega) (range_push Hrange.out (by omega)) HL2.out Hrun.out hE2n).mono ?_
                    rintro e' w' ⟨F2, kv2, rfl, hE4⟩
                    rw [Hre2.out] at hE4
                    rw [Hre2.out, Hb2.out]
                    clear hE2n hE2d hE2 hHeld hcc2 hm3
                    obtain ⟨g2, c2, rfl, hc2a, hc2b⟩ := own_some (own_len hE4.own) (by omega)
                    dsimp only
                    (refine hK.out _ _ ⟨hE4.cm.2.2.2.1, hE4.cc⟩ (fun hHeld => ?_); clear hK K; (try simp only [Act.put, List.setIfInBounds_toArray, List.set_cons_zero, List.set_cons_succ]))
                    (refine wpAnyH_take (i := 14) (v := .bool false) rfl (by kernel_rfl) (by kernel_rfl) (by kernel_rfl) (fun _ _ _ h => h) (Or.inl ⟨by kernel_rfl, fun w hSw => by (try dsimp only at hSw); go_split_ands; go_simp⟩) (by assumption) ?_; simp only [Act.put, List.setIfInBounds_toArray, List.set_cons_zero, List.set_cons_succ])
                    (refine wpAnyH_take (i := 15) (v := .bool false) rfl (by kernel_rfl) (by kernel_rfl) (by kernel_rfl) (fun _ _ _ h => h) (Or.inl ⟨by kernel_rfl, fun w hSw => by (try dsimp only at hSw); go_split_ands; go_simp⟩) (by assumption) ?_; simp only [Act.put, List.setIfInBounds_toArray, List.set_cons_zero, List.set_cons_succ])
                    refine wpAnyH_done (by kernel_rfl) (NoPanic.normal ?_) _
                    obtain ⟨hk4, hf4⟩ := hE4.ck
                    have HE3 := Lib.hid hE4; clear hE4 hHeld
                    go_wp2_with fail
                    go_ret
                    have hfin : res = (re2.1, false) := by
                      rw [← Hres.out, Hrst.out, ← List.append_assoc, ← List.append_assoc, runL_append, if_neg (by rw [Hre2.out, Hb2.out]; decide), Hre2.out]
                    exact ⟨_, _, by rw [hfin]; rfl, by rw [hfin]; exact HE3.out.pop HV.out.keep rfl rfl⟩
                  · have Hb2 := Lib.hid hb2; clear hb2
                    refine wp_region_noPanic ?_
                    refine wp_region_held_drew (S := fun w' => w'.cell? ⟨o.m, 3, none⟩ = some (.int .i64 m.e) ∧ w'.cell? ⟨o.c, 0, none⟩ = some (.func (.func 222) #[] #[.pointer (some ⟨o.k, 0, none⟩), .pointer (some ⟨o.m, 0, none⟩), .pointer (some ⟨o.v, 0, none⟩), .pointer (some ⟨o.f, 0, none⟩), .pointer (some ⟨o.a, 0, none⟩), .pointer (some ⟨o.c, 0, none⟩)])) (by kernel_rfl) ⟨hE2d.cm.2.2.2.1, hE2d.cc⟩ (fun hHeld => ?_)
                    (refine wpAnyH_take (i := 2) (v := .pointer (some ⟨o.m, 3, none⟩)) rfl (by kernel_rfl) (by kernel_rfl) (by kernel_rfl) (fun _ _ _ h => h) (Or.inl ⟨by kernel_rfl, fun w hSw => by (try dsimp only at hSw); go_split_ands; go_simp⟩) (by assumption) ?_; simp only [Act.put, List.setIfInBounds_toArray, List.set_cons_zero, List.set_cons_succ])
                    (refine wpAnyH_take (i := 3) (v := .int .i64 m.e) rfl (by kernel_rfl) (by kernel_rfl) (by kernel_rfl) (fun _ _ _ h => h) (Or.inl ⟨by kernel_rfl, fun w hSw => by (try dsimp only at hSw); go_split_ands; go_simp⟩) (by assumption) ?_; simp only [Act.put, List.setIfInBounds_toArray, List.set_cons_zero, List.set_cons_succ])
                    (refine wpAnyH_ready (rs := [0]) (by kernel_rfl) (by simp) (AllReadyH.cons rfl (fun K hK => ?_) AllReadyH.nil); go_simp)
                    (refine hK.out _ _ ⟨hE2d.cm.2.2.2.1, hE2d.cc⟩ (fun hHeld => ?_); clear hK K; (try simp only [Act.put, List.setIfInBounds_toArray, List.set_cons_zero, List.set_cons_succ]))
                    (refine wpAnyH_ready (rs := [1]) (by kernel_rfl) (by simp) (AllReadyH.cons rfl (fun K hK => ?_) AllReadyH.nil); go_simp)
                    go_at_call 218
                    refine (sameRun_b _ (pre ++ [(x : Int)]) _ _ Hru.out (hV2.below ((Below.refl _ _).drew)) (by have := Hpl.out; omega)).mono ?_
                    rintro e' w' ⟨rfl, n3, rfl⟩
                    have hE2n := hE2.draw HV.out.keep (1 + n3)
                    dsimp only
                    (refine hK.out _ _ ⟨hE2n.cm.2.2.2.1, hE2n.cc⟩ (fun hHeld => ?_); clear hK K; (try simp only [Act.put, List.setIfInBounds_toArray, List.set_cons_zero, List.set_cons_succ]))
                    (refine wpAnyH_take (i := 4) (v := .bool false) rfl (by kernel_rfl) (by kernel_rfl) (by kernel_rfl) (fun _ _ _ h => h) (Or.inl ⟨by kernel_rfl, fun w hSw => by (try dsimp only at hSw); go_split_ands; go_simp⟩) (by assumption) ?_; simp only [Act.put, List.setIfInBounds_toArray, List.set_cons_zero, List.set_cons_succ])
                    (refine wpAnyH_take (i := 5) (v := .bool false) rfl (by kernel_rfl) (by kernel_rfl) (by kernel_rfl) (fun _ _ _ h => h) (Or.inl ⟨by kernel_rfl, fun w hSw => by (try dsimp only at hSw); go_split_ands; go_simp⟩) (by assumption) ?_; simp only [Act.put, List.setIfInBounds_toArray, List.set_cons_zero, List.set_cons_succ])
                    (refine wpAnyH_take (i := 6) (v := .func (.func 222) #[] #[.pointer (some ⟨o.k, 0, none⟩), .pointer (some ⟨o.m, 0, none⟩), .pointer (some ⟨o.v, 0, none⟩), .pointer (some ⟨o.f, 0, none⟩), .pointer (some ⟨o.a, 0, none⟩), .pointer (some ⟨o.c, 0, none⟩)]) rfl (by kernel_rfl) (by kernel_rfl) (by kernel_rfl) (fun _ _ _ h => h) (Or.inl ⟨by kernel_rfl, fun w hSw => by (try dsimp only at hSw); go_split_ands; go_simp⟩) (by assumption) ?_; simp only [Act.put, List.setIfInBounds_toArray, List.set_cons_zero, List.set_cons_succ])
                    (refine wpAnyH_take (i := 7) (v := .bool true) rfl (by kernel_rfl) (by kernel_rfl) (by kernel_rfl) (fun _ _ _ h => h) (Or.inl ⟨by kernel_rfl, fun w hSw => by (try dsimp only at hSw); go_split_ands; go_simp⟩) (by assumption) ?_; simp only [Act.put, List.setIfInBounds_toArray, List.set_cons_zero, List.set_cons_succ])
                    (refine wpAnyH_take (i := 8) (v := .bool true) rfl (by kernel_rfl) (by kernel_rfl) (by kernel_rfl) (fun _ _ _ h => h) (Or.inl ⟨by kernel_rfl, fun w hSw => by (try dsimp only at hSw); go_split_ands; go_simp⟩) (by assumption) ?_; simp only [Act.put, List.setIfInBounds_toArray, List.set_cons_zero, List.set_cons_succ])
                    (refine wpAnyH_take (i := 9) (v := .int .i64 x) rfl (by kernel_rfl) (by kernel_rfl) (by kernel_rfl) (fun _ _ _ h => h) (Or.inl ⟨by kernel_rfl, fun w hSw => by (try dsimp only at hSw); go_split_ands; go_simp⟩) (by assumption) ?_; simp only [Act.put, List.setIfInBounds_toArray, List.set_cons_zero, List.set_cons_succ])
                    (refine wpAnyH_take (i := 10) (v := .int .i64 lo) rfl (by kernel_rfl) (by kernel_rfl) (by kernel_rfl) (fun _ _ _ h => h) (Or.inl ⟨by kernel_rfl, fun w hSw => by (try dsimp only at hSw); go_split_ands; go_simp⟩) (by assumption) ?_; simp only [Act.put, List.setIfInBounds_toArray, List.set_cons_zero, List.set_cons_succ])
                    (refine wpAnyH_take (i := 11) (v := .bool true) rfl (by kernel_rfl) (by kernel_rfl) (by kernel_rfl) (fun _ _ _ h => h) (Or.inl ⟨by kernel_rfl, fun w hSw => by (try dsimp only at hSw); go_split_ands; go_simp⟩) (by assumption) ?_; simp only [Act.put, List.setIfInBounds_toArray, List.set_cons_zero, List.set_cons_succ])
                    (refine wpAnyH_take (i := 12) (v := .bool true) rfl (by kernel_rfl) (by kernel_rfl) (by kernel_rfl) (fun _ _ _ h => h) (Or.inl ⟨by kernel_rfl, fun w hSw => by (try dsimp only at hSw); go_split_ands; go_simp⟩) (by assumption) ?_; simp only [Act.put, List.setIfInBounds_toArray, List.set_cons_zero, List.set_cons_succ])
                    (refine wpAnyH_ready (rs := [13]) (by kernel_rfl) (by simp) (AllReadyH.cons rfl (fun K hK => ?_) AllReadyH.nil); go_simp)
                    refine (IH.out s' F' _ (pre ++ [(x : Int)]) _ (done ++ partF m A fr true rem pre x) (rst ++ rest) (by have := Hpl.out; have := Hpre.out; omega) (range_push Hrange.out (by omega)) HL2.out Hrun.out hE2n).mono ?_
                    rintro e' w' ⟨F2, kv2, rfl, hE4⟩
                    rw [Hre2.out] at hE4
                    rw [Hre2.out, Hb2.out]
                    clear hE2n hE2d hE2 hHeld hcc2 hm3
                    obtain ⟨g2, c2, rfl, hc2a, hc2b⟩ := own_some (own_len hE4.own) (by omega)
                    dsimp only
                    (refine hK.out _ _ ⟨hE4.cm.2.2.2.1, hE4.cc⟩ (fun hHeld => ?_); clear hK K; (try simp only [Act.put, List.setIfInBounds_toArray, List.set_cons_zero, List.set_cons_succ]))
                    (refine wpAnyH_take (i := 14) (v := .bool true) rfl (by kernel_rfl) (by kernel_rfl) (by kernel_rfl) (fun _ _ _ h => h) (Or.inl ⟨by kernel_rfl, fun w hSw => by (try dsimp only at hSw); go_split_ands; go_simp⟩) (by assumption) ?_; simp only [Act.put, List.setIfInBounds_toArray, List.set_cons_zero, List.set_cons_succ])
                    (refine wpAnyH_take (i := 15) (v := .bool true) rfl (by kernel_rfl) (by kernel_rfl) (by kernel_rfl) (fun _ _ _ h => h) (Or.inl ⟨by kernel_rfl, fun w hSw => by (try dsimp only at hSw); go_split_ands; go_simp⟩) (by assumption) ?_; simp only [Act.put, List.setIfInBounds_toArray, List.set_cons_zero, List.set_cons_succ])
                    refine wpAnyH_done (by kernel_rfl) (NoPanic.normal ?_) _
                    obtain ⟨hk4, hf4⟩ := hE4.ck
                    have HE3 := Lib.hid hE4; clear hE4 hHeld
                    go_wp2_with fail
                    go_roundw
                    case rel => exact ⟨x + 1, re2.1, _, _, by omega, by omega, by go_num, by rw [Hps.out, ← List.append_assoc]; exact runL_pair Hre2.out Hb2.out, HE3.out.pop HV.out.keep rfl rfl⟩
                    case measure => simp [intOf]; omega
            · have h0' := h0
              have h1 : 0 < pre.length := by omega
              obtain ⟨pb, po, rfl, _, hpc⟩ := hVk.cell (k := pre.length - 1) (by omega)
              have hrp := Hrange.out (pre.length - 1) (by omega)
              obtain ⟨q, hq⟩ : ∃ q, absI ((x : Int) - geti pre (pre.length - 1)) = q := ⟨_, rfl⟩
              have hw : IntKind.i64.wrap ((x : Int) - geti pre (pre.length - 1)) = (x : Int) - geti pre (pre.length - 1) := IntWalk.i64_in _ (by omega)
              have Hq := Lib.hid hq; clear hq
              have hd1' : decide (m.s < q) = false := decide_eq_false (by rcases hgood.2 with h | h; exact absurd h h0; rw [Hq.out] at h; omega)
              have Hgood := Lib.hid hgood; clear hgood
              clear h0 h0'
              go_wp2_with fail
              go_quiet ((go_at_call 217; first | exact quiet_same (absolute_b _ _ _ Hq.out (by omega)) | exact quiet_same0 (absolute_b _ _ _ Hq.out (by omega))))
              have hcp := (hES.draw HV.out.keep nq).ck
              obtain ⟨hcpk, hcpf⟩ := hcp
              have hown := (hES.draw HV.out.keep nq).own
              have hn0 : pre.length + 1 ≤ 1000 := by omega
              have HES := Lib.hid (hES.draw HV.out.keep nq); clear hES
              clear hm0 hm1 hm2 hm3 hm4 hcca hcck hnn
              go_wp2_with (at_builtin; refine wp_app1 _ rfl _ _ 35 rfl w0.heap.size 2 (.int .i64 0) 8 Tryz.underlying35 inf_int rfl _ _ _ rfl hown (.int .i64 x) _ rfl rfl (by omega) (by omega) (HES.out.chg.size) ?_; intro v1 w1 hown1 hgrow1 hblk1 hB1; obtain ⟨hk1, hf1⟩ := HES.out.grown_ck hgrow1; obtain ⟨g1, c1, rfl, hc1a, hc1b⟩ := own_some hown1 (by omega))
              have hE2 := HES.out.push HV.out.keep hown1 hgrow1 hblk1
              clear hk1 hf1 hblk1 hB1 hgrow1 hown1 hown hcpk hcpf
              generalize hw2 : w1.setCell ⟨o.k, 0, none⟩ (.slice (some ⟨g1, 0, none⟩) (pre.length + 1) c1) = w2 at *
              clear hw2 HES
              have hV2 := own_V1 hE2.own
              have hpl : (pre ++ [(x : Int)]).length = pre.length + 1 := by simp
              have hru : ((runAt (pre ++ [(x : Int)]) ((pre ++ [(x : Int)]).length - 1) : Nat) : Int) = (runAt (pre ++ [(x : Int)]) pre.length : Int) := by rw [hpl, Nat.add_sub_cancel]
              obtain ⟨r, hr⟩ : ∃ r : Int, (runAt (pre ++ [(x : Int)]) pre.length : Int) = r := ⟨_, rfl⟩
              rw [hr] at hru
              have Hru := Lib.hid hru; clear hru
              have Hr := Lib.hid hr; clear hr
              have Hpl := Lib.hid hpl; clear hpl
              obtain ⟨hm0, hm1, hm2, hm3, hm4⟩ := hE2.cm
              have hk2 := hE2.ck.1
              by_cases hbad : m.e < r
              · have hfit : brF m A fr true rem pre x = [] := by
                  unfold brF
                  have h1 : fitAt m (pre ++ [(x : Int)]) pre.length = false := fit_runE Hr.out hbad
                  rw [h1]; simp
                have hnext : runL step s0 (done ++ partF m A fr true rem pre (x + 1)) = (s', true) := by
                  rw [partF_succ (by rw [Hlo.out]; exact hx0), hfit, List.append_nil]; exact Hrun.out
                have Hnext := Lib.hid hnext; clear hnext hfit
                have HE2 := Lib.hid hE2; clear hE2
                go_quiet ((go_at_call 218; first | exact quiet_at (sameRun_b _ _ _ _ Hru.out (V1.drewN hV2) (by have := Hpl.out; omega)) | exact quiet_at0 (sameRun_b _ _ _ _ Hru.out (V1.drewN hV2) (by have := Hpl.out; omega))))
                have hE3 := HE2.out.draw HV.out.keep nq
                obtain ⟨hk3, hf3⟩ := hE3.ck
                have HE3 := Lib.hid hE3; clear hE3
                clear hk2
                go_wp2_with fail
                go_roundw
                case rel => exact ⟨x + 1, s', F', _, by omega, by omega, by go_num, Hnext.out, by first | exact HE3.out.pop HV.out.keep rfl rfl | exact (HE3.out.pop HV.out.keep rfl rfl).draw HV.out.keep _⟩
                case measure => simp [intOf]; omega
              · obtain ⟨tt, htt⟩ : ∃ tt, (true && decide ((x : Int) = geti fr pre.length)) = tt := ⟨_, rfl⟩
                have hbr : brF m A fr true rem pre x = genF m A fr tt rem (pre ++ [(x : Int)]) := by
                  unfold brF
                  have h1 : fitAt m (pre ++ [(x : Int)]) pre.length = true := by
                    rw [fit_push, Hr.out, decide_eq_true (show r ≤ m.e by omega), Bool.true_and]
                    rcases Hgood.out.2 with h | h
                    · rw [h]; rfl
                    · rw [decide_eq_true h]; simp
                  rw [h1, Hgood.out.1, htt]; rfl
                obtain ⟨rst, hrst⟩ := partF_le (m := m) (A := A) (fr := fr) (pre := pre) (tight := true) (rem := rem) (x := x + 1) (y := d) (by omega)
                rw [partF_succ (by rw [Hlo.out]; exact hx0), hbr, ← Hdn.out, partF_end] at hrst
                have hL2 : L = (done ++ partF m A fr true rem pre x) ++ genF m A fr tt rem (pre ++ [(x : Int)]) ++ (rst ++ rest) := by rw [HL.out, hrst]; simp
                obtain ⟨re2, hre2⟩ : ∃ r, runL step s0 ((done ++ partF m A fr true rem pre x) ++ genF m A fr tt rem (pre ++ [(x : Int)])) = r := ⟨_, rfl⟩
                have hps : partF m A fr true rem pre (x + 1) = partF m A fr true rem pre x ++ genF m A fr tt rem (pre ++ [(x : Int)]) := by rw [partF_succ (by rw [Hlo.out]; exact hx0), hbr]
                have hdr : decide (m.e < r) = false := decide_eq_false hbad
                have Hbr := Lib.hid hbr; clear hbr
                have Hps := Lib.hid hps; clear hps
                have Hrst := Lib.hid hrst; clear hrst
                have HL2 := Lib.hid hL2; clear hL2
                have Hre2 := Lib.hid hre2; clear hre2
                have hE2d := hE2.drew HV.out.keep
                have hcc2 : w2.cell? ⟨o.c, 0, none⟩ = some (.func (.func 222) #[] #[.pointer (some ⟨o.k, 0, none⟩), .pointer (some ⟨o.m, 0, none⟩), .pointer (some ⟨o.v, 0, none⟩), .pointer (some ⟨o.f, 0, none⟩), .pointer (some ⟨o.a, 0, none⟩), .pointer (some ⟨o.c, 0, none⟩)]) := hE2.cc
                clear hm0 hm1 hm2 hm4
                have hte : ((x : Int) == (lo : Int)) = tt := by
                  rw [← htt, Bool.true_and, ← HloI.out]
                  exact (Bool.eq_iff_iff.2 (by rw [beq_iff_eq, decide_eq_true_iff]))
                cases tt
                · have Htt := Lib.hid htt; clear htt
                  cases hb2 : re2.2
                  · have Hb2 := Lib.hid hb2; clear hb2
                    refine wp_region_noPanic ?_
                    refine wp_region_held_drew (S := fun w' => w'.cell? ⟨o.m, 3, none⟩ = some (.int .i64 m.e) ∧ w'.cell? ⟨o.c, 0, none⟩ = some (.func (.func 222) #[] #[.pointer (some ⟨o.k, 0, none⟩), .pointer (some ⟨o.m, 0, none⟩), .pointer (some ⟨o.v, 0, none⟩), .pointer (some ⟨o.f, 0, none⟩), .pointer (some ⟨o.a, 0, none⟩), .pointer (some ⟨o.c, 0, none⟩)])) (by kernel_rfl) ⟨hE2d.cm.2.2.2.1, hE2d.cc⟩ (fun hHeld => ?_)
                    (refine wpAnyH_take (i := 2) (v := .pointer (some ⟨o.m, 3, none⟩)) rfl (by kernel_rfl) (by kernel_rfl) (by kernel_rfl) (fun _ _ _ h => h) (Or.inl ⟨by kernel_rfl, fun w hSw => by (try dsimp only at hSw); go_split_ands; go_simp⟩) (by assumption) ?_; simp only [Act.put, List.setIfInBounds_toArray, List.set_cons_zero, List.set_cons_succ])
                    (refine wpAnyH_take (i := 3) (v := .int .i64 m.e) rfl (by kernel_rfl) (by kernel_rfl) (by kernel_rfl) (fun _ _ _ h => h) (Or.inl ⟨by kernel_rfl, fun w hSw => by (try dsimp only at hSw); go_split_ands; go_simp⟩) (by assumption) ?_; simp only [Act.put, List.setIfInBounds_toArray, List.set_cons_zero, List.set_cons_succ])
                    (refine wpAnyH_ready (rs := [0]) (by kernel_rfl) (by simp) (AllReadyH.cons rfl (fun K hK => ?_) AllReadyH.nil); go_simp)
                    (refine hK.out _ _ ⟨hE2d.cm.2.2.2.1, hE2d.cc⟩ (fun hHeld => ?_); clear hK K; (try simp only [Act.put, List.setIfInBounds_toArray, List.set_cons_zero, List.set_cons_succ]))
                    (refine wpAnyH_ready (rs := [1]) (by kernel_rfl) (by simp) (AllReadyH.cons rfl (fun K hK => ?_) AllReadyH.nil); go_simp)
                    go_at_call 218
                    refine (sameRun_b _ (pre ++ [(x : Int)]) _ _ Hru.out (hV2.below ((Below.refl _ _).drew)) (by have := Hpl.out; omega)).mono ?_
                    rintro e' w' ⟨rfl, n3, rfl⟩
                    have hE2n := hE2.draw HV.out.keep (1 + n3)
                    dsimp only
                    (refine hK.out _ _ ⟨hE2n.cm.2.2.2.1, hE2n.cc⟩ (fun hHeld => ?_); clear hK K; (try simp only [Act.put, List.setIfInBounds_toArray, List.set_cons_zero, List.set_cons_succ]))
                    (refine wpAnyH_take (i := 4) (v := .bool false) rfl (by kernel_rfl) (by kernel_rfl) (by kernel_rfl) (fun _ _ _ h => h) (Or.inl ⟨by kernel_rfl, fun w hSw => by (try dsimp only at hSw); go_split_ands; go_simp⟩) (by assumption) ?_; simp only [Act.put, List.setIfInBounds_toArray, List.set_cons_zero, List.set_cons_succ])
                    (refine wpAnyH_take (i := 5) (v := .bool false) rfl (by kernel_rfl) (by kernel_rfl) (by kernel_rfl) (fun _ _ _ h => h) (Or.inl ⟨by kernel_rfl, fun w hSw => by (try dsimp only at hSw); go_split_ands; go_simp⟩) (by assumption) ?_; simp only [Act.put, List.setIfInBounds_toArray, List.set_cons_zero, List.set_cons_succ])
                    (refine wpAnyH_take (i := 6) (v := .func (.func 222) #[] #[.pointer (some ⟨o.k, 0, none⟩), .pointer (some ⟨o.m, 0, none⟩), .pointer (some ⟨o.v, 0, none⟩), .pointer (some ⟨o.f, 0, none⟩), .pointer (some ⟨o.a, 0, none⟩), .pointer (some ⟨o.c, 0, none⟩)]) rfl (by kernel_rfl) (by kernel_rfl) (by kernel_rfl) (fun _ _ _ h => h) (Or.inl ⟨by kernel_rfl, fun w hSw => by (try dsimp only at hSw); go_split_ands; go_simp⟩) (by assumption) ?_; simp only [Act.put, List.setIfInBounds_toArray, List.set_cons_zero, List.set_cons_succ])
                    (refine wpAnyH_take (i := 7) (v := .bool true) rfl (by kernel_rfl) (by kernel_rfl) (by kernel_rfl) (fun _ _ _ h => h) (Or.inl ⟨by kernel_rfl, fun w hSw => by (try dsimp only at hSw); go_split_ands; go_simp⟩) (by assumption) ?_; simp only [Act.put, List.setIfInBounds_toArray, List.set_cons_zero, List.set_cons_succ])
                    (refine wpAnyH_take (i := 8) (v := .bool true) rfl (by kernel_rfl) (by kernel_rfl) (by kernel_rfl) (fun _ _ _ h => h) (Or.inl ⟨by kernel_rfl, fun w hSw => by (try dsimp only at hSw); go_split_ands; go_simp⟩) (by assumption) ?_; simp only [Act.put, List.setIfInBounds_toArray, List.set_cons_zero, List.set_cons_succ])
                    (refine wpAnyH_take (i := 9) (v := .int .i64 x) rfl (by kernel_rfl) (by kernel_rfl) (by kernel_rfl) (fun _ _ _ h => h) (Or.inl ⟨by kernel_rfl, fun w hSw => by (try dsimp only at hSw); go_split_ands; go_simp⟩) (by assumption) ?_; simp only [Act.put, List.setIfInBounds_toArray, List.set_cons_zero, List.set_cons_succ])
                    (refine wpAnyH_take (i := 10) (v := .int .i64 lo) rfl (by kernel_rfl) (by kernel_rfl) (by kernel_rfl) (fun _ _ _ h => h) (Or.inl ⟨by kernel_rfl, fun w hSw => by (try dsimp only at hSw); go_split_ands; go_simp⟩) (by assumption) ?_; simp only [Act.put, List.setIfInBounds_toArray, List.set_cons_zero, List.set_cons_succ])
                    (refine wpAnyH_take (i := 11) (v := .bool false) rfl (by kernel_rfl) (by kernel_rfl) (by kernel_rfl) (fun _ _ _ h => h) (Or.inl ⟨by kernel_rfl, fun w hSw => by (try dsimp only at hSw); go_split_ands; go_simp⟩) (by assumption) ?_; simp only [Act.put, List.setIfInBounds_toArray, List.set_cons_zero, List.set_cons_succ])
                    (refine wpAnyH_take (i := 12) (v := .bool false) rfl (by kernel_rfl) (by kernel_rfl) (by kernel_rfl) (fun _ _ _ h => h) (Or.inl ⟨by kernel_rfl, fun w hSw => by (try dsimp only at hSw); go_split_ands; go_simp⟩) (by assumption) ?_; simp only [Act.put, List.setIfInBounds_toArray, List.set_cons_zero, List.set_cons_succ])
                    (refine wpAnyH_ready (rs := [13]) (by kernel_rfl) (by simp) (AllReadyH.cons rfl (fun K hK => ?_) AllReadyH.nil); go_simp)
                    refine (cut_free (fr := fr) hm HV.out (.inl ⟨rfl, HA1.out⟩) rem s' F' _ (pre ++ [(x : Int)]) _ (done ++ partF m A fr true rem pre x) (rst ++ rest) (by have := Hpl.out; have := Hpre.out; omega) (range_push Hrange.out (by omega)) HL2.out Hrun.out hE2n).mono ?_
                    rintro e' w' ⟨F2, kv2, rfl, hE4⟩
                    rw [Hre2.out] at hE4
                    rw [Hre2.out, Hb2.out]
                    clear hE2n hE2d hE2 hHeld hcc2 hm3
                    obtain ⟨g2, c2, rfl, hc2a, hc2b⟩ := own_some (own_len hE4.own) (by omega)
                    dsimp only
                    (refine hK.out _ _ ⟨hE4.cm.2.2.2.1, hE4.cc⟩ (fun hHeld => ?_); clear hK K; (try simp only [Act.put, List.setIfInBounds_toArray, List.set_cons_zero, List.set_cons_succ]))
                    (refine wpAnyH_take (i := 14) (v := .bool false) rfl (by kernel_rfl) (by kernel_rfl) (by kernel_rfl) (fun _ _ _ h => h) (Or.inl ⟨by kernel_rfl, fun w hSw => by (try dsimp only at hSw); go_split_ands; go_simp⟩) (by assumption) ?_; simp only [Act.put, List.setIfInBounds_toArray, List.set_cons_zero, List.set_cons_succ])
                    (refine wpAnyH_take (i := 15) (v := .bool false) rfl (by kernel_rfl) (by kernel_rfl) (by kernel_rfl) (fun _ _ _ h => h) (Or.inl ⟨by kernel_rfl, fun w hSw => by (try dsimp only at hSw); go_split_ands; go_simp⟩) (by assumption) ?_; simp only [Act.put, List.setIfInBounds_toArray, List.set_cons_zero, List.set_cons_succ])
                    refine wpAnyH_done (by kernel_rfl) (NoPanic.normal ?_) _
                    obtain ⟨hk4, hf4⟩ := hE4.ck
                    have HE3 := Lib.hid hE4; clear hE4 hHeld
                    go_wp2_with fail
                    go_ret
                    have hfin : res = (re2.1, false) := by
                      rw [← Hres.out, Hrst.out, ← List.append_assoc, ← List.append_assoc, runL_append, if_neg (by rw [Hre2.out, Hb2.out]; decide), Hre2.out]
                    exact ⟨_, _, by rw [hfin]; rfl, by rw [hfin]; exact HE3.out.pop HV.out.keep rfl rfl⟩
                  · have Hb2 := Lib.hid hb2; clear hb2
                    refine wp_region_noPanic ?_
                    refine wp_region_held_drew (S := fun w' => w'.cell? ⟨o.m, 3, none⟩ = some (.int .i64 m.e) ∧ w'.cell? ⟨o.c, 0, none⟩ = some (.func (.func 222) #[] #[.pointer (some ⟨o.k, 0, none⟩), .pointer (some ⟨o.m, 0, none⟩), .pointer (some ⟨o.v, 0, none⟩), .pointer (some ⟨o.f, 0, none⟩), .pointer (some ⟨o.a, 0, none⟩), .pointer (some ⟨o.c, 0, none⟩)])) (by kernel_rfl) ⟨hE2d.cm.2.2.2.1, hE2d.cc⟩ (fun hHeld => ?_)
                    (refine wpAnyH_take (i := 2) (v := .pointer (some ⟨o.m, 3, none⟩)) rfl (by kernel_rfl) (by kernel_rfl) (by kernel_rfl) (fun _ _ _ h => h) (Or.inl ⟨by kernel_rfl, fun w hSw => by (try dsimp only at hSw); go_split_ands; go_simp⟩) (by assumption) ?_; simp only [Act.put, List.setIfInBounds_toArray, List.set_cons_zero, List.set_cons_succ])
                    (refine wpAnyH_take (i := 3) (v := .int .i64 m.e) rfl (by kernel_rfl) (by kernel_rfl) (by kernel_rfl) (fun _ _ _ h => h) (Or.inl ⟨by kernel_rfl, fun w hSw => by (try dsimp only at hSw); go_split_ands; go_simp⟩) (by assumption) ?_; simp only [Act.put, List.setIfInBounds_toArray, List.set_cons_zero, List.set_cons_succ])
                    (refine wpAnyH_ready (rs := [0]) (by kernel_rfl) (by simp) (AllReadyH.cons rfl (fun K hK => ?_) AllReadyH.nil); go_simp)
                    (refine hK.out _ _ ⟨hE2d.cm.2.2.2.1, hE2d.cc⟩ (fun hHeld => ?_); clear hK K; (try simp only [Act.put, List.setIfInBounds_toArray, List.set_cons_zero, List.set_cons_succ]))
                    (refine wpAnyH_ready (rs := [1]) (by kernel_rfl) (by simp) (AllReadyH.cons rfl (fun K hK => ?_) AllReadyH.nil); go_simp)
                    go_at_call 218
                    refine (sameRun_b _ (pre ++ [(x : Int)]) _ _ Hru.out (hV2.below ((Below.refl _ _).drew)) (by have := Hpl.out; omega)).mono ?_
                    rintro e' w' ⟨rfl, n3, rfl⟩
                    have hE2n := hE2.draw HV.out.keep (1 + n3)
                    dsimp only
                    (refine hK.out _ _ ⟨hE2n.cm.2.2.2.1, hE2n.cc⟩ (fun hHeld => ?_); clear hK K; (try simp only [Act.put, List.setIfInBounds_toArray, List.set_cons_zero, List.set_cons_succ]))
                    (refine wpAnyH_take (i := 4) (v := .bool false) rfl (by kernel_rfl) (by kernel_rfl) (by kernel_rfl) (fun _ _ _ h => h) (Or.inl ⟨by kernel_rfl, fun w hSw => by (try dsimp only at hSw); go_split_ands; go_simp⟩) (by assumption) ?_; simp only [Act.put, List.setIfInBounds_toArray, List.set_cons_zero, List.set_cons_succ])
                    (refine wpAnyH_take (i := 5) (v := .bool false) rfl (by kernel_rfl) (by kernel_rfl) (by kernel_rfl) (fun _ _ _ h => h) (Or.inl ⟨by kernel_rfl, fun w hSw => by (try dsimp only at hSw); go_split_ands; go_simp⟩) (by assumption) ?_; simp only [Act.put, List.setIfInBounds_toArray, List.set_cons_zero, List.set_cons_succ])
                    (refine wpAnyH_take (i := 6) (v := .func (.func 222) #[] #[.pointer (some ⟨o.k, 0, none⟩), .pointer (some ⟨o.m, 0, none⟩), .pointer (some ⟨o.v, 0, none⟩), .pointer (some ⟨o.f, 0, none⟩), .pointer (some ⟨o.a, 0, none⟩), .pointer (some ⟨o.c, 0, none⟩)]) rfl (by kernel_rfl) (by kernel_rfl) (by kernel_rfl) (fun _ _ _ h => h) (Or.inl ⟨by kernel_rfl, fun w hSw => by (try dsimp only at hSw); go_split_ands; go_simp⟩) (by assumption) ?_; simp only [Act.put, List.setIfInBounds_toArray, List.set_cons_zero, List.set_cons_succ])
                    (refine wpAnyH_take (i := 7) (v := .bool true) rfl (by kernel_rfl) (by kernel_rfl) (by kernel_rfl) (fun _ _ _ h => h) (Or.inl ⟨by kernel_rfl, fun w hSw => by (try dsimp only at hSw); go_split_ands; go_simp⟩) (by assumption) ?_; simp only [Act.put, List.setIfInBounds_toArray, List.set_cons_zero, List.set_cons_succ])
                    (refine wpAnyH_take (i := 8) (v := .bool true) rfl (by kernel_rfl) (by kernel_rfl) (by kernel_rfl) (fun _ _ _ h => h) (Or.inl ⟨by kernel_rfl, fun w hSw => by (try dsimp only at hSw); go_split_ands; go_simp⟩) (by assumption) ?_; simp only [Act.put, List.setIfInBounds_toArray, List.set_cons_zero, List.set_cons_succ])
                    (refine wpAnyH_take (i := 9) (v := .int .i64 x) rfl (by kernel_rfl) (by kernel_rfl) (by kernel_rfl) (fun _ _ _ h => h) (Or.inl ⟨by kernel_rfl, fun w hSw => by (try dsimp only at hSw); go_split_ands; go_simp⟩) (by assumption) ?_; simp only [Act.put, List.setIfInBounds_toArray, List.set_cons_zero, List.set_cons_succ])
                    (refine wpAnyH_take (i := 10) (v := .int .i64 lo) rfl (by kernel_rfl) (by kernel_rfl) (by kernel_rfl) (fun _ _ _ h => h) (Or.inl ⟨by kernel_rfl, fun w hSw => by (try dsimp only at hSw); go_split_ands; go_simp⟩) (by assumption) ?_; simp only [Act.put, List.setIfInBounds_toArray, List.set_cons_zero, List.set_cons_succ])
                    (refine wpAnyH_take (i := 11) (v := .bool false) rfl (by kernel_rfl) (by kernel_rfl) (by kernel_rfl) (fun _ _ _ h => h) (Or.inl ⟨by kernel_rfl, fun w hSw => by (try dsimp only at hSw); go_split_ands; go_simp⟩) (by assumption) ?_; simp only [Act.put, List.setIfInBounds_toArray, List.set_cons_zero, List.set_cons_succ])
                    (refine wpAnyH_take (i := 12) (v := .bool false) rfl (by kernel_rfl) (by kernel_rfl) (by kernel_rfl) (fun _ _ _ h => h) (Or.inl ⟨by kernel_rfl, fun w hSw => by (try dsimp only at hSw); go_split_ands; go_simp⟩) (by assumption) ?_; simp only [Act.put, List.setIfInBounds_toArray, List.set_cons_zero, List.set_cons_succ])
                    (refine wpAnyH_ready (rs := [13]) (by kernel_rfl) (by simp) (AllReadyH.cons rfl (fun K hK => ?_) AllReadyH.nil); go_simp)
                    refine (cut_free (fr := fr) hm HV.out (.inl ⟨rfl, HA1.out⟩) rem s' F' _ (pre ++ [(x : Int)]) _ (done ++ partF m A fr true rem pre x) (rst ++ rest) (by have := Hpl.out; have := Hpre.out; omega) (range_push Hrange.out (by omega)) HL2.out Hrun.out hE2n).mono ?_
                    rintro e' w' ⟨F2, kv2, rfl, hE4⟩
                    rw [Hre2.out] at hE4
                    rw [Hre2.out, Hb2.out]
                    clear hE2n hE2d hE2 hHeld hcc2 hm3
                    obtain ⟨g2, c2, rfl, hc2a, hc2b⟩ := own_some (own_len hE4.own) (by omega)
                    dsimp only
                    (refine hK.out _ _ ⟨hE4.cm.2.2.2.1, hE4.cc⟩ (fun hHeld => ?_); clear hK K; (try simp only [Act.put, List.setIfInBounds_toArray, List.set_cons_zero, List.set_cons_succ]))
                    (refine wpAnyH_take (i := 14) (v := .bool true) rfl (by kernel_rfl) (by kernel_rfl) (by kernel_rfl) (fun _ _ _ h => h) (Or.inl ⟨by kernel_rfl, fun w hSw => by (try dsimp only at hSw); go_split_ands; go_simp⟩) (by assumption) ?_; simp only [Act.put, List.setIfInBounds_toArray, List.set_cons_zero, List.set_cons_succ])
                    (refine wpAnyH_take (i := 15) (v := .bool true) rfl (by kernel_rfl) (by kernel_rfl) (by kernel_rfl) (fun _ _ _ h => h) (Or.inl ⟨by kernel_rfl, fun w hSw => by (try dsimp only at hSw); go_split_ands; go_simp⟩) (by assumption) ?_; simp only [Act.put, List.setIfInBounds_toArray, List.set_cons_zero, List.set_cons_succ])
                    refine wpAnyH_done (by kernel_rfl) (NoPanic.normal ?_) _
                    obtain ⟨hk4, hf4⟩ := hE4.ck
                    have HE3 := Lib.hid hE4; clear hE4 hHeld
                    go_wp2_with fail
                    go_roundw
                    case rel => exact ⟨x + 1, re2.1, _, _, by omega, by omega, by go_num, by rw [Hps.out, ← List.append_assoc]; exact runL_pair Hre2.out Hb2.out, HE3.out.pop HV.out.keep rfl rfl⟩
                    case measure => simp [intOf]; omega
                · have Htt := Lib.hid htt; clear htt
                  cases hb2 : re2.2
                  · have Hb2 := Lib.hid hb2; clear hb2
                    refine wp_region_noPanic ?_
                    refine wp_region_held_drew (S := fun w' => w'.cell? ⟨o.m, 3, none⟩ = some (.int .i64 m.e) ∧ w'.cell? ⟨o.c, 0, none⟩ = some (.func (.func 222) #[] #[.pointer (some ⟨o.k, 0, none⟩), .pointer (some ⟨o.m, 0, none⟩), .pointer (some ⟨o.v, 0, none⟩), .pointer (some ⟨o.f, 0, none⟩), .pointer (some ⟨o.a, 0, none⟩), .pointer (some ⟨o.c, 0, none⟩)])) (by kernel_rfl) ⟨hE2d.cm.2.2.2.1, hE2d.cc⟩ (fun hHeld => ?_)
                    (refine wpAnyH_take (i := 2) (v := .pointer (some ⟨o.m, 3, none⟩)) rfl (by kernel_rfl) (by kernel_rfl) (by kernel_rfl) (fun _ _ _ h => h) (Or.inl ⟨by kernel_rfl, fun w hSw => by (try dsimp only at hSw); go_split_ands; go_simp⟩) (by assumption) ?_; simp only [Act.put, List.setIfInBounds_toArray, List.set_cons_zero, List.set_cons_succ])
                    (refine wpAnyH_take (i := 3) (v := .int .i64 m.e) rfl (by kernel_rfl) (by kernel_rfl) (by kernel_rfl) (fun _ _ _ h => h) (Or.inl ⟨by kernel_rfl, fun w hSw => by (try dsimp only at hSw); go_split_ands; go_simp⟩) (by assumption) ?_; simp only [Act.put, List.setIfInBounds_toArray, List.set_cons_zero, List.set_cons_succ])
                    (refine wpAnyH_ready (rs := [0]) (by kernel_rfl) (by simp) (AllReadyH.cons rfl (fun K hK => ?_) AllReadyH.nil); go_simp)
                    (refine hK.out _ _ ⟨hE2d.cm.2.2.2.1, hE2d.cc⟩ (fun hHeld => ?_); clear hK K; (try simp only [Act.put, List.setIfInBounds_toArray, List.set_cons_zero, List.set_cons_succ]))
                    (refine wpAnyH_ready (rs := [1]) (by kernel_rfl) (by simp) (AllReadyH.cons rfl (fun K hK => ?_) AllReadyH.nil); go_simp)
                    go_at_call 218
                    refine (sameRun_b _ (pre ++ [(x : Int)]) _ _ Hru.out (hV2.below ((Below.refl _ _).drew)) (by have := Hpl.out; omega)).mono ?_
                    rintro e' w' ⟨rfl, n3, rfl⟩
                    have hE2n := hE2.draw HV.out.keep (1 + n3)
                    dsimp only
                    (refine hK.out _ _ ⟨hE2n.cm.2.2.2.1, hE2n.cc⟩ (fun hHeld => ?_); clear hK K; (try simp only [Act.put, List.setIfInBounds_toArray, List.set_cons_zero, List.set_cons_succ]))
                    (refine wpAnyH_take (i := 4) (v := .bool false) rfl (by kernel_rfl) (by kernel_rfl) (by kernel_rfl) (fun _ _ _ h => h) (Or.inl ⟨by kernel_rfl, fun w hSw => by (try dsimp only at hSw); go_split_ands; go_simp⟩) (by assumption) ?_; simp only [Act.put, List.setIfInBounds_toArray, List.set_cons_zero, List.set_cons_succ])
                    (refine wpAnyH_take (i := 5) (v := .bool false) rfl (by kernel_rfl) (by kernel_rfl) (by kernel_rfl) (fun _ _ _ h => h) (Or.inl ⟨by kernel_rfl, fun w hSw => by (try dsimp only at hSw); go_split_ands; go_simp⟩) (by assumption) ?_; simp only [Act.put, List.setIfInBounds_toArray, List.set_cons_zero, List.set_cons_succ])
                    (refine wpAnyH_take (i := 6) (v := .func (.func 222) #[] #[.pointer (some ⟨o.k, 0, none⟩), .pointer (some ⟨o.m, 0, none⟩), .pointer (some ⟨o.v, 0, none⟩), .pointer (some ⟨o.f, 0, none⟩), .pointer (some ⟨o.a, 0, none⟩), .pointer (some ⟨o.c, 0, none⟩)]) rfl (by kernel_rfl) (by kernel_rfl) (by kernel_rfl) (fun _ _ _ h => h) (Or.inl ⟨by kernel_rfl, fun w hSw => by (try dsimp only at hSw); go_split_ands; go_simp⟩) (by assumption) ?_; simp only [Act.put, List.setIfInBounds_toArray, List.set_cons_zero, List.set_cons_succ])
                    (refine wpAnyH_take (i := 7) (v := .bool true) rfl (by kernel_rfl) (by kernel_rfl) (by kernel_rfl) (fun _ _ _ h => h) (Or.inl ⟨by kernel_rfl, fun w hSw => by (try dsimp only at hSw); go_split_ands; go_simp⟩) (by assumption) ?_; simp only [Act.put, List.setIfInBounds_toArray, List.set_cons_zero, List.set_cons_succ])
                    (refine wpAnyH_take (i := 8) (v := .bool true) rfl (by kernel_rfl) (by kernel_rfl) (by kernel_rfl) (fun _ _ _ h => h) (Or.inl ⟨by kernel_rfl, fun w hSw => by (try dsimp only at hSw); go_split_ands; go_simp⟩) (by assumption) ?_; simp only [Act.put, List.setIfInBounds_toArray, List.set_cons_zero, List.set_cons_succ])
                    (refine wpAnyH_take (i := 9) (v := .int .i64 x) rfl (by kernel_rfl) (by kernel_rfl) (by kernel_rfl) (fun _ _ _ h => h) (Or.inl ⟨by kernel_rfl, fun w hSw => by (try dsimp only at hSw); go_split_ands; go_simp⟩) (by assumption) ?_; simp only [Act.put, List.setIfInBounds_toArray, List.set_cons_zero, List.set_cons_succ])
                    (refine wpAnyH_take (i := 10) (v := .int .i64 lo) rfl (by kernel_rfl) (by kernel_rfl) (by kernel_rfl) (fun _ _ _ h => h) (Or.inl ⟨by kernel_rfl, fun w hSw => by (try dsimp only at hSw); go_split_ands; go_simp⟩) (by assumption) ?_; simp only [Act.put, List.setIfInBounds_toArray, List.set_cons_zero, List.set_cons_succ])
                    (refine wpAnyH_take (i := 11) (v := .bool true) rfl (by kernel_rfl) (by kernel_rfl) (by kernel_rfl) (fun _ _ _ h => h) (Or.inl ⟨by kernel_rfl, fun w hSw => by (try dsimp only at hSw); go_split_ands; go_simp⟩) (by assumption) ?_; simp only [Act.put, List.setIfInBounds_toArray, List.set_cons_zero, List.set_cons_succ])
                    (refine wpAnyH_take (i := 12) (v := .bool true) rfl (by kernel_rfl) (by kernel_rfl) (by kernel_rfl) (fun _ _ _ h => h) (Or.inl ⟨by kernel_rfl, fun w hSw => by (try dsimp only at hSw); go_split_ands; go_simp⟩) (by assumption) ?_; simp only [Act.put, List.setIfInBounds_toArray, List.set_cons_zero, List.set_cons_succ])
                    (refine wpAnyH_ready (rs := [13]) (by kernel_rfl) (by simp) (AllReadyH.cons rfl (fun K hK => ?_) AllReadyH.nil); go_simp)
                    refine (IH.out s' F' _ (pre ++ [(x : Int)]) _ (done ++ partF m A fr true rem pre x) (rst ++ rest) (by have := Hpl.out; have := Hpre.out; omega) (range_push Hrange.out (by omega)) HL2.out Hrun.out hE2n).mono ?_
                    rintro e' w' ⟨F2, kv2, rfl, hE4⟩
                    rw [Hre2.out] at hE4
                    rw [Hre2.out, Hb2.out]
                    clear hE2n hE2d hE2 hHeld hcc2 hm3
                    obtain ⟨g2, c2, rfl, hc2a, hc2b⟩ := own_some (own_len hE4.own) (by omega)
                    dsimp only
                    (refine hK.out _ _ ⟨hE4.cm.2.2.2.1, hE4.cc⟩ (fun hHeld => ?_); clear hK K; (try simp only [Act.put, List.setIfInBounds_toArray, List.set_cons_zero, List.set_cons_succ]))
                    (refine wpAnyH_take (i := 14) (v := .bool false) rfl (by kernel_rfl) (by kernel_rfl) (by kernel_rfl) (fun _ _ _ h => h) (Or.inl ⟨by kernel_rfl, fun w hSw => by (try dsimp only at hSw); go_split_ands; go_simp⟩) (by assumption) ?_; simp only [Act.put, List.setIfInBounds_toArray, List.set_cons_zero, List.set_cons_succ])
                    (refine wpAnyH_take (i := 15) (v := .bool false) rfl (by kernel_rfl) (by kernel_rfl) (by kernel_rfl) (fun _ _ _ h => h) (Or.inl ⟨by kernel_rfl, fun w hSw => by (try dsimp only at hSw); go_split_ands; go_simp⟩) (by assumption) ?_; simp only [Act.put, List.setIfInBounds_toArray, List.set_cons_zero, List.set_cons_succ])
                    refine wpAnyH_done (by kernel_rfl) (NoPanic.normal ?_) _
                    obtain ⟨hk4, hf4⟩ := hE4.ck
                    have HE3 := Lib.hid hE4; clear hE4 hHeld
                    go_wp2_with fail
                    go_ret
                    have hfin : res = (re2.1, false) := by
                      rw [← Hres.out, Hrst.out, ← List.append_assoc, ← List.append_assoc, runL_append, if_neg (by rw [Hre2.out, Hb2.out]; decide), Hre2.out]
                    exact ⟨_, _, by rw [hfin]; rfl, by rw [hfin]; exact HE3.out.pop HV.out.keep rfl rfl⟩
                  · have Hb2 := Lib.hid hb2; clear hb2
                    refine wp_region_noPanic ?_
                    refine wp_region_held_drew (S := fun w' => w'.cell? ⟨o.m, 3, none⟩ = some (.int .i64 m.e) ∧ w'.cell? ⟨o.c, 0, none⟩ = some (.func (.func 222) #[] #[.pointer (some ⟨o.k, 0, none⟩), .pointer (some ⟨o.m, 0, none⟩), .pointer (some ⟨o.v, 0, none⟩), .pointer (some ⟨o.f, 0, none⟩), .pointer (some ⟨o.a, 0, none⟩), .pointer (some ⟨o.c, 0, none⟩)])) (by kernel_rfl) ⟨hE2d.cm.2.2.2.1, hE2d.cc⟩ (fun hHeld => ?_)
                    (refine wpAnyH_take (i := 2) (v := .pointer (some ⟨o.m, 3, none⟩)) rfl (by kernel_rfl) (by kernel_rfl) (by kernel_rfl) (fun _ _ _ h => h) (Or.inl ⟨by kernel_rfl, fun w hSw => by (try dsimp only at hSw); go_split_ands; go_simp⟩) (by assumption) ?_; simp only [Act.put, List.setIfInBounds_toArray, List.set_cons_zero, List.set_cons_succ])
                    (refine wpAnyH_take (i := 3) (v := .int .i64 m.e) rfl (by kernel_rfl) (by kernel_rfl) (by kernel_rfl) (fun _ _ _ h => h) (Or.inl ⟨by kernel_rfl, fun w hSw => by (try dsimp only at hSw); go_split_ands; go_simp⟩) (by assumption) ?_; simp only [Act.put, List.setIfInBounds_toArray, List.set_cons_zero, List.set_cons_succ])
                    (refine wpAnyH_ready (rs := [0]) (by kernel_rfl) (by simp) (AllReadyH.cons rfl (fun K hK => ?_) AllReadyH.nil); go_simp)
                    (refine hK.out _ _ ⟨hE2d.cm.2.2.2.1, hE2d.cc⟩ (fun hHeld => ?_); clear hK K; (try simp only [Act.put, List.setIfInBounds_toArray, List.set_cons_zero, List.set_cons_succ]))
                    (refine wpAnyH_ready (rs := [1]) (by kernel_rfl) (by simp) (AllReadyH.cons rfl (fun K hK => ?_) AllReadyH.nil); go_simp)
                    go_at_call 218
                    refine (sameRun_b _ (pre ++ [(x : Int)]) _ _ Hru.out (hV2.below ((Below.refl _ _).drew)) (by have := Hpl.out; omega)).mono ?_
                    rintro e' w' ⟨rfl, n3, rfl⟩
                    have hE2n := hE2.draw HV.out.keep (1 + n3)
                    dsimp only
                    (refine hK.out _ _ ⟨hE2n.cm.2.2.2.1, hE2n.cc⟩ (fun hHeld => ?_); clear hK K; (try simp only [Act.put, List.setIfInBounds_toArray, List.set_cons_zero, List.set_cons_succ]))
                    (refine wpAnyH_take (i := 4) (v := .bool false) rfl (by kernel_rfl) (by kernel_rfl) (by kernel_rfl) (fun _ _ _ h => h) (Or.inl ⟨by kernel_rfl, fun w hSw => by (try dsimp only at hSw); go_split_ands; go_simp⟩) (by assumption) ?_; simp only [Act.put, List.setIfInBounds_toArray, List.set_cons_zero, List.set_cons_succ])
                    (refine wpAnyH_take (i := 5) (v := .bool false) rfl (by kernel_rfl) (by kernel_rfl) (by kernel_rfl) (fun _ _ _ h => h) (Or.inl ⟨by kernel_rfl, fun w hSw => by (try dsimp only at hSw); go_split_ands; go_simp⟩) (by assumption) ?_; simp only [Act.put, List.setIfInBounds_toArray, List.set_cons_zero, List.set_cons_succ])
                    (refine wpAnyH_take (i := 6) (v := .func (.func 222) #[] #[.pointer (some ⟨o.k, 0, none⟩), .pointer (some ⟨o.m, 0, none⟩), .pointer (some ⟨o.v, 0, none⟩), .pointer (some ⟨o.f, 0, none⟩), .pointer (some ⟨o.a, 0, none⟩), .pointer (some ⟨o.c, 0, none⟩)]) rfl (by kernel_rfl) (by kernel_rfl) (by kernel_rfl) (fun _ _ _ h => h) (Or.inl ⟨by kernel_rfl, fun w hSw => by (try dsimp only at hSw); go_split_ands; go_simp⟩) (by assumption) ?_; simp only [Act.put, List.setIfInBounds_toArray, List.set_cons_zero, List.set_cons_succ])
                    (refine wpAnyH_take (i := 7) (v := .bool true) rfl (by kernel_rfl) (by kernel_rfl) (by kernel_rfl) (fun _ _ _ h => h) (Or.inl ⟨by kernel_rfl, fun w hSw => by (try dsimp only at hSw); go_split_ands; go_simp⟩) (by assumption) ?_; simp only [Act.put, List.setIfInBounds_toArray, List.set_cons_zero, List.set_cons_succ])
                    (refine wpAnyH_take (i := 8) (v := .bool true) rfl (by kernel_rfl) (by kernel_rfl) (by kernel_rfl) (fun _ _ _ h => h) (Or.inl ⟨by kernel_rfl, fun w hSw => by (try dsimp only at hSw); go_split_ands; go_simp⟩) (by assumption) ?_; simp only [Act.put, List.setIfInBounds_toArray, List.set_cons_zero, List.set_cons_succ])
                    (refine wpAnyH_take (i := 9) (v := .int .i64 x) rfl (by kernel_rfl) (by kernel_rfl) (by kernel_rfl) (fun _ _ _ h => h) (Or.inl ⟨by kernel_rfl, fun w hSw => by (try dsimp only at hSw); go_split_ands; go_simp⟩) (by assumption) ?_; simp only [Act.put, List.setIfInBounds_toArray, List.set_cons_zero, List.set_cons_succ])
                    (refine wpAnyH_take (i := 10) (v := .int .i64 lo) rfl (by kernel_rfl) (by kernel_rfl) (by kernel_rfl) (fun _ _ _ h => h) (Or.inl ⟨by kernel_rfl, fun w hSw => by (try dsimp only at hSw); go_split_ands; go_simp⟩) (by assumption) ?_; simp only [Act.put, List.setIfInBounds_toArray, List.set_cons_zero, List.set_cons_succ])
                    (refine wpAnyH_take (i := 11) (v := .bool true) rfl (by kernel_rfl) (by kernel_rfl) (by kernel_rfl) (fun _ _ _ h => h) (Or.inl ⟨by kernel_rfl, fun w hSw => by (try dsimp only at hSw); go_split_ands; go_simp⟩) (by assumption) ?_; simp only [Act.put, List.setIfInBounds_toArray, List.set_cons_zero, List.set_cons_succ])
                    (refine wpAnyH_take (i := 12) (v := .bool true) rfl (by kernel_rfl) (by kernel_rfl) (by kernel_rfl) (fun _ _ _ h => h) (Or.inl ⟨by kernel_rfl, fun w hSw => by (try dsimp only at hSw); go_split_ands; go_simp⟩) (by assumption) ?_; simp only [Act.put, List.setIfInBounds_toArray, List.set_cons_zero, List.set_cons_succ])
                    (refine wpAnyH_ready (rs := [13]) (by kernel_rfl) (by simp) (AllReadyH.cons rfl (fun K hK => ?_) AllReadyH.nil); go_simp)
                    refine (IH.out s' F' _ (pre ++ [(x : Int)]) _ (done ++ partF m A fr true rem pre x) (rst ++ rest) (by have := Hpl.out; have := Hpre.out; omega) (range_push Hrange.out (by omega)) HL2.out Hrun.out hE2n).mono ?_
                    rintro e' w' ⟨F2, kv2, rfl, hE4⟩
                    rw [Hre2.out] at hE4
                    rw [Hre2.out, Hb2.out]
                    clear hE2n hE2d hE2 hHeld hcc2 hm3
                    obtain ⟨g2, c2, rfl, hc2a, hc2b⟩ := own_some (own_len hE4.own) (by omega)
                    dsimp only
                    (refine hK.out _ _ ⟨hE4.cm.2.2.2.1, hE4.cc⟩ (fun hHeld => ?_); clear hK K; (try simp only [Act.put, List.setIfInBounds_toArray, List.set_cons_zero, List.set_cons_succ]))
                    (refine wpAnyH_take (i := 14) (v := .bool true) rfl (by kernel_rfl) (by kernel_rfl) (by kernel_rfl) (fun _ _ _ h => h) (Or.inl ⟨by kernel_rfl, fun w hSw => by (try dsimp only at hSw); go_split_ands; go_simp⟩) (by assumption) ?_; simp only [Act.put, List.setIfInBounds_toArray, List.set_cons_zero, List.set_cons_succ])
                    (refine wpAnyH_take (i := 15) (v := .bool true) rfl (by kernel_rfl) (by kernel_rfl) (by kernel_rfl) (fun _ _ _ h => h) (Or.inl ⟨by kernel_rfl, fun w hSw => by (try dsimp only at hSw); go_split_ands; go_simp⟩) (by assumption) ?_; simp only [Act.put, List.setIfInBounds_toArray, List.set_cons_zero, List.set_cons_succ])
                    refine wpAnyH_done (by kernel_rfl) (NoPanic.normal ?_) _
                    obtain ⟨hk4, hf4⟩ := hE4.ck
                    have HE3 := Lib.hid hE4; clear hE4 hHeld
                    go_wp2_with fail
                    go_roundw
                    case rel => exact ⟨x + 1, re2.1, _, _, by omega, by omega, by go_num, by rw [Hps.out, ← List.append_assoc]; exact runL_pair Hre2.out Hb2.out, HE3.out.pop HV.out.keep rfl rfl⟩
                    case measure => simp [intOf]; omega
        · have hnext : runL step s0 (done ++ partF m A fr true rem pre (x + 1)) = (s', true) := by
            rw [partF_succ (by rw [Hlo.out]; exact hx0), brF_bad hgood, List.append_nil]; exact Hrun.out
          have Hnext := Lib.hid hnext; clear hnext
          · have hnn := neqNil
            have hA1 := HA1.out
            have h0 : ¬ pre.length = 0 := fun h => hgood ⟨hA1 _ _, .inl h⟩
            have h1 : 0 < pre.length := by omega
            obtain ⟨pb, po, rfl, _, hpc⟩ := hVk.cell (k := pre.length - 1) (by omega)
            have hrp := Hrange.out (pre.length - 1) (by omega)
            obtain ⟨q, hq⟩ : ∃ q, absI ((x : Int) - geti pre (pre.length - 1)) = q := ⟨_, rfl⟩
            have hw : IntKind.i64.wrap ((x : Int) - geti pre (pre.length - 1)) = (x : Int) - geti pre (pre.length - 1) := IntWalk.i64_in _ (by omega)
            have Hq := Lib.hid hq; clear hq
            have hd1' : m.s < q := by
              rw [← Hq.out]; exact Int.not_le.1 (fun h => hgood ⟨hA1 _ _, .inr h⟩)
            clear h0 hA1 hgood
            go_wp2_with fail
            go_quiet ((go_at_call 217; first | exact quiet_same (absolute_b _ _ _ Hq.out (by omega)) | exact quiet_same0 (absolute_b _ _ _ Hq.out (by omega))))
            have HES := Lib.hid hES; clear hES
            go_wp2_with fail
            go_roundw
            case rel => exact ⟨x + 1, s', F', _, by omega, by omega, by go_num, Hnext.out, HES.out.draw HV.out.keep _⟩
            case measure => simp [intOf]; omega
      · have hfx : partF m A fr true rem pre x = genF m A fr true (rem + 1) pre := by
          rw [← partF_end, Hdn.out]
          rcases hxd with h1 | h1
          · rw [show x = d from by omega]
          · rw [h1]
            by_cases hld : lo ≤ d
            · rw [show lo = d from by omega]
            · rw [partF_lo (by rw [Hlo.out]; exact Nat.le_refl _), partF_lo (by rw [Hlo.out]; omega)]
        have hrr : runL step s0 (done ++ genF m A fr true (rem + 1) pre) = (s', true) := by rw [← hfx]; exact Hrun.out
        have Hrr := Lib.hid (Hres.out.symm.trans hrr); clear hfx hrr
        have HES := Lib.hid hES; clear hES
        go_wp2_with fail
        go_ret
        exact ⟨F', _, by rw [Hrr.out]; rfl, by rw [Hrr.out]; exact HES.out⟩
end
end Go.Proofs.YtikdbjaimcciiaaGreat

namespace Go.Proofs.YtikdbjaimcciiaaGreat
open Go.RowKit
set_option linter.unusedVariables false
set_option linter.unusedSimpArgs false

theorem neqSomeS (w : World) (ad : Addr) (n c : Nat) : Sem.run Tryz.prog (binOp .neq 35 (.slice (some ad) n c) (.slice none 0 0)) w = .ok (.bool true) w := by kernel_rfl
theorem G1Post.pre {τ : Type} {m : Mk} {tv : Value} {limit : Nat} {fv : Value} {XB MB : Nat} {VI : τ → (Nat → Prop) → World → Prop} {F : Nat → Prop} {w wn : World} {r : GSt τ × Bool} {e : Ending} {w' : World} (hb : Below w.heap.size w wn) (h : G1Post m tv limit fv XB MB VI F wn r e w') : G1Post m tv limit fv XB MB VI F w r e w' := by
  obtain ⟨F', h1, h2, h3, h4, h5⟩ := h
  exact ⟨F', h1, h2, h3, (Chg.of_below hb).trans h4 (fun i hi => .inl hi), fun b hb' => by
    rcases h5 b hb' with h | h
    · exact .inl h
    · right; have := hb.size; omega⟩
set_option maxRecDepth 100000 in
set_option maxHeartbeats 2000000 in
theorem go1b_any {τ : Type} {act : τ → Prop} {S Far : Nat → Prop} {P : List (List Int) → Prop} {vf : FuncId} {vcaps : Array Value} {vis : τ → List (List Int) → τ × Bool} {VI : τ → (Nat → Prop) → World → Prop} (V : VisG act P vf vcaps vis VI)
    (m : Mk) (t : List (List Int)) (n : Nat) (hn : (n : Int) = m.c) (limit : Nat) (tv cv kv fv : Value) (XB MB FRB XPB STB CB LB RB CB2 SB d : Nat) (cuts : List (List Int)) (key : List Int) (s : GSt τ) (F : Nat → Prop) (w : World)
    (hp : PartOk m t cuts) (hl : cuts.length < t.length) (hcd : cuts.length + (d + 1) = t.length) (hop : falseL n t cuts = []) (hact : act s.2.2) (IH : GoAny act m t n tv limit fv XB VI vis d)
    (hG : Gs m tv limit fv XB VI s F w) (hM : w.heap[MB]? = some (.cells #[.bool true] 4 (0, 0))) (hMn : ¬ GF XB F MB) (hfar : ∀ b, Far b → ¬ GF XB F b ∧ b ≠ MB ∧ b < w.heap.size)
    (fr : List Int) (fad : Addr) (frc : Nat) (h1 : w.cell? ⟨FRB, 0, none⟩ = some (.slice (some fad) fr.length frc)) (hfr : V1 Far w (.slice (some fad) fr.length frc) fr) (hne : key ≠ fr) (f1 : Far FRB) (h2 : w.cell? ⟨XPB, 0, none⟩ = some (.pointer (some ⟨XB, 0, none⟩))) (f2 : Far XPB)
    (h4 : w.cell? ⟨STB, 0, none⟩ = some (.func (.func 225) #[] #[.pointer (some ⟨LB, 0, none⟩), .pointer (some ⟨RB, 0, none⟩), .pointer (some ⟨CB2, 0, none⟩), .pointer (some ⟨SB, 0, none⟩)])) (f4 : Far STB)
    (h5 : w.cell? ⟨CB, 0, none⟩ = some cv) (f5 : Far CB) (hst : StayAt Far m t cuts (locksTo n t cuts (getl t 0).length) LB RB CB2 SB w)
    (ht : V2 Far w tv t) (hc : V2 Far w cv cuts) (hcp : cuts = [] → PV cv) (hk : V1 S w kv key) (hkS : ∀ b, S b → ¬ GF XB F b ∧ b ≠ MB) (hkey : isKeyB m key = true) :
    Calls Tryz.prog 190 #[kv, .pointer (some ⟨FRB, 0, none⟩), .pointer (some ⟨XPB, 0, none⟩), .pointer (some ⟨MB, 0, none⟩), .pointer (some ⟨STB, 0, none⟩), .pointer (some ⟨CB, 0, none⟩)] w
      (G1Post m tv limit fv XB MB VI F w (goStep limit (stayP n t) (goF limit (stayP n t) vis (keysOf m) d) cuts s key)) := by
  obtain ⟨iC, hiC, hzC0, hzC1, hzC2⟩ := info_parts inf_ints
  have hdr : ∀ u : World, u.drew.heap = u.heap := fun _ => rfl
  obtain ⟨ta, tc, rfl, htm⟩ := ht.form
  obtain ⟨ca, cc, rfl, hcm⟩ := hc.form
  obtain ⟨ka, kc, rfl, hkm⟩ := hk.form
  have hNe := neqSomeS
  have hed : decide (key = fr) = false := decide_eq_false hne
  have HH := Lib.hid (And.intro hG (And.intro hM (And.intro hst (And.intro ht (And.intro hc (And.intro hk (And.intro hop (And.intro hp (And.intro IH hact)))))))))
  have hkE := hk
  have Hfr := Lib.hid hfr
  clear hG hM hst ht hc hk hop hp IH hact hfr hne
  go_enter Tryz.func190, Tryz.ntmps190
  go_wp2_with (go_at_call 100; refine (slEqual_b _ _ key fr _ false hed hkE Hfr.out).mono ?_; rintro e' w' ⟨rfl, nq, rfl⟩)
  obtain ⟨wn, hwn⟩ : ∃ wn, wn = w.drewN nq := ⟨_, rfl⟩
  rw [← hwn]
  have hbn : Below w.heap.size w wn := by rw [hwn]; exact below_drewN (Below.refl _ _) _
  obtain ⟨hG, hM, hst, ht, hc, hk, hop, hp, IH, hact⟩ := HH.out
  have hG := hG.below V hbn
  have hM := (hbn.block MB (lt_of_heap hM)).trans hM
  have hst := hst.keep hbn.size (Below.keep hbn fun _ _ h => h)
  have ht := ht.below hbn
  have hc := hc.below hbn
  have hk := hk.below hbn
  have h2 := cell_keep h2 (hbn.block _ (lt_of_cell h2))
  have h4 := cell_keep h4 (hbn.block _ (lt_of_cell h4))
  have h5 := cell_keep h5 (hbn.block _ (lt_of_cell h5))
  have hfar : ∀ b, Far b → ¬ GF XB F b ∧ b ≠ MB ∧ b < wn.heap.size := fun b hb => ⟨(hfar b hb).1, (hfar b hb).2.1, by have := (hfar b hb).2.2; have := hbn.size; omega⟩
  have Hbn := Lib.hid hbn
  clear hbn hwn HH Hfr hkE hed h1
  have hr := hG.cell
  have c6 : wn.cell? ⟨XB, 6, none⟩ = some (.int .i64 (limit : Int)) := by rw [hr]; rfl
  have c7 : wn.cell? ⟨XB, 7, none⟩ = some (.int .i64 (s.1 : Int)) := by rw [hr]; rfl
  have c8 : wn.cell? ⟨XB, 8, none⟩ = some (.bool s.2.1) := by rw [hr]; rfl
  have cM : wn.cell? ⟨MB, 0, none⟩ = some (.bool true) := by rw [cell_of_block hM]; rfl
  have fM := frozen_of_block hM 0
  have f8 := frozen_of_block hG.hh 8
  have f7 := frozen_of_block hG.hh 7
  have hle := hG.le
  have hMX : ¬ MB = XB := fun e => hMn (.inl e)
  have hXM : ¬ XB = MB := fun e => hMn (.inl e.symm)
  have hX2 : ¬ XPB = XB := fun e => (hfar XPB f2).1 (.inl e)
  have hX4 : ¬ STB = XB := fun e => (hfar STB f4).1 (.inl e)
  have hX5 : ¬ CB = XB := fun e => (hfar CB f5).1 (.inl e)
  by_cases hA : s.1 = limit
  · have hres : goStep limit (stayP n t) (goF limit (stayP n t) vis (keysOf m) d) cuts s key = ((s.1, true, s.2.2), false) := by unfold goStep; rw [if_pos hA]
    have e1 : ((s.1 : Int) == (limit : Int)) = true := by rw [beq_iff_eq]; omega
    have H := Lib.hid (And.intro hG (And.intro hM (And.intro hMn (And.intro hA hres)))); clear hG hM hMn hA hres hr hst ht hc hk IH hp hop
    go_region
    all_goals
      go_wp2_with fail
      go_ret
      rw [H.out.2.2.2.2]
      refine G1Post.pre Hbn.out ?_
      refine ⟨F, rfl, ⟨?_, V.keep _ _ _ _ H.out.1.vi (by simp) (fun b hb => ?_), H.out.1.ne, fun b hb => by have := H.out.1.lt b hb; simpa using this, H.out.1.le⟩, ?_, ?_, fun b hb => .inl hb⟩
      · rw [hdr, heap_setCell_other _ hXM, heap_setCell_self H.out.1.hh]; simp [goCells]
      · rw [hdr, heap_setCell_other _ (fun e => H.out.2.2.1 (.inr (by have e2 : b = MB := e; rw [← e2]; exact hb))), heap_setCell_other _ (fun e => H.out.1.ne (by have e2 : b = XB := e; rw [← e2]; exact hb))]
      · rw [hdr, heap_setCell_self (by rw [heap_setCell_other _ hMX]; exact H.out.2.1)]; rfl
      · exact (((Chg.refl _ _).setCell (p := ⟨XB, 8, none⟩) (.inl (.inl (.inl rfl))) _).setCell (p := ⟨MB, 0, none⟩) (.inl (.inr rfl)) _).drew
  · have e1 : ((s.1 : Int) == (limit : Int)) = false := by rw [beq_eq_false_iff_ne]; omega
    have hs1 : s.1 < limit := by omega
    have hfit := hp.fits
    have hklen : (key.length : Int) = m.c := (isKey_iff.1 hkey).1
    have hkl : key.length ≤ 1048576 := by
      have := Mk.ok_iff.1 hfit.ok
      omega
    have hcl : cuts.length ≤ 1000 := by have := hfit.rows; omega
    have hck : ∀ k, k < cuts.length → (getl cuts k).length ≤ 1000 := fun k hk => by
      have := hfit.lens k hk
      have := Mk.ok_iff.1 hfit.ok
      omega
    have hbits : ∀ d, d < (getl t 0).length → geti (getl t cuts.length) d = 0 ∨ geti (getl t cuts.length) d = 1 := fun d hd => by
      have h1 : d < (getl t cuts.length).length := by rw [hfit.cols _ hl]; exact hd
      have := hfit.bits _ hl _ (geti_mem h1)
      omega
    have hse : staysB t cuts (locksTo n t cuts (getl t 0).length) key = stayP n t cuts key := by
      rw [Bool.eq_iff_iff, stay_iff (by omega) (fun k hk => by have := hfit.lens k hk; omega) hbits hop]
      unfold stayP openP
      rw [decide_eq_true_iff, List.length_eq_zero_iff]
    obtain ⟨w1, hw1⟩ : ∃ w1, w1 = (wn.setCell ⟨XB, 7, none⟩ (.int .i64 ((s.1 : Int) + 1))).drew := ⟨_, rfl⟩
    have hC1 : Chg (fun b => b = XB) wn w1 := by rw [hw1]; exact ((Chg.refl (fun b => b = XB) _).setCell (p := ⟨XB, 7, none⟩) (.inl rfl) _).drew
    have hG1 : Gs m (.slice ta t.length tc) limit fv XB VI (s.1 + 1, s.2.1, s.2.2) F w1 := by
      refine ⟨?_, V.keep _ _ _ _ hG.vi hC1.size (fun b hb => hC1.block b (hG.lt b hb) (fun e => hG.ne (e ▸ hb))), hG.ne, fun b hb => Nat.lt_of_lt_of_le (hG.lt b hb) hC1.size, by show s.1 + 1 ≤ limit; omega, hle.2⟩
      rw [hw1, hdr, heap_setCell_self hG.hh]; simp [goCells]
    have hk1 : Keep Far wn w1 := hC1.keep fun b hb e => (hfar b hb).1 (.inl e)
    have hz1 := hC1.size
    have hst1 := hst.keep hz1 hk1
    obtain ⟨lv, rv, cv1, tv1, g1, g2, g3, g4, g5, _, _, _, _, g6, g7, g8, g9⟩ := hst1
    have hks : V1 (fun b => ¬ b = XB) w1 (.slice ka key.length kc) key := hk.mono (fun b hb _ e => (hkS b hb).1 (.inl e)) (hC1.keep fun b hb e => (hkS b hb).1 (.inl e))
    have hcall := stay1_any (S := fun _ => True) (S1 := fun _ => True) (S2 := fun _ => True) (S3 := fun _ => True) m t cuts (locksTo n t cuts (getl t 0).length) key tv1 lv cv1 (.slice ka key.length kc) rv LB RB CB2 SB w1 n
      (locksTo_len n t cuts _) (fun d hd => lock_len (by rw [locksTo_len] at hd; exact hd)) (by omega) (fun k hk => by have := hfit.lens k hk; omega) hl hfit.cols hbits g1 g2 g3 g4 g5 (g6.mono (fun _ _ _ => trivial) (fun _ _ _ => rfl)) (g7.mono (fun _ _ _ => trivial) (fun _ _ _ => rfl)) (g8.mono (fun _ _ _ => trivial) (fun _ _ _ => rfl)) (g9.mono (fun _ _ _ => trivial) (fun _ _ _ => rfl)) (hks.mono (fun _ _ _ => trivial) (fun _ _ _ => rfl))
    rw [hse] at hcall
    obtain ⟨sb, hsb⟩ : ∃ b, stayP n t cuts key = b := ⟨_, rfl⟩
    rw [hsb] at hcall
    have hstep : goStep limit (stayP n t) (goF limit (stayP n t) vis (keysOf m) d) cuts s key = if sb = true then goF limit (stayP n t) vis (keysOf m) d (cuts ++ [key]) (s.1 + 1, s.2.1, s.2.2) else ((s.1 + 1, s.2.1, s.2.2), true) := by
      unfold goStep; rw [if_neg hA, hsb]
    have hM1 : w1.heap[MB]? = some (.cells #[.bool true] 4 (0, 0)) := hC1.heap hM hMX
    have H := Lib.hid (And.intro hcall (And.intro hG1 (And.intro hC1 (And.intro hw1 (And.intro hstep (And.intro hM1 (And.intro IH (And.intro hp (And.intro hks (And.intro hsb (And.intro hk1 hfar)))))))))))
    clear hcall hG1 hC1 hstep hM1 IH hp hks hst g1 g2 g3 g4 g5 g6 g7 g8 g9 hse hbits hck hfit hr hk1 hG hM hop hklen hsb hfar
    have h4' : wn.cell? ⟨STB, 0, none⟩ = some (.func (.func 225) #[] #[.pointer (some ⟨LB, 0, none⟩), .pointer (some ⟨RB, 0, none⟩), .pointer (some ⟨CB2, 0, none⟩), .pointer (some ⟨SB, 0, none⟩)]) := h4
    cases sb
    · go_region
      all_goals
        go_wp2_with fail
        rw [← H.out.2.2.2.1]
        refine H.out.1.mono ?_
        rintro e' w2 ⟨rfl, hb2⟩
        have hM2 := (hb2.block MB (lt_of_heap H.out.2.2.2.2.2.1)).trans H.out.2.2.2.2.2.1
        have cM2 : w2.cell? ⟨MB, 0, none⟩ = some (.bool true) := by rw [cell_of_block hM2]; rfl
        have HM2 := Lib.hid (And.intro hM2 hb2); clear hM2 hb2
        go_wp2_with fail
        go_ret
        rw [H.out.2.2.2.2.1]
        refine G1Post.pre Hbn.out ?_
        exact ⟨F, rfl, H.out.2.1.below V HM2.out.2, HM2.out.1, (H.out.2.2.1.mono (fun b hb => .inl (.inl hb))).then_below HM2.out.2, fun b hb => .inl hb⟩
    · go_region
      all_goals
        go_wp2_with fail
        rw [← H.out.2.2.2.1]
        refine H.out.1.mono ?_
        rintro e' w2 ⟨rfl, hb2⟩
        obtain ⟨_, hG1, hC1, hwe, hstep, hM1, IH, hp, hks, hsb, hk1, hfar⟩ := H.out
        have hz2 := hb2.size
        have hzw := hC1.size
        have hkF : Keep Far wn w2 := fun b hb hlt => (hb2.block b (by omega)).trans (hk1 b hb hlt)
        have c2 := cell_keep h2 (hkF _ f2 (lt_of_cell h2))
        have c5 := cell_keep h5 (hkF _ f5 (lt_of_cell h5))
        have hc2 : V2 Far w2 (.slice ca cuts.length cc) cuts := hc.mono (fun _ h _ => h) hkF
        have ht2 : V2 Far w2 (.slice ta t.length tc) t := ht.mono (fun _ h _ => h) hkF
        have hk2 := hks.below hb2
        have hSk : ∀ w', Below w2.heap.size w2 w' → w'.cell? ⟨XPB, 0, none⟩ = some (.pointer (some ⟨XB, 0, none⟩)) ∧ w'.cell? ⟨CB, 0, none⟩ = some (.slice ca cuts.length cc) := fun w' hb => ⟨cell_keep c2 (hb.block _ (lt_of_cell c2)), cell_keep c5 (hb.block _ (lt_of_cell c5))⟩
        have hS0 := hSk w2.drew ((Below.refl _ _).drew)
        have HW := Lib.hid (And.intro hG1 (And.intro hC1 (And.intro hstep (And.intro hM1 (And.intro IH (And.intro hp (And.intro hks (And.intro hsb (And.intro hfar (And.intro hc2 (And.intro ht2 (And.intro hk2 hb2))))))))))))
        clear hG1 hC1 hstep hM1 IH hp hks hsb hfar hc2 ht2 hk2 hb2 hk1 hwe hw1 hc ht
        dsimp only
        go_wp2_with fail
        refine wp_region_noPanic ?_
        refine wp_region_held_drew (S := fun w' => w'.cell? ⟨XPB, 0, none⟩ = some (.pointer (some ⟨XB, 0, none⟩)) ∧ w'.cell? ⟨CB, 0, none⟩ = some (.slice ca cuts.length cc)) (by kernel_rfl) hS0 (fun hHeld => ?_)
        (refine wpAnyH_take (i := 0) (v := .pointer (some ⟨XB, 0, none⟩)) rfl (by kernel_rfl) (by kernel_rfl) (by kernel_rfl) (fun _ _ _ h => h) (Or.inl ⟨by kernel_rfl, fun w hSw => by (try dsimp only at hSw); go_split_ands; go_simp⟩) (by assumption) ?_; simp only [Act.put, List.setIfInBounds_toArray, List.set_cons_zero, List.set_cons_succ])
        (refine wpAnyH_take (i := 1) (v := .slice ca cuts.length cc) rfl (by kernel_rfl) (by kernel_rfl) (by kernel_rfl) (fun _ _ _ h => h) (Or.inl ⟨by kernel_rfl, fun w hSw => by (try dsimp only at hSw); go_split_ands; go_simp⟩) (by assumption) ?_; simp only [Act.put, List.setIfInBounds_toArray, List.set_cons_zero, List.set_cons_succ])
        (refine wpAnyH_take (i := 3) (v := .slice ka key.length kc) rfl (by kernel_rfl) (by kernel_rfl) (by kernel_rfl) (fun _ _ _ h => h) (Or.inl ⟨by kernel_rfl, fun w hSw => by (try dsimp only at hSw); go_split_ands; go_simp⟩) (by assumption) ?_; simp only [Act.put, List.setIfInBounds_toArray, List.set_cons_zero, List.set_cons_succ])
        refine wpAnyH_ready (rs := [2]) (by kernel_rfl) (by simp) (AllReadyH.cons rfl (fun K hK => ?_) AllReadyH.nil)
        go_simp
        go_at_call 191
        have hbD : Below w2.heap.size w2 w2.drew := (Below.refl _ _).drew
        refine (slClone2_any _ cuts _ (HW.out.2.2.2.2.2.2.2.2.2.1.below hbD) hcp (by omega)).mono ?_
        rintro e' wl ⟨vl, vs, rfl, hown, hvs, hbl⟩
        obtain ⟨al, cl, rfl, hl1, hl2⟩ := own_form hown
        dsimp only
        have hbl2 : Below w2.heap.size w2 wl := hbD.trans (hbl.mono hbD.size)
        have hown : wl.ownsRow w2.heap.size 35 1 (.slice al cuts.length cl) cuts.length vs := hown
        have hzl := hbl2.size
        have hSl := hSk _ hbl2
        (refine hK.out _ _ hSl (fun hHeld => ?_); clear hK K; (try simp only [Act.put, List.setIfInBounds_toArray, List.set_cons_zero, List.set_cons_succ]))
        refine wpAnyH_ready (rs := [4]) (by kernel_rfl) (by simp) (AllReadyH.cons rfl (fun K hK => ?_) AllReadyH.nil)
        go_simp
        go_at_call 109
        refine (slClone_any _ key _ (HW.out.2.2.2.2.2.2.2.2.2.2.2.1.below hbl2) hkl).mono ?_
        rintro e' wk ⟨vk, rfl, hFk, hbk⟩
        obtain ⟨ak, ck, rfl, _⟩ := hFk.v1.form
        dsimp only
        have hbk2 : Below w2.heap.size w2 wk := hbl2.trans (hbk.mono hzl)
        have hzk := hbk.size
        have hSk2 := hSk _ hbk2
        (refine hK.out _ _ hSk2 (fun hHeld => ?_); clear hK K; (try simp only [Act.put, List.setIfInBounds_toArray, List.set_cons_zero, List.set_cons_succ]))
        (refine wpAnyH_ready (rs := [5]) (by kernel_rfl) (by simp) (AllReadyH.cons rfl (fun K hK => ?_) AllReadyH.nil); go_simp)
        have hba2 : Below w2.heap.size w2 (wk.alloc (.cells #[.slice ak key.length ck] 35)) := hbk2.alloc hbk2.size _
        have hba : Below wk.heap.size wk (wk.alloc (.cells #[.slice ak key.length ck] 35)) := (Below.refl _ _).alloc (Nat.le_refl _) _
        have hSa := hSk _ hba2
        (refine hK.out _ _ hSa (fun hHeld => ?_); clear hK K; (try simp only [Act.put, List.setIfInBounds_toArray, List.set_cons_zero, List.set_cons_succ]))
        have hownk := own_keep hown hbk
        have hobl : ∀ g, Value.ownBlock (.slice al cuts.length cl) = some g → w2.heap.size ≤ g ∧ g < wl.heap.size := fun g hg => hown.lt g hg
        refine wpAnyH_ready (rs := [6]) (by kernel_rfl) (by simp) (AllReadyH.cons rfl (fun K hK => ?_) AllReadyH.nil)
        refine step_append_lies _ (by rfl) _ _ _ (by rfl) w2.heap.size 35 iC _ 1 24 Tryz.underlying26 hiC hzC0 hzC1 hzC2 rfl (by omega) _ cuts.length _ (by rfl) (own_keep hownk hba) ⟨_, 0, none⟩ 1 1 [.slice ak key.length ck] (by rfl) (by rfl) (World.news_of_block (heap_alloc_new _ _)) (by simp [Value.oneCell']) (by omega) (by unfold maxLen; omega) (by omega) (by simp; omega) _ rfl ?_
        intro gg cap w4 hown4 hgrow4 hat4 hlt4
        have hrowa : RowVs Far (wk.alloc (.cells #[.slice ak key.length ck] 35)) vs cuts := ((hvs.below hbk).below hba)
        have hkeya : V1 (fun b => w2.heap.size ≤ b ∧ Value.ownBlock (.slice al cuts.length cl) ≠ some b) (wk.alloc (.cells #[.slice ak key.length ck] 35)) (.slice ak key.length ck) key := (hFk.v1.below hba).mono (fun b hb _ => ⟨by omega, fun e => by have := (hobl b e).2; omega⟩) (fun _ _ _ => rfl)
        have hb4 : Below w2.heap.size w2 w4 := hba2.grown hgrow4 hba2.size (fun g hg => (hobl g hg).1)
        have hV4 := go_row rfl hown4 hrowa hkeya hgrow4 (fun b hb e => by have h1 := (HW.out.2.2.2.2.2.2.2.2.1 b hb).2.2; have := (hobl b e).1; omega) (Nat.le_refl _)
        have hS4 := hSk _ hb4
        have hz4 := hb4.size
        have hgl := fun b (hb : GF XB F b) => HW.out.1.glt hb
        have hop2 : falseL n t (cuts ++ [key]) = [] := by
          have h1 := HW.out.2.2.2.2.2.2.2.1
          unfold stayP openP at h1
          exact List.length_eq_zero_iff.1 (of_decide_eq_true h1)
        have hask := HW.out.2.2.2.2.1 (cuts ++ [key]) (.slice (some ⟨gg, 0, none⟩) (cuts.length + 1) cap) (s.1 + 1, s.2.1, s.2.2) F w4 (by simp; omega)
          ⟨HW.out.1.below V (HW.out.2.2.2.2.2.2.2.2.2.2.2.2.trans (hb4.mono hz2)), (HW.out.2.2.2.2.2.2.2.2.2.2.1.below hb4).mono (fun b hb _ => (HW.out.2.2.2.2.2.2.2.2.1 b hb).1) (fun _ _ _ => rfl), hV4.mono (fun b hb _ hf => by
              rcases hb with hb | hb
              · exact (HW.out.2.2.2.2.2.2.2.2.1 b hb).1 hf
              · have := hgl b hf; omega) (fun _ _ _ => rfl), fun e => by simp at e, HW.out.2.2.2.2.2.1.more hl hkey, hop2, hact⟩
        have Hask := Lib.hid (And.intro hask (And.intro hb4 hgl)); clear hask hV4 hrowa hkeya hown4 hgrow4 hown hownk hvs hFk hbl hbk hb4 hgl hop2 hobl
        (refine hK.out _ _ hS4 (fun hHeld => ?_); clear hK K; (try simp only [Act.put, List.setIfInBounds_toArray, List.set_cons_zero, List.set_cons_succ]))
        refine wpAnyH_ready (rs := [7]) (by kernel_rfl) (by simp) (AllReadyH.cons rfl (fun K hK => ?_) AllReadyH.nil)
        go_simp
        refine Hask.out.1.mono ?_
        rintro e' w5 ⟨F', rfl, hG5, hch5, hsub5⟩
        have hMl := lt_of_heap HW.out.2.2.2.1
        have hM4 : w4.heap[MB]? = some (.cells #[.bool true] 4 (0, 0)) := (Hask.out.2.1.block MB (by omega)).trans ((HW.out.2.2.2.2.2.2.2.2.2.2.2.2.block MB hMl).trans HW.out.2.2.2.1)
        have hM5 : w5.heap[MB]? = some (.cells #[.bool true] 4 (0, 0)) := hch5.heap hM4 hMn
        have cM5 : w5.cell? ⟨MB, 0, none⟩ = some (.bool true) := by rw [cell_of_block hM5]; rfl
        have fM5 := frozen_of_block hM5 0
        have hfx := HW.out.2.2.2.2.2.2.2.2.1
        have hMl0 := lt_of_cell cM
        have hlx := lt_of_cell h2
        have hlc := lt_of_cell h5
        have hS5 := And.intro (cell_keep hS4.1 (hch5.block XPB (lt_of_cell hS4.1) (hfx XPB f2).1)) (cell_keep hS4.2 (hch5.block CB (lt_of_cell hS4.2) (hfx CB f5).1))
        obtain ⟨r, hr⟩ : ∃ r, goF limit (stayP n t) vis (keysOf m) d (cuts ++ [key]) (s.1 + 1, s.2.1, s.2.2) = r := ⟨_, rfl⟩
        rw [hr] at hG5
        have hstep := HW.out.2.2.1
        rw [hr, if_pos trivial] at hstep
        rw [hr]
        dsimp only
        (refine hK.out _ _ hS5 (fun hHeld => ?_); clear hK K; (try simp only [Act.put, List.setIfInBounds_toArray, List.set_cons_zero, List.set_cons_succ]))
        have hMx : ∀ b, GF XB F' b → MB ≠ b := fun b hb e => by
          rcases hsub5 b hb with h | h
          · exact hMn (e ▸ h)
          · omega
        have hG6 := hG5.keep (w' := w5.setCell ⟨MB, 0, none⟩ (.bool r.2)) V (by simp) (fun b hb => heap_setCell_other _ (fun e => hMx b hb e.symm))
        have hM6 : (w5.setCell ⟨MB, 0, none⟩ (.bool r.2)).heap[MB]? = some (.cells #[.bool r.2] 4 (0, 0)) := by rw [heap_setCell_self hM5]; rfl
        have hX2M : ¬ XPB = MB := (hfx XPB f2).2.1
        have hCBM : ¬ CB = MB := (hfx CB f5).2.1
        have hS6 := And.intro (cell_keep hS5.1 (heap_setCell_other (b := MB) (off := 0) (.bool r.2) hX2M)) (cell_keep hS5.2 (heap_setCell_other (b := MB) (off := 0) (.bool r.2) hCBM))
        have cM6 : (w5.setCell ⟨MB, 0, none⟩ (.bool r.2)).cell? ⟨MB, 0, none⟩ = some (.bool r.2) := by rw [cell_of_block hM6]; rfl
        have hC6 : Chg (fun b => GF XB F b ∨ b = MB) wn (w5.setCell ⟨MB, 0, none⟩ (.bool r.2)) :=
          ((((HW.out.2.1.mono (fun b hb => .inl (.inl hb))).then_below HW.out.2.2.2.2.2.2.2.2.2.2.2.2).then_below Hask.out.2.1).trans hch5 (fun b hb => .inl (.inl hb))).setCell (p := ⟨MB, 0, none⟩) (.inl (.inr rfl)) _
        have HF := Lib.hid (And.intro hG6 (And.intro hM6 (And.intro hC6 (And.intro hstep hsub5)))); clear hG6 hM6 hC6 hstep hsub5 hG5 hch5 hM4 hMx hr
        (refine wpAnyH_ready (rs := [8]) (by kernel_rfl) (by simp) (AllReadyH.cons rfl (fun K hK => ?_) AllReadyH.nil); go_simp)
        (refine hK.out _ _ hS6 (fun hHeld => ?_); clear hK K; (try simp only [Act.put, List.setIfInBounds_toArray, List.set_cons_zero, List.set_cons_succ]))
        refine wpAnyH_done (by kernel_rfl) (NoPanic.normal ?_) _
        go_wp2_with fail
        go_ret
        rw [HF.out.2.2.2.1]
        refine G1Post.pre Hbn.out ?_
        exact ⟨F', rfl, HF.out.1, HF.out.2.1, HF.out.2.2.1, fun b hb => by rcases HF.out.2.2.2.2 b hb with h | h; exact .inl h; right; omega⟩

set_option maxRecDepth 100000 in
theorem go1c_any {τ : Type} {act : τ → Prop} {S Far : Nat → Prop} {P : List (List Int) → Prop} {vf : FuncId} {vcaps : Array Value} {vis : τ → List (List Int) → τ × Bool} {VI : τ → (Nat → Prop) → World → Prop} (V : VisG act P vf vcaps vis VI)
    (m : Mk) (limit : Nat) (tv kv fv : Value) (XB MB FRB XPB STB CB : Nat) (key : List Int) (s : GSt τ) (F : Nat → Prop) (w : World)
    (hG : Gs m tv limit fv XB VI s F w) (hM : w.heap[MB]? = some (.cells #[.bool true] 4 (0, 0))) (fr : List Int) (fad : Addr) (frc : Nat) (h1 : w.cell? ⟨FRB, 0, none⟩ = some (.slice (some fad) fr.length frc)) (hfr : V1 Far w (.slice (some fad) fr.length frc) fr) (he : key = fr) (hk : V1 S w kv key) :
    Calls Tryz.prog 190 #[kv, .pointer (some ⟨FRB, 0, none⟩), .pointer (some ⟨XPB, 0, none⟩), .pointer (some ⟨MB, 0, none⟩), .pointer (some ⟨STB, 0, none⟩), .pointer (some ⟨CB, 0, none⟩)] w
      (G1Post m tv limit fv XB MB VI F w (s, true)) := by
  have hNe := neqSomeS
  have hed : decide (key = fr) = true := decide_eq_true he
  obtain ⟨ka, kc, rfl, hkm⟩ := hk.form
  have H := Lib.hid (And.intro hG (And.intro hM (And.intro hfr hk))); clear hG hM hfr he hk
  go_enter Tryz.func190, Tryz.ntmps190
  go_wp2_with (go_at_call 100; refine (slEqual_b _ _ key fr _ true hed H.out.2.2.2 H.out.2.2.1).mono ?_; rintro e' w' ⟨rfl, nq, rfl⟩)
  go_ret
  have hbn : Below w.heap.size w (w.drewN nq) := below_drewN (Below.refl _ _) _
  exact ⟨F, rfl, H.out.1.below V hbn, (hbn.block MB (lt_of_heap H.out.2.1)).trans H.out.2.1, Chg.of_below hbn, fun b hb => .inl hb⟩
end Go.Proofs.YtikdbjaimcciiaaGreat

namespace Go.Proofs.YtikdbjaimcciiaaGreat
open Go.RowKit
set_option linter.unusedVariables false
set_option linter.unusedSimpArgs false

section
variable {σ : Type} {m : Mk} {w0 : World} {F0 : Nat → Prop} {f : FuncId} {caps : Array Value} {step : σ → List Int → σ × Bool} {s0 : σ} {L : List (List Int)} {Inv : σ → (Nat → Prop) → World → Prop} {o : EK} {fv av : Value} {A : Nat → Int → Bool} {fr : List Int}
set_option maxRecDepth 100000 in
theorem eachKey_from {fad : Addr} {frc : Nat} (hm : m.ok = true) (w : World) (V : VisOk m.c.toNat w F0 f caps step s0 (genF m A fr true m.c.toNat []) Inv) (hA1 : ∀ k x, A k x = true) (hfr : FrOk m w F0 (.slice (some fad) fr.length frc) fr) (hI : Inv s0 F0 w) :
    Calls Tryz.prog 178 #[.agg #[.int .i64 m.c, .int .i64 m.d, .int .i64 m.s, .int .i64 m.e, .int .i64 m.l], .slice (some fad) fr.length frc, .nilFunc, .func (.func f) #[] caps] w
      (fun e w' => ∃ F', Inv (runL step s0 (genF m A fr true m.c.toNat [])).1 F' w' ∧ Chg F0 w w' ∧ (∀ b, F' b → F0 b ∨ w.heap.size ≤ b) ∧ e = .returned undef) := by
  have hS := neqSomeS
  have hmk := Mk.ok_iff.1 hm
  have hl : (([] : List Int).length : Int) + m.c.toNat = m.c := by simp; omega
  have Hl := Lib.hid hl; clear hl hmk
  have hES := es_make (σ := σ) m w (.slice (some fad) fr.length frc) .nilFunc (.func (.func f) #[] caps) 25 35 167 148 35 187 V.keep (V.lt _ _ _ hI) hI
  have HES := Lib.hid hES; clear hES
  have HV := Lib.hid V; clear V hI
  have HFR := Lib.hid hfr; clear hfr
  go_enter Tryz.func178, Tryz.ntmps178
  go_wp2_with fail
  refine (cut_tight hm HV.out hA1 HFR.out m.c.toNat s0 F0 _ [] _ [] [] Hl.out (fun k hk => by simp at hk) (by simp) rfl HES.out).mono ?_
  rintro e w' ⟨F', kv', rfl, hE⟩
  have HE := Lib.hid hE; clear hE
  go_wp2_with fail
  go_end0
  exact ⟨F', HE.out.inv, HE.out.chg, HE.out.sub, rfl⟩
end
end Go.Proofs.YtikdbjaimcciiaaGreat
