/- The next design: the reference. No conditions. -/
import Derived.Test.YtikdbjaimcciiaaGreatGoT
import Derived.Test.YtikdbjaimcciiaaGreatMFindO
import Derived.Test.YtikdbjaimcciiaaGreatMFindP
namespace Go.Proofs.YtikdbjaimcciiaaGreat
open Go.RowKit
set_option linter.unusedVariables false
set_option linter.unusedSimpArgs false

set_option maxRecDepth 100000 in
set_option maxHeartbeats 2000000 in
theorem NextDesignR_any {S S' : Nat → Prop} (m : Mk) (u v : Value) (t cuts : List (List Int)) (limit : Int) (W : World) (h : V2 S W u t) (hc : V2 S' W v cuts) (hcp : cuts = [] → PV v) :
    Calls Tryz.prog 42 #[.agg #[.int .i64 m.c, .int .i64 m.d, .int .i64 m.s, .int .i64 m.e, .int .i64 m.l, u], v, .int .i64 limit] W fun e' w' => ∃ v', e' = .returned (.tuple #[v', .int .i64 (nextDAns m t cuts limit).2]) ∧ V2 (fun b => b < w'.heap.size) w' v' (nextDAns m t cuts limit).1 ∧ Below W.heap.size W w' := by
  obtain ⟨a, c, rfl, hmx⟩ := h.form
  obtain ⟨a', c', rfl, hmx'⟩ := hc.form
  obtain ⟨W1, hW1, hB01, hz01, HZ01, hc01, hh01⟩ := box_facts W #[.int .i64 m.c, .int .i64 m.d, .int .i64 m.s, .int .i64 m.e, .int .i64 m.l, .slice a t.length c] 28
  have hV1 : V2 (fun _ => True) W1 (.slice a t.length c) t := (h.below hB01).any
  have hC1 : V2 (fun _ => True) W1 (.slice a' cuts.length c') cuts := (hc.below hB01).any
  by_cases hp : partC m t cuts = 0
  · have hok : PartOk m t cuts := by obtain ⟨h1, h2, h3⟩ := partC_ok.1 hp; exact ⟨h1, h2, h3⟩
    have hmc := mc_nat hok.fits.ok
    have Hpc := Lib.hid hp
    cases hi : inB limit 0 4000
    · have hfin : nextDAns m t cuts limit = ([], 2) := by
        have h2 : searchC m t cuts limit = 2 := by unfold searchC; rw [if_neg (by rw [hp]; simp), if_pos (fun h => by rw [inB_iff.2 h] at hi; cases hi)]
        unfold nextDAns; rw [if_pos (by rw [h2]; decide), h2]
      rw [hfin]
      have Hi := Lib.hid (And.intro hi hfin); clear hi hfin hp hok hmc
      go_enter Tryz.func42, Tryz.ntmps42
      go_wp2_with fail
      rw [← hW1]
      refine (l16Code_any m _ _ t cuts W1 hV1 hC1).mono ?_
      rintro e' w2 ⟨rfl, hb2⟩
      rw [Hpc.out]
      have hz2 := hb2.size
      have hx2 : ∀ o, w2.cell? ⟨W.heap.size, o, none⟩ = (#[.int .i64 m.c, .int .i64 m.d, .int .i64 m.s, .int .i64 m.e, .int .i64 m.l, .slice a t.length c] : Array Value)[o]? := fun o => by rw [(bcell hb2).1 _ _ hz01, hc01]
      clear hc01 hh01
      go_wp2_with (go_at_call 102; refine (l01In_b _ _ _ _ _ Hi.out.1).mono ?_; rintro e' w' ⟨rfl, rfl⟩)
      go_ret2
      exact ⟨_, rfl, (F2.nil5 (B := 0)).v2.old, hB01.trans (hb2.mono (by omega))⟩
    · have hlim := inB_iff.1 hi
      obtain ⟨L, rfl⟩ : ∃ L : Nat, limit = (L : Int) := ⟨limit.toNat, by omega⟩
      by_cases hlt : cuts.length < t.length
      · have hfin : nextDAns m t cuts (L : Int) = ([], 5) := by
          unfold nextDAns
          by_cases hs : searchC m t cuts (L : Int) = 0
          · rw [if_neg (by rw [hs]; simp), if_pos hlt]
          · have h2 : searchC m t cuts (L : Int) = 5 := by
              unfold searchC at hs ⊢
              rw [if_neg (by rw [hp]; simp), if_neg (fun h => h hlim)] at hs ⊢
              by_cases h3 : (falseL m.c.toNat t cuts).length ≠ 0
              · rw [if_pos h3]
              · rw [if_neg h3] at hs; exact absurd rfl hs
            rw [if_pos hs, h2]
        rw [hfin]
        have hn1 : ((cuts.length : Int) != (t.length : Int)) = true := by rw [bne_iff_ne]; omega
        have Hi := Lib.hid (And.intro hi hfin); clear hi hfin hp hlim hok hmc hlt
        go_enter Tryz.func42, Tryz.ntmps42
        go_wp2_with fail
        rw [← hW1]
        refine (l16Code_any m _ _ t cuts W1 hV1 hC1).mono ?_
        rintro e' w2 ⟨rfl, hb2⟩
        rw [Hpc.out]
        have hz2 := hb2.size
        have hx2 : ∀ o, w2.cell? ⟨W.heap.size, o, none⟩ = (#[.int .i64 m.c, .int .i64 m.d, .int .i64 m.s, .int .i64 m.e, .int .i64 m.l, .slice a t.length c] : Array Value)[o]? := fun o => by rw [(bcell hb2).1 _ _ hz01, hc01]
        clear hc01 hh01
        go_wp2_with (go_at_call 102; refine (l01In_b _ _ _ _ _ Hi.out.1).mono ?_; rintro e' w' ⟨rfl, rfl⟩)
        go_ret2
        exact ⟨_, rfl, (F2.nil5 (B := 0)).v2.old, hB01.trans (hb2.mono (by omega))⟩
      · have hfew := hok.few
        have hcl : cuts.length = t.length := by omega
        have hn1 : ((cuts.length : Int) != (t.length : Int)) = false := by rw [bne_eq_false_iff_eq]; omega
        obtain ⟨r, hr⟩ : ∃ r, openP m.c.toNat t cuts = r := ⟨_, rfl⟩
        cases r
        · have hfin : nextDAns m t cuts (L : Int) = ([], 5) := by
            have h2 : searchC m t cuts (L : Int) = 5 := by unfold searchC; rw [if_neg (by rw [hp]; simp), if_neg (fun h => h hlim), if_pos (of_decide_eq_false hr)]
            unfold nextDAns; rw [if_pos (by rw [h2]; decide), h2]
          rw [hfin]
          have Hi := Lib.hid (And.intro hi (And.intro hr (And.intro hok (And.intro hmc hfin)))); clear hi hfin hp hr hlim hok hmc hcl hlt hfew
          go_enter Tryz.func42, Tryz.ntmps42
          go_wp2_with fail
          rw [← hW1]
          refine (l16Code_any m _ _ t cuts W1 hV1 hC1).mono ?_
          rintro e' w2 ⟨rfl, hb2⟩
          rw [Hpc.out]
          have hz2 := hb2.size
          have hx2 : ∀ o, w2.cell? ⟨W.heap.size, o, none⟩ = (#[.int .i64 m.c, .int .i64 m.d, .int .i64 m.s, .int .i64 m.e, .int .i64 m.l, .slice a t.length c] : Array Value)[o]? := fun o => by rw [(bcell hb2).1 _ _ hz01, hc01]
          clear hc01 hh01
          go_wp2_with (first | (go_at_call 102; refine (l01In_b _ _ _ _ _ Hi.out.1).mono ?_; rintro e' w' ⟨rfl, rfl⟩) | (go_at_call 121; refine (l16Open_b m _ _ t cuts m.c.toNat _ false Hi.out.2.1 Hi.out.2.2.1.fits Hi.out.2.2.2.1 (hV1.below hb2) (hC1.below hb2)).mono ?_; rintro e' w3 ⟨rfl, hb3⟩))
          go_ret2
          exact ⟨_, rfl, (F2.nil5 (B := 0)).v2.old, hB01.trans ((hb2.trans (hb3.mono hz2)).mono (by omega))⟩
        · have hop : falseL m.c.toNat t cuts = [] := List.length_eq_zero_iff.1 (of_decide_eq_true hr)
          have hfin : nextDAns m t cuts (L : Int) = ((pickA (nextF m m.c.toNat t cuts L cuts.length (0, false, []))).1, (pickA (nextF m m.c.toNat t cuts L cuts.length (0, false, []))).2.2) := by
            unfold nextDAns; rw [if_neg (by rw [searchC_ok.2 ⟨hok, hlim, hop⟩]; decide), if_neg hlt]; rfl
          rw [hfin]
          have hdes := nextF_des (n := m.c.toNat) (limit := L) hok (Nat.le_refl _) (s := (0, false, [])) (fun x hx => by cases hx)
          obtain ⟨res, hres⟩ : ∃ r, nextF m m.c.toNat t cuts L cuts.length (0, false, []) = r := ⟨_, rfl⟩
          rw [hres] at hdes ⊢
          have hat : NextAt m m.c.toNat t cuts L res cuts.length (0, false, []) := .inl ⟨⟨rfl, rfl⟩, hres.symm⟩
          have hlen6 : cuts.length ≤ 10 := by have := hok.fits.rows; omega
          have Hdes := Lib.hid hdes; clear hdes
          have Hi := Lib.hid (And.intro hi (And.intro hr (And.intro hok (And.intro hmc (And.intro hop (And.intro hcl (And.intro hat (And.intro hlim hfin)))))))); clear hi hfin hp hr hlim hok hmc hop hcl hat hres hlt hfew
          go_enter Tryz.func42, Tryz.ntmps42
          go_wp2_with fail
          rw [← hW1]
          refine (l16Code_any m _ _ t cuts W1 hV1 hC1).mono ?_
          rintro e' w2 ⟨rfl, hb2⟩
          rw [Hpc.out]
          have hz2 := hb2.size
          have hx2 : ∀ o, w2.cell? ⟨W.heap.size, o, none⟩ = (#[.int .i64 m.c, .int .i64 m.d, .int .i64 m.s, .int .i64 m.e, .int .i64 m.l, .slice a t.length c] : Array Value)[o]? := fun o => by rw [(bcell hb2).1 _ _ hz01, hc01]
          clear hc01 hh01
          go_wp2_with (first | (go_at_call 102; refine (l01In_b _ _ _ _ _ Hi.out.1).mono ?_; rintro e' w' ⟨rfl, rfl⟩) | (go_at_call 121; refine (l16Open_b m _ _ t cuts m.c.toNat _ true Hi.out.2.1 Hi.out.2.2.1.fits Hi.out.2.2.2.1 (hV1.below hb2) (hC1.below hb2)).mono ?_; rintro e' w3 ⟨rfl, hb3⟩; have hz3 := hb3.size; have hx3 : ∀ o, w3.cell? ⟨W.heap.size, o, none⟩ = (#[.int .i64 m.c, .int .i64 m.d, .int .i64 m.s, .int .i64 m.e, .int .i64 m.l, .slice a t.length c] : Array Value)[o]? := (fun o => by rw [(bcell hb3).1 _ _ (by omega), hx2])))
          have hb13 : Below W1.heap.size W1 w3 := hb2.trans (hb3.mono hz2)
          have hb3W : Below W.heap.size W w3 := hB01.trans (hb13.mono (by omega))
          obtain ⟨WA, hWA⟩ : ∃ WA, WA = w3.alloc (.cells #[.int .i64 m.c, .int .i64 m.d, .int .i64 m.s, .int .i64 m.e, .int .i64 m.l, .slice a t.length c, .int .i64 (L : Int), .int .i64 1, .int .i64 0, .bool false, .slice none 0 0] 119) := ⟨_, rfl⟩
          have hbA : Below w3.heap.size w3 WA := by rw [hWA]; exact by (repeat (first | (with_reducible refine Below.setCell ?_ ?_ _) | (with_reducible refine Below.alloc ?_ ?_ _) | (with_reducible refine Below.drew ?_) | (with_reducible refine below_drewN ?_ _) | (with_reducible exact Below.refl _ _) | (with_reducible assumption) | (with_reducible refine Below.trans ?_ (Below.mono (by with_reducible assumption) ?_)) | go_size))
          have hzA : WA.heap.size = w3.heap.size + 1 := by rw [hWA]; simp
          have hA1 : WA.heap[w3.heap.size]? = some (.cells (sgCells m (.slice a t.length c) (.slice none 0 0) L 1 (0, false, [])) 119 (0, 0)) := by rw [hWA]; simp only [heap_alloc_at]; simp [sgCells]
          have hSg : Sg m (.slice a t.length c) L 1 w3.heap.size W.heap.size (0, false, []) (.slice none 0 0) WA :=
            ⟨hA1, ⟨[], ⟨rfl, .inl ⟨rfl, rfl⟩⟩, fun k hk => by simp at hk⟩, by simp [Value.ownBlock], ⟨Nat.zero_le _, by have := Hi.out.2.2.2.2.2.2.2.1; omega⟩, by have := hb3W.size; omega⟩
          have hlo0 : ∀ b, RG w3.heap.size (.slice none 0 0) b → w3.heap.size ≤ b := fun b hb => by
            rcases hb with rfl | hb
            · exact Nat.le_refl _
            · simp [Value.ownBlock] at hb
          have hbWA : Below W.heap.size W WA := hb3W.trans (hbA.mono hb3W.size)
          have HA := Lib.hid (And.intro hSg (And.intro hlo0 (And.intro hbWA (And.intro hWA hbA)))); clear hSg hlo0 hbWA hA1 hbA hWA hb3W
          clear hx2
          rw [← HA.out.2.2.2.1]
          clear hx3
          go_loopw [10] (fun i wr => ∃ (r : Nat) (z : Int) (s : DSt) (fv : Value), r ≤ cuts.length ∧ Hid (z = (r : Int) - 1) ∧ i = .int .i64 z ∧ NextAt m m.c.toNat t cuts L res r s ∧ actK s ∧ Sg m (.slice a t.length c) L 1 w3.heap.size W.heap.size s fv wr ∧ (∀ b, RG w3.heap.size fv b → w3.heap.size ≤ b) ∧ Below W.heap.size W wr ∧ Below w3.heap.size w3 wr) (fun i _ => (intOf i + 1).toNat)
          case atStart => exact ⟨cuts.length, _, (0, false, []), _, Nat.le_refl _, Lib.hid rfl, rfl, Hi.out.2.2.2.2.2.2.1, ⟨rfl, rfl⟩, HA.out.1, HA.out.2.1, HA.out.2.2.1, HA.out.2.2.2.2⟩
          case round =>
            obtain ⟨r, z, ⟨s1, s2, sl⟩, fv, hr, Hz, rfl, hat, ha, hG, hlo, hB, hB2⟩ := hrel
            have hzr := hB.size
            have hzr2 := hB2.size
            by_cases hr0 : r = 0
            · subst hr0
              have hz : z < 0 := by have := Hz.out; omega
              have hzd : decide (0 ≤ z) = false := decide_eq_false (by omega)
              have hl := hat.last
              -- behind the loop: what the search answers is known
              obtain ⟨pk, hpk⟩ : ∃ p, pickA (s1, s2, sl) = p := ⟨_, rfl⟩
              have hfs := l17First_any m (.slice a t.length c) t L 1 _ _ (s1, s2, sl) _ _ hG (by rw [← hl]; exact Hdes.out)
              rw [hpk] at hfs
              have hpk2 : pickA res = pk := by rw [hl, hpk]
              have Hend := Lib.hid (And.intro hfs (And.intro hpk2 hB)); clear hfs hpk2 hpk
              go_wp2_with fail
              refine Hend.out.1.mono ?_
              rintro e' wz ⟨vz, rfl, hFz, hbz⟩
              have hBe := Hend.out.2.2
              have HF := Lib.hid (And.intro hFz.v2.old (hBe.trans (hbz.mono hBe.size))); clear hFz hBe
              go_wp2_with fail
              go_ret2
              rw [Hend.out.2.1]
              exact ⟨_, rfl, HF.out.1, HF.out.2⟩
            · obtain ⟨k, rfl⟩ : ∃ k, r = k + 1 := ⟨r - 1, by omega⟩
              have hzk : z = (k : Int) := by have := Hz.out; omega
              subst hzk
              have hstep := hat.step ha
              have hback := backF_actK (m := m) (n := m.c.toNat) (t := t) (cuts := cuts) (limit := L) (row := k) ha
              have ha2 : sl = [] := ha.2
              subst ha2
              have hok := Hi.out.2.2.1
              have hcl := Hi.out.2.2.2.2.2.1
              have hmc := Hi.out.2.2.2.1
              have hCr : V2 (fun b => b < w3.heap.size) wr (.slice a' cuts.length c') cuts := ((hC1.below hb13).old.below hB2)
              have hVr : V2 (fun b => b < w3.heap.size) wr (.slice a t.length c) t := ((hV1.below hb13).old.below hB2)
              have hcap := hCr.cap
              have hkc : ¬ c' < k := by omega
              have hkn : ¬ cuts.length ≤ k := by omega
              obtain ⟨cb, co, ra, rc, rfl, hcbS, hcc, hcr⟩ := hCr.cell (k := k) (by omega)
              have hkk := allKeys_iff.1 hok.keys k (by omega)
              have hTk := hCr.take (n := k) (by omega)
              have hno : ∀ b, b < w3.heap.size → ¬ RG w3.heap.size fv b := fun b hb h => by have := hlo b h; omega
              have hll := l15Lists_any (.slice (some ⟨cb, co, none⟩) k c') (cuts.take k) wr.drew hTk (by rw [List.length_take]; omega) (fun j hj => by
                rw [List.length_take] at hj
                rw [getl_take (by omega)]
                have h1 := hok.fits.lens j (by omega)
                have h2 := Mk.ok_iff.1 hok.fits.ok
                exact ⟨by omega, fun e => by rw [e] at h1; simp at h1; omega⟩)
              have hback2 := fun (w4 : World) (cv : Value) (hb4 : Below wr.heap.size wr w4) (hF : F2 wr.heap.size w4 cv (cuts.take k)) (hpv : PV cv) =>
                l17Back_any m t m.c.toNat hmc (.slice a t.length c) L 1 (by omega) w3.heap.size W.heap.size (t.length - k - 1) (cuts.take k) cv (.slice ra (getl cuts k).length rc) (getl cuts k) (s1, s2, []) fv w4 (by rw [List.length_take]; omega) hkk ((hcr.mono (fun b h1 _ => hno b h1) (fun _ _ _ => rfl)).below hb4)
                  ⟨hG.below hb4, (hVr.mono (fun b h1 _ => hno b h1) (fun _ _ _ => rfl)).below hb4, hF.v2.mono (fun b h1 _ h2 => by have := hG.lt h2; omega) (fun _ _ _ => rfl), fun _ => hpv, hok.take k, by show ((0 : Nat) : Int) < 1; decide⟩
              obtain ⟨q, hq⟩ : ∃ q, backF m m.c.toNat t cuts L k (s1, s2, []) = q := ⟨_, rfl⟩
              have hq2 : runL (goStep L (stayP m.c.toNat t) (goF L (stayP m.c.toNat t) (visK 1) (keysOf m) (t.length - k - 1)) (cuts.take k)) (s1, s2, []) (behind m (getl cuts k)) = q := hq
              rw [hq2] at hback2
              obtain ⟨ck, hck⟩ : ∃ ck, cuts.take k = ck := ⟨_, rfl⟩
              rw [hck] at hback2 hll
              rw [hq] at hstep hback
              have hge : decide (0 ≤ (k : Int)) = true := decide_eq_true (by omega)
              have hS0 : wr.drew.cell? ⟨cb, co + k, none⟩ = some (.slice ra (getl cuts k).length rc) := hcc
              have HK := Lib.hid (And.intro hback2 (And.intro hstep (And.intro hback (And.intro hlo (And.intro hB (And.intro hB2 hcbS))))))
              have Hll := Lib.hid hll
              clear hback2 hstep hback hlo hB hB2 hCr hVr hcr hTk hck hq hq2 hG hkk hno ha hcl hcap hmc hok hat Hz hll
              go_wp2_with fail
              refine wp_region_noPanic ?_
              refine wp_region_held_drew (S := fun w' => w'.cell? ⟨cb, co + k, none⟩ = some (.slice ra (getl cuts k).length rc)) (by kernel_rfl) hS0 (fun hHeld => ?_)
              (refine wpAnyH_take (i := 0) (v := .pointer (some ⟨w3.heap.size, 0, none⟩)) rfl (by kernel_rfl) (by kernel_rfl) (by kernel_rfl) (fun _ _ _ h => h) (Or.inl ⟨by kernel_rfl, fun w hSw => by (try dsimp only at hSw); go_split_ands; go_simp⟩) (by assumption) ?_; simp only [Act.put, List.setIfInBounds_toArray, List.set_cons_zero, List.set_cons_succ])
              (refine wpAnyH_take (i := 1) (v := .slice (some ⟨cb, co, none⟩) cuts.length c') rfl (by kernel_rfl) (by kernel_rfl) (by kernel_rfl) (fun _ _ _ h => h) (Or.inl ⟨by kernel_rfl, fun w hSw => by (try dsimp only at hSw); go_split_ands; go_simp⟩) (by assumption) ?_; simp only [Act.put, List.setIfInBounds_toArray, List.set_cons_zero, List.set_cons_succ])
              (refine wpAnyH_take (i := 2) (v := .int .i64 (k : Int)) rfl (by kernel_rfl) (by kernel_rfl) (by kernel_rfl) (fun _ _ _ h => h) (Or.inl ⟨by kernel_rfl, fun w hSw => by (try dsimp only at hSw); go_split_ands; go_simp⟩) (by assumption) ?_; simp only [Act.put, List.setIfInBounds_toArray, List.set_cons_zero, List.set_cons_succ])
              (refine wpAnyH_take (i := 3) (v := .slice (some ⟨cb, co, none⟩) k c') rfl (by kernel_rfl) (by kernel_rfl) (by kernel_rfl) (fun _ _ _ h => h) (Or.inl ⟨by kernel_rfl, fun w hSw => by (try dsimp only at hSw); go_split_ands; go_simp⟩) (by assumption) ?_; simp only [Act.put, List.setIfInBounds_toArray, List.set_cons_zero, List.set_cons_succ])
              (refine wpAnyH_take (i := 5) (v := .slice (some ⟨cb, co, none⟩) cuts.length c') rfl (by kernel_rfl) (by kernel_rfl) (by kernel_rfl) (fun _ _ _ h => h) (Or.inl ⟨by kernel_rfl, fun w hSw => by (try dsimp only at hSw); go_split_ands; go_simp⟩) (by assumption) ?_; simp only [Act.put, List.setIfInBounds_toArray, List.set_cons_zero, List.set_cons_succ])
              (refine wpAnyH_take (i := 6) (v := .int .i64 (k : Int)) rfl (by kernel_rfl) (by kernel_rfl) (by kernel_rfl) (fun _ _ _ h => h) (Or.inl ⟨by kernel_rfl, fun w hSw => by (try dsimp only at hSw); go_split_ands; go_simp⟩) (by assumption) ?_; simp only [Act.put, List.setIfInBounds_toArray, List.set_cons_zero, List.set_cons_succ])
              (refine wpAnyH_take (i := 7) (v := .pointer (some ⟨cb, co + k, none⟩)) rfl (by kernel_rfl) (by kernel_rfl) (by kernel_rfl) (fun _ _ _ h => h) (Or.inl ⟨by kernel_rfl, fun w hSw => by (try dsimp only at hSw); go_split_ands; go_simp⟩) (by assumption) ?_; simp only [Act.put, List.setIfInBounds_toArray, List.set_cons_zero, List.set_cons_succ])
              (refine wpAnyH_take (i := 8) (v := .slice ra (getl cuts k).length rc) rfl (by kernel_rfl) (by kernel_rfl) (by kernel_rfl) (fun _ _ _ h => h) (Or.inl ⟨by kernel_rfl, fun w hSw => by (try dsimp only at hSw); go_split_ands; go_simp⟩) (by assumption) ?_; simp only [Act.put, List.setIfInBounds_toArray, List.set_cons_zero, List.set_cons_succ])
              refine wpAnyH_ready (rs := [4]) (by kernel_rfl) (by simp) (AllReadyH.cons rfl (fun K hK => ?_) AllReadyH.nil)
              go_simp
              go_at_call 117
              refine Hll.out.mono ?_
              rintro e' w4 ⟨v4, rfl, ⟨hF4, hpv4⟩, hb4⟩
              have hb4' : Below wr.heap.size wr w4 := ((Below.refl wr.heap.size wr).drew).trans (hb4.mono (Nat.le_refl _))
              have hS4 : w4.cell? ⟨cb, co + k, none⟩ = some (.slice ra (getl cuts k).length rc) := cell_keep hcc (hb4'.block _ (lt_of_cell hcc))
              have hz4 := hb4'.size
              have hgo := HK.out.1 w4 v4 hb4' hF4 hpv4
              obtain ⟨a4, c4, rfl, _⟩ := hF4.v2.form
              have HG4 := Lib.hid (And.intro hgo hb4'); clear hgo hF4 hpv4 hb4 hb4'
              dsimp only
              (refine hK.out _ _ hS4 (fun hHeld => ?_); clear hK K; (try simp only [Act.put, List.setIfInBounds_toArray, List.set_cons_zero, List.set_cons_succ]))
              refine wpAnyH_ready (rs := [9]) (by kernel_rfl) (by simp) (AllReadyH.cons rfl (fun K hK => ?_) AllReadyH.nil)
              go_simp
              refine HG4.out.1.mono ?_
              rintro e' wq ⟨fv2, rfl, g1, g2, g3⟩
              have hlo := HK.out.2.2.2.1
              have hcb := lt_of_cell hcc
              have hcb2 : cb < w3.heap.size := HK.out.2.2.2.2.2.2
              have hSq : wq.cell? ⟨cb, co + k, none⟩ = some (.slice ra (getl cuts k).length rc) := cell_keep hS4 (g2.block cb (lt_of_cell hS4) (fun h => by have h1 := hlo cb h; omega))
              have hlo' : ∀ b, RG w3.heap.size fv2 b → w3.heap.size ≤ b := fun b hb => by
                rcases g3 b hb with h | h
                · exact hlo b h
                · omega
              have hBq2 : Below w3.heap.size w3 wq := (HK.out.2.2.2.2.2.1.trans (HG4.out.2.mono hzr2)).trans (g2.to_below (B := w3.heap.size) hlo (by omega))
              have hz3W := hb13.size
              have hBq : Below W.heap.size W wq := (HK.out.2.2.2.2.1.trans (HG4.out.2.mono hzr)).trans (g2.to_below (B := W.heap.size) (fun b hb => by have := hlo b hb; omega) (by omega))
              have HF := Lib.hid (And.intro g1 (And.intro hlo' (And.intro hBq hBq2))); clear g1 g2 g3 hlo' hBq hBq2 hlo
              obtain ⟨q1, qb⟩ := q
              dsimp only
              (refine hK.out _ _ hSq (fun hHeld => ?_); clear hK K; (try simp only [Act.put, List.setIfInBounds_toArray, List.set_cons_zero, List.set_cons_succ]))
              refine wpAnyH_done (by kernel_rfl) (NoPanic.normal ?_) _
              cases qb
              · have hna : ¬ actK q1 := fun hh => by have := HK.out.2.2.1.2 hh; cases this
                have hl : res = q1 := HK.out.2.1.stop hna
                have hG9 := HF.out.1
                have hB9 := HF.out.2.2.1
                clear hna
                -- behind the loop: what the search answers is known
                obtain ⟨pk, hpk⟩ : ∃ p, pickA q1 = p := ⟨_, rfl⟩
                have hfs := l17First_any m (.slice a t.length c) t L 1 _ _ q1 _ _ hG9 (by rw [← hl]; exact Hdes.out)
                rw [hpk] at hfs
                have hpk2 : pickA res = pk := by rw [hl, hpk]
                have Hend := Lib.hid (And.intro hfs (And.intro hpk2 hB9)); clear hfs hpk2 hpk
                go_wp2_with fail
                refine Hend.out.1.mono ?_
                rintro e' wz ⟨vz, rfl, hFz, hbz⟩
                have hBe := Hend.out.2.2
                have HF := Lib.hid (And.intro hFz.v2.old (hBe.trans (hbz.mono hBe.size))); clear hFz hBe
                go_wp2_with fail
                go_ret2
                rw [Hend.out.2.1]
                exact ⟨_, rfl, HF.out.1, HF.out.2⟩
              · have hac := HK.out.2.2.1.1 rfl
                have Hac := Lib.hid hac; clear hac
                go_wp2_with fail
                go_roundw
                case rel => exact ⟨k, _, q1, fv2, by omega, Lib.hid rfl, by go_num, HK.out.2.1, Hac.out, HF.out.1, HF.out.2.1, HF.out.2.2.1, HF.out.2.2.2⟩
                case measure => simp [intOf]; try omega
  · have hfin : nextDAns m t cuts limit = ([], partC m t cuts) := by
      have h2 : searchC m t cuts limit = partC m t cuts := by unfold searchC; rw [if_pos hp]
      unfold nextDAns; rw [h2, if_pos hp]
    have e1 : (partC m t cuts != 0) = true := by simp [hp]
    have e2 : (partC m t cuts == 0) = false := by simp [hp]
    rw [hfin]
    obtain ⟨pc, hpc⟩ : ∃ pc, partC m t cuts = pc := ⟨_, rfl⟩
    rw [hpc] at e1 e2 ⊢
    have Hpc := Lib.hid hpc; clear hpc hp hfin
    go_enter Tryz.func42, Tryz.ntmps42
    go_wp2_with fail
    rw [← hW1]
    refine (l16Code_any m _ _ t cuts W1 hV1 hC1).mono ?_
    rintro e' w2 ⟨rfl, hb2⟩
    rw [Hpc.out]
    have hz2 := hb2.size
    have hx2 : ∀ o, w2.cell? ⟨W.heap.size, o, none⟩ = (#[.int .i64 m.c, .int .i64 m.d, .int .i64 m.s, .int .i64 m.e, .int .i64 m.l, .slice a t.length c] : Array Value)[o]? := fun o => by rw [(bcell hb2).1 _ _ hz01, hc01]
    clear hc01 hh01
    clear hx2
    go_wp2_with fail
    go_ret2
    exact ⟨_, rfl, (F2.nil5 (B := 0)).v2.old, hB01.trans (hb2.mono (by omega))⟩
end Go.Proofs.YtikdbjaimcciiaaGreat
