/- The short reason: what the reference answers. No conditions. -/
import Derived.Test.YtmaefilliggjiaaGreatMDraw34
import Derived.Test.YtmaefilliggjiaaGreatMRefFirst
namespace Go.Proofs.YtmaefilliggjiaaGreat
open Go.RowKit
set_option linter.unusedVariables false
set_option linter.unusedSimpArgs false
def ShPost (S : Nat → Prop) (W : World) (o : Option (List Int)) (e' : Ending) (w' : World) : Prop :=
 ∃ v', e' = .returned (.tuple #[v', .bool o.isSome]) ∧ V1 (fun b => S b ∨ W.heap.size ≤ b) w' v' (o.getD []) ∧ Below W.heap.size W w'
theorem sh_at {b2 o2 : Nat} {c6 : Value} {wr w' : World} (h : wr.cell? ⟨b2, o2, none⟩ = some c6) (hc : Below wr.heap.size wr w') : w'.cell? ⟨b2, o2, none⟩ = some c6 ∧ Below wr.heap.size wr w' := ⟨cell_keep h (hc.block _ (lt_of_cell h)), hc⟩
theorem sh_b {b2 o2 : Nat} {c6 : Value} {wr w : World} (h : w.cell? ⟨b2, o2, none⟩ = some c6 ∧ Below wr.heap.size wr w) : Below wr.heap.size wr w := h.2
theorem V1.nil0 {S : Nat → Prop} {w : World} {b : Nat} (hb : S b) : V1 S w (.slice (some ⟨b, 0, none⟩) 0 0) [] := ⟨_, 0, rfl, Nat.le_refl _, Nat.zero_le _, fun k hk => by simp at hk⟩
set_option maxRecDepth 100000 in
set_option maxHeartbeats 4000000 in
theorem l18Short_any {n : Nat} (rows : List (List Int)) (hR : RowsOk n rows) (hl : 2 ≤ rows.length ∧ rows.length ≤ 6) :
  ∀ (rem : Nat) (S S2 : Nat → Prop) (rv v : Value) (beg : List Int) (W : World), V2 S2 W rv rows → V1 S W v beg → (beg = [] → PV v) → beg.length + rem = rows.length → Dig beg →
  Calls Tryz.prog 123 #[rv, v] W (ShPost S W (bestW rows.length (extR rows beg))) := by
 obtain ⟨i0, hi, hz0, hz1, hz2⟩ := info_parts inf_int
 intro rem
 induction rem with
 | zero =>
   intro S S2 rv v beg W h2 h hp hlr hdig
   obtain ⟨ra, rc, rfl, hrx⟩ := h2.form
   obtain ⟨a, c, rfl, hmx⟩ := h.form
   have hbl : beg.length = rows.length := by omega
   have hfin : bestW rows.length (extR rows beg) = some beg := by rw [extR_end hbl]; rfl
   rw [hfin]
   have e2 : ((beg.length : Int) == (rows.length : Int)) = true := by simp [hbl]
   have H := Lib.hid (And.intro hbl (And.intro hfin h)); clear hbl hfin hlr h h2
   go_enter Tryz.func123, Tryz.ntmps123
   go_wp2_with fail
   go_ret2
   exact ⟨_, rfl, H.out.2.2.mono (fun b hb _ => .inl hb) (fun _ _ _ => rfl), Below.refl _ _⟩
 | succ rem ih =>
   intro S S2 rv v beg W h2 h hp hlr hdig
   obtain ⟨ra, rc, rfl, hrx⟩ := h2.form
   obtain ⟨a, c, rfl, hmx⟩ := h.form
   have hbl : beg.length < rows.length := by omega
   have hbl2 : (beg.length : Int) < (rows.length : Int) := by omega
   have hbl6 : beg.length ≤ 6 := by omega
   have e2 : ((beg.length : Int) == (rows.length : Int)) = false := by simp; omega
   have hfin := extR_all hbl
   rw [hfin]
   obtain ⟨s, hs⟩ : ∃ s, getl rows beg.length = s := ⟨_, rfl⟩
   rw [hs]
   have heb := fun x (hx : x < (getl rows beg.length).length) => ext_best hR (beg := beg) hdig hx hbl
   rw [hs] at heb
   have hsl := hR.low beg.length
   rw [hs] at hsl
   obtain ⟨b2, off2, a2, c2, rfl, _, hc2, hr2⟩ := h2.cell hbl
   obtain ⟨oF, hoF⟩ : ∃ oF, bestW rows.length (extTo rows beg s.length) = oF := ⟨_, rfl⟩
   rw [hoF]
   have HoF := Lib.hid hoF; clear hoF
   rw [hs] at hc2 hr2
   have hsm : s.length ≤ 9223372036854775807 := by obtain ⟨_, _, _, hsm⟩ := hr2.form; exact hsm
   have hV := h.any
   have hRV := h2.any
   have IH := Lib.hid ih; clear ih
   have Hp := Lib.hid hp; clear hp
   have Hlr := Lib.hid hlr; clear hlr
   have HS := Lib.hid (And.intro heb (And.intro hsl (And.intro hfin (And.intro hs (And.intro hdig h))))); clear heb hsl hfin hs hdig h h2
   have hnew : ∀ o1, (W.alloc o1).cell? ⟨b2, off2 + beg.length, none⟩ = some (.slice a2 s.length c2) := fun o1 => cell_keep hc2 (((Below.refl W.heap.size W).alloc (Nat.le_refl _) o1).block _ (lt_of_cell hc2))
   go_enter Tryz.func123, Tryz.ntmps123
   go_wp2_with fail
   have hz1w : W.heap.size ≤ (W.alloc (.cells #[] 2)).heap.size := by simp
   clear hnew
   go_loopw [6, 8, 9, 10] (fun bv ix _ _ wr => ∃ x : Nat, x ≤ s.length ∧ ix = .int .i64 (x : Int) ∧ V1 (fun b => W.heap.size ≤ b) wr bv ((bestW rows.length (extTo rows beg x)).getD []) ∧ Below W.heap.size W wr) (fun _ ix _ _ _ => s.length - (intOf ix).toNat)
   case atStart => exact ⟨0, Nat.zero_le _, rfl, V1.nil0 (Nat.le_refl _), (Below.refl _ _).alloc (Nat.le_refl _) _⟩
   case round =>
    obtain ⟨x, hx, rfl, hbv, hB⟩ := hrel
    have hzr := hB.size
    obtain ⟨ba, bc, rfl, hbm⟩ := hbv.form
    by_cases hxx : x < s.length
    ·obtain ⟨bs, offs, rfl, _, hcx⟩ := (hr2.below hB).cell hxx
     have hst := HS.out.1 x hxx
     have hyb := HS.out.2.1 _ (geti_mem hxx)
     obtain ⟨y, hye⟩ : ∃ y, geti s x = y := ⟨_, rfl⟩
     rw [hye] at hst hcx hyb
     have hdg : Dig (beg ++ [y]) := fun z hz => by
      rcases List.mem_append.1 hz with hz | hz
      ·exact HS.out.2.2.2.2.1 z hz
      ·obtain rfl := List.mem_singleton.1 hz
       have := hR.few; omega
     have Hdig := Lib.hid hdg
     have hVr := hV.below hB
     have hRr := hRV.below hB
     have hx0 : (0 : Int) ≤ (x : Int) := by omega
     have hxs : (x : Int) < (s.length : Int) := by omega
     obtain ⟨o, ho⟩ : ∃ o, bestW rows.length (extR rows (beg ++ [y])) = o := ⟨_, rfl⟩
     rw [ho] at hst
     have Hcand := Lib.hid ho
     cases o with
     | none =>
       have Hst := Lib.hid (And.intro hst hbv); clear hst hbv ho hdg hye
       go_wp2_with fail
       go_region_held3 (fun w' => w'.cell? ⟨bs, offs + x, none⟩ = some (.int .i64 y) ∧ Below wr.heap.size wr w')
        (first | exact sh_at hcx (Below.refl _ _).drew | exact sh_at hcx ((sh_b (by assumption)).trans (Below.mono (by assumption) (sh_b (by assumption)).size)) | exact sh_at hcx ((sh_b (by assumption)).alloc (sh_b (by assumption)).size _) | exact sh_at hcx ((sh_b (by assumption)).grown hgrow (sh_b (by assumption)).size (own_lo hown1 (Nat.le_refl _))) | assumption)
        (first | (go_at_call 136; refine (l01Own_any _ beg _ (hVr.below (sh_b (by assumption))) Hp.out (by omega)).mono ?_; rintro e' w' ⟨v1, rfl, hown0, hb⟩; have hzz := Nat.le_trans (sh_b (by assumption)).size hb.size; have hown1 := own_base hown0 (sh_b (by assumption)).size; clear hown0) | (refine step_append_lies _ (by rfl) _ _ _ (by rfl) wr.heap.size 2 i0 _ 1 8 Tryz.underlying35 hi hz0 hz1 hz2 rfl (by omega) _ beg.length _ (by rfl) (hown1.alloc _) ⟨_, 0, none⟩ 1 1 [.int .i64 y] (by rfl) (by rfl) (World.news_of_block (heap_alloc_new _ _)) (by simp [Value.oneCell']) (by omega) (by unfold maxLen; omega) (by omega) (by simp; omega) _ rfl ?_; intro gg cap w1 hown2 hgrow hat hlt) | (refine step_append_lies _ (by rfl) _ _ _ (by rfl) wr.heap.size 2 i0 _ 1 8 Tryz.underlying35 hi hz0 hz1 hz2 rfl (by omega) _ beg.length _ (by rfl) hown1 ⟨_, 0, none⟩ 1 1 [.int .i64 y] (by rfl) (by rfl) (news_old hb) (by simp [Value.oneCell']) (by omega) (by unfold maxLen; omega) (by omega) (by omega) _ rfl ?_; intro gg cap w1 hown2 hgrow hat hlt) | (go_at_call 123; refine (IH.out (fun b => wr.heap.size ≤ b) (fun _ => True) _ _ (beg ++ [y]) _ (hRr.below (sh_b (by assumption))) (own_V1B hown2 (by simp)) (fun h => by simp at h) (by have := Hlr.out; simp; omega) Hdig.out).mono ?_; rintro e' wq ⟨v3, he3, hv3, hb⟩; rw [Hcand.out] at he3 hv3; (try simp only [Option.isSome_none, Option.isSome_some, Option.getD_none, Option.getD_some] at he3 hv3); subst he3; obtain ⟨a3, c3, rfl, h3m⟩ := hv3.form))
       all_goals
        have hBw := hB.trans ((sh_b (wr := wr) (by assumption)).mono hzr)
        have Hfin := Lib.hid (And.intro hBw (Hst.out.2.below (sh_b (wr := wr) (by assumption)))); clear hBw hv3
        go_wp2_with fail
        go_roundw
        case rel => exact ⟨x + 1, by omega, by go_num, by rw [Hst.out.1]; exact Hfin.out.2, Hfin.out.1⟩
        case measure => simp [intOf]; omega
     | some l =>
       cases hbo : bestW rows.length (extTo rows beg x) with
       | none =>
         rw [hbo] at hst hbv
         have Hst := Lib.hid (And.intro hst (And.intro hbo ho)); clear hst hbo ho hdg hye
         simp only [Option.getD_none] at hbv
         have hb0 : (([] : List Int).length : Int) = 0 := rfl
         clear hbv
         go_wp2_with fail
         go_region_held3 (fun w' => w'.cell? ⟨bs, offs + x, none⟩ = some (.int .i64 y) ∧ Below wr.heap.size wr w')
          (first | exact sh_at hcx (Below.refl _ _).drew | exact sh_at hcx ((sh_b (by assumption)).trans (Below.mono (by assumption) (sh_b (by assumption)).size)) | exact sh_at hcx ((sh_b (by assumption)).alloc (sh_b (by assumption)).size _) | exact sh_at hcx ((sh_b (by assumption)).grown hgrow (sh_b (by assumption)).size (own_lo hown1 (Nat.le_refl _))) | assumption)
          (first | (go_at_call 136; refine (l01Own_any _ beg _ (hVr.below (sh_b (by assumption))) Hp.out (by omega)).mono ?_; rintro e' w' ⟨v1, rfl, hown0, hb⟩; have hzz := Nat.le_trans (sh_b (by assumption)).size hb.size; have hown1 := own_base hown0 (sh_b (by assumption)).size; clear hown0) | (refine step_append_lies _ (by rfl) _ _ _ (by rfl) wr.heap.size 2 i0 _ 1 8 Tryz.underlying35 hi hz0 hz1 hz2 rfl (by omega) _ beg.length _ (by rfl) (hown1.alloc _) ⟨_, 0, none⟩ 1 1 [.int .i64 y] (by rfl) (by rfl) (World.news_of_block (heap_alloc_new _ _)) (by simp [Value.oneCell']) (by omega) (by unfold maxLen; omega) (by omega) (by simp; omega) _ rfl ?_; intro gg cap w1 hown2 hgrow hat hlt) | (refine step_append_lies _ (by rfl) _ _ _ (by rfl) wr.heap.size 2 i0 _ 1 8 Tryz.underlying35 hi hz0 hz1 hz2 rfl (by omega) _ beg.length _ (by rfl) hown1 ⟨_, 0, none⟩ 1 1 [.int .i64 y] (by rfl) (by rfl) (news_old hb) (by simp [Value.oneCell']) (by omega) (by unfold maxLen; omega) (by omega) (by omega) _ rfl ?_; intro gg cap w1 hown2 hgrow hat hlt) | (go_at_call 123; refine (IH.out (fun b => wr.heap.size ≤ b) (fun _ => True) _ _ (beg ++ [y]) _ (hRr.below (sh_b (by assumption))) (own_V1B hown2 (by simp)) (fun h => by simp at h) (by have := Hlr.out; simp; omega) Hdig.out).mono ?_; rintro e' wq ⟨v3, he3, hv3, hb⟩; rw [Hcand.out] at he3 hv3; (try simp only [Option.isSome_none, Option.isSome_some, Option.getD_none, Option.getD_some] at he3 hv3); subst he3; obtain ⟨a3, c3, rfl, h3m⟩ := hv3.form))
         all_goals
          have hBw := hB.trans ((sh_b (wr := wr) (by assumption)).mono hzr)
          have hv4 := hv3.mono (S' := fun b => W.heap.size ≤ b) (fun b0 h0 _ => by have g1 := (hown2.lt _ rfl).1; have g2 := (hown2.lt _ rfl).2; rcases h0 with h0 | h0 <;> exact Nat.le_trans (by omega) h0) (fun _ _ _ => rfl)
          have Hfin := Lib.hid (And.intro hBw hv4); clear hBw hv3 hv4
          go_wp2_with fail
          go_roundw
          case rel => exact ⟨x + 1, by omega, by go_num, by rw [Hst.out.1]; exact Hfin.out.2, Hfin.out.1⟩
          case measure => simp [intOf]; omega
       | some b =>
         rw [hbo] at hst hbv
         simp only at hst
         simp only [Option.getD_some] at hbv
         have hbne : ¬ b.length = 0 := by
          have := extTo_dig hR HS.out.2.2.2.2.1 hbl (bestW_some hbo).1
          omega
         have hbe : ((b.length : Int) == 0) = false := by rw [beq_eq_false_iff_ne]; omega
         by_cases hkl : kinds l < kinds b
         ·rw [if_pos hkl] at hst
          have hki : ((kinds l : Nat) : Int) < ((kinds b : Nat) : Int) := by omega
          have Hst := Lib.hid (And.intro hst (And.intro hbo ho)); clear hst hbo ho hdg hye
          go_wp2_with fail
          go_region_held3 (fun w' => w'.cell? ⟨bs, offs + x, none⟩ = some (.int .i64 y) ∧ Below wr.heap.size wr w')
           (first | exact sh_at hcx (Below.refl _ _).drew | exact sh_at hcx ((sh_b (by assumption)).trans (Below.mono (by assumption) (sh_b (by assumption)).size)) | exact sh_at hcx ((sh_b (by assumption)).alloc (sh_b (by assumption)).size _) | exact sh_at hcx ((sh_b (by assumption)).grown hgrow (sh_b (by assumption)).size (own_lo hown1 (Nat.le_refl _))) | assumption)
           (first | (go_at_call 136; refine (l01Own_any _ beg _ (hVr.below (sh_b (by assumption))) Hp.out (by omega)).mono ?_; rintro e' w' ⟨v1, rfl, hown0, hb⟩; have hzz := Nat.le_trans (sh_b (by assumption)).size hb.size; have hown1 := own_base hown0 (sh_b (by assumption)).size; clear hown0) | (refine step_append_lies _ (by rfl) _ _ _ (by rfl) wr.heap.size 2 i0 _ 1 8 Tryz.underlying35 hi hz0 hz1 hz2 rfl (by omega) _ beg.length _ (by rfl) (hown1.alloc _) ⟨_, 0, none⟩ 1 1 [.int .i64 y] (by rfl) (by rfl) (World.news_of_block (heap_alloc_new _ _)) (by simp [Value.oneCell']) (by omega) (by unfold maxLen; omega) (by omega) (by simp; omega) _ rfl ?_; intro gg cap w1 hown2 hgrow hat hlt) | (refine step_append_lies _ (by rfl) _ _ _ (by rfl) wr.heap.size 2 i0 _ 1 8 Tryz.underlying35 hi hz0 hz1 hz2 rfl (by omega) _ beg.length _ (by rfl) hown1 ⟨_, 0, none⟩ 1 1 [.int .i64 y] (by rfl) (by rfl) (news_old hb) (by simp [Value.oneCell']) (by omega) (by unfold maxLen; omega) (by omega) (by omega) _ rfl ?_; intro gg cap w1 hown2 hgrow hat hlt) | (go_at_call 123; refine (IH.out (fun b => wr.heap.size ≤ b) (fun _ => True) _ _ (beg ++ [y]) _ (hRr.below (sh_b (by assumption))) (own_V1B hown2 (by simp)) (fun h => by simp at h) (by have := Hlr.out; simp; omega) Hdig.out).mono ?_; rintro e' wq ⟨v3, he3, hv3, hb⟩; rw [Hcand.out] at he3 hv3; (try simp only [Option.isSome_none, Option.isSome_some, Option.getD_none, Option.getD_some] at he3 hv3); subst he3; obtain ⟨a3, c3, rfl, h3m⟩ := hv3.form))
          all_goals
           have hBc := sh_b (wr := wr) (by assumption)
           have hBw := hB.trans (hBc.mono hzr)
           have hbv2 := hbv.below hBc
           have hv4 := hv3.mono (S' := fun b => W.heap.size ≤ b) (fun b0 h0 _ => by have g1 := (hown2.lt _ rfl).1; have g2 := (hown2.lt _ rfl).2; rcases h0 with h0 | h0 <;> exact Nat.le_trans (by omega) h0) (fun _ _ _ => rfl)
           go_wp2_with fail
           refine (l02Kinds_q _ _ _ hv4).mono ?_
           rintro e' w5 ⟨rfl, n5, rfl⟩
           go_wp2_with fail
           refine (l02Kinds_q _ _ _ (V1.drewN hbv2)).mono ?_
           rintro e' w6 ⟨rfl, n6, rfl⟩
           have Hfin := Lib.hid (And.intro (below_drewN hBw (n5 + n6)) (V1.drewN (n := n5 + n6) hv4)); clear hBw hv3 hv4
           go_wp2_with fail
           go_roundw
           case rel => exact ⟨x + 1, by omega, by go_num, by rw [Hst.out.1]; exact Hfin.out.2, Hfin.out.1⟩
           case measure => simp [intOf]; omega
         ·rw [if_neg hkl] at hst
          have hki : ¬ ((kinds l : Nat) : Int) < ((kinds b : Nat) : Int) := by omega
          have Hst := Lib.hid (And.intro hst (And.intro hbo ho)); clear hst hbo ho hdg hye
          go_wp2_with fail
          go_region_held3 (fun w' => w'.cell? ⟨bs, offs + x, none⟩ = some (.int .i64 y) ∧ Below wr.heap.size wr w')
           (first | exact sh_at hcx (Below.refl _ _).drew | exact sh_at hcx ((sh_b (by assumption)).trans (Below.mono (by assumption) (sh_b (by assumption)).size)) | exact sh_at hcx ((sh_b (by assumption)).alloc (sh_b (by assumption)).size _) | exact sh_at hcx ((sh_b (by assumption)).grown hgrow (sh_b (by assumption)).size (own_lo hown1 (Nat.le_refl _))) | assumption)
           (first | (go_at_call 136; refine (l01Own_any _ beg _ (hVr.below (sh_b (by assumption))) Hp.out (by omega)).mono ?_; rintro e' w' ⟨v1, rfl, hown0, hb⟩; have hzz := Nat.le_trans (sh_b (by assumption)).size hb.size; have hown1 := own_base hown0 (sh_b (by assumption)).size; clear hown0) | (refine step_append_lies _ (by rfl) _ _ _ (by rfl) wr.heap.size 2 i0 _ 1 8 Tryz.underlying35 hi hz0 hz1 hz2 rfl (by omega) _ beg.length _ (by rfl) (hown1.alloc _) ⟨_, 0, none⟩ 1 1 [.int .i64 y] (by rfl) (by rfl) (World.news_of_block (heap_alloc_new _ _)) (by simp [Value.oneCell']) (by omega) (by unfold maxLen; omega) (by omega) (by simp; omega) _ rfl ?_; intro gg cap w1 hown2 hgrow hat hlt) | (refine step_append_lies _ (by rfl) _ _ _ (by rfl) wr.heap.size 2 i0 _ 1 8 Tryz.underlying35 hi hz0 hz1 hz2 rfl (by omega) _ beg.length _ (by rfl) hown1 ⟨_, 0, none⟩ 1 1 [.int .i64 y] (by rfl) (by rfl) (news_old hb) (by simp [Value.oneCell']) (by omega) (by unfold maxLen; omega) (by omega) (by omega) _ rfl ?_; intro gg cap w1 hown2 hgrow hat hlt) | (go_at_call 123; refine (IH.out (fun b => wr.heap.size ≤ b) (fun _ => True) _ _ (beg ++ [y]) _ (hRr.below (sh_b (by assumption))) (own_V1B hown2 (by simp)) (fun h => by simp at h) (by have := Hlr.out; simp; omega) Hdig.out).mono ?_; rintro e' wq ⟨v3, he3, hv3, hb⟩; rw [Hcand.out] at he3 hv3; (try simp only [Option.isSome_none, Option.isSome_some, Option.getD_none, Option.getD_some] at he3 hv3); subst he3; obtain ⟨a3, c3, rfl, h3m⟩ := hv3.form))
          all_goals
           have hBc := sh_b (wr := wr) (by assumption)
           have hBw := hB.trans (hBc.mono hzr)
           have hbv2 := hbv.below hBc
           go_wp2_with fail
           refine (l02Kinds_q _ _ _ hv3).mono ?_
           rintro e' w5 ⟨rfl, n5, rfl⟩
           go_wp2_with fail
           refine (l02Kinds_q _ _ _ (V1.drewN hbv2)).mono ?_
           rintro e' w6 ⟨rfl, n6, rfl⟩
           have Hfin := Lib.hid (And.intro (below_drewN hBw (n5 + n6)) (V1.drewN (n := n5 + n6) hbv2)); clear hBw hv3
           go_wp2_with fail
           go_roundw
           case rel => exact ⟨x + 1, by omega, by go_num, by rw [Hst.out.1]; exact Hfin.out.2, Hfin.out.1⟩
           case measure => simp [intOf]; omega
    ·obtain rfl : x = s.length := by omega
     rw [HoF.out] at hbv ⊢
     cases oF with
     | none =>
       simp only [Option.getD_none, List.length_nil] at hbv ⊢
       have Hbv := Lib.hid hbv; clear hbv
       go_wp2_with fail
       go_ret2
       exact ⟨_, rfl, Hbv.out.mono (S' := fun b => S b ∨ W.heap.size ≤ b) (fun b0 h0 _ => Or.inr h0) (fun _ _ _ => rfl), hB⟩
     | some b =>
       simp only [Option.getD_some] at hbv ⊢
       have hbne : ¬ b.length = 0 := by
        have := extTo_dig hR HS.out.2.2.2.2.1 hbl (bestW_some HoF.out).1
        omega
       have hbn : 0 < b.length := by omega
       have hbd : decide (0 < b.length) = true := decide_eq_true hbn
       have Hbv := Lib.hid hbv; clear hbv
       go_wp2_with fail
       go_ret2
       exact ⟨_, rfl, Hbv.out.mono (S' := fun b => S b ∨ W.heap.size ≤ b) (fun b0 h0 _ => Or.inr h0) (fun _ _ _ => rfl), hB⟩
set_option maxRecDepth 100000 in
set_option maxHeartbeats 1000000 in
theorem ShortReasonR_any {S S' : Nat → Prop} (m : Mk) (u v : Value) (t cuts : List (List Int)) (key door : Int) (W : World) (h : V2 S W u t) (hc : V2 S' W v cuts) :
  Calls Tryz.prog 24 #[.agg #[.int .i64 m.c, .int .i64 m.d, .int .i64 m.s, .int .i64 m.e, .int .i64 m.l, u], v, .int .i64 key, .int .i64 door] W fun e' w' => ∃ v', e' = .returned (.tuple #[v', .int .i64 (shortAns m t cuts key door).2]) ∧ V1 (fun b => b < w'.heap.size) w' v' (shortAns m t cuts key door).1 ∧ Below W.heap.size W w' := by
 obtain ⟨a, c, rfl, hmx⟩ := h.form
 obtain ⟨a', c', rfl, hmx'⟩ := hc.form
 obtain ⟨W1, hW1, hB01, hz01, HZ01, hc01, hh01⟩ := box_facts W #[.int .i64 m.c, .int .i64 m.d, .int .i64 m.s, .int .i64 m.e, .int .i64 m.l, .slice a t.length c] 28
 have hV1 : V2 (fun _ => True) W1 (.slice a t.length c) t := (h.below hB01).mono (fun _ _ _ => trivial) (fun _ _ _ => rfl)
 have hC1 : V2 (fun _ => True) W1 (.slice a' cuts.length c') cuts := (hc.below hB01).mono (fun _ _ _ => trivial) (fun _ _ _ => rfl)
 have hpart := l18Code_any m _ _ t cuts key door W1 hV1 hC1
 by_cases hp : reasC m t cuts key door = 0
 ·rw [hp] at hpart
  have hfin : shortAns m t cuts key door = shortOf (reasRows t cuts key.toNat door.toNat m.c.toNat) := by unfold shortAns; rw [if_neg (by rw [hp]; decide)]
  rw [hfin]
  obtain ⟨hpc, k, d, rfl, rfl, hk, hd, _⟩ := reasC_ok hp
  have hf := fits_of hpc
  have hmk := Mk.ok_iff.1 hf.ok
  simp only [Int.toNat_natCast]
  obtain ⟨n, hn, hn6, hn0⟩ : ∃ n : Nat, m.c.toNat = n ∧ n ≤ 6 ∧ (n : Int) = m.c := ⟨_, rfl, by omega, by omega⟩
  rw [hn]
  have hlen := reasRows_len t cuts k d n
  have hRok := reasRows_ok (t := t) (cuts := cuts) (key := k) (door := d) (n := n) (show cuts.length ≤ 16 by have := hf.few; have := hf.rows; omega)
  have hrw := fun w (hb : Below W1.heap.size W1 w) => l18Rows_any m (.slice a t.length c) (.slice a' cuts.length c') t cuts k d n w hf hk hd hn0 (hV1.below hb) (hC1.below hb)
  obtain ⟨rows, hrows⟩ : ∃ r, reasRows t cuts k d n = r := ⟨_, rfl⟩
  rw [hrows] at hRok hlen ⊢
  simp only [hrows] at hrw
  have hls := l18Short_any rows hRok (by omega) rows.length
  have hext : extR rows [] = allR rows := by unfold extR; simp
  unfold shortOf
  cases hb : bestW rows.length (allR rows) with
  | none =>
    have H := Lib.hid (And.intro hpart (And.intro hrw (And.intro hls (And.intro hb (And.intro hf (And.intro hRok (And.intro hlen hfin))))))); clear hpart hrw hls hb hf hRok hlen hfin hp hpc hmk
    go_enter Tryz.func24, Tryz.ntmps24
    go_wp2_with fail
    rw [← hW1]
    refine H.out.1.mono ?_
    rintro e' w2 ⟨rfl, hb2⟩
    have hx2 : ∀ o, w2.cell? ⟨W.heap.size, o, none⟩ = (#[.int .i64 m.c, .int .i64 m.d, .int .i64 m.s, .int .i64 m.e, .int .i64 m.l, .slice a t.length c] : Array Value)[o]? := fun o => by rw [(bcell hb2).1 _ _ hz01, hc01]
    have hz2 := hb2.size
    clear hc01 hh01
    have HW1 := Lib.hid hW1; clear hW1
    go_wp2_with fail
    refine (H.out.2.1 _ hb2).mono ?_
    rintro e' w3 ⟨v3, rfl, hF3, hb3⟩
    obtain ⟨a3, c3, rfl, _⟩ := hF3.v2.form
    clear hx2
    go_wp2_with fail
    refine (H.out.2.2.1 (fun _ => True) _ _ (.slice none 0 0) [] w3 hF3.v2 ⟨none, 0, rfl, Nat.le_refl _, Nat.zero_le _, fun k hk => by simp at hk⟩ (fun _ => .inl rfl) (by simp) (fun z hz => by cases hz)).mono ?_
    rintro e' w4 ⟨v4, he4, hv4, hb4⟩
    rw [hext, H.out.2.2.2.1] at he4 hv4
    simp only [Option.isSome_none, Option.isSome_some, Option.getD_none, Option.getD_some] at he4 hv4
    subst he4
    obtain ⟨a4, c4, rfl, _⟩ := hv4.form
    have hBz := hB01.trans ((hb2.trans ((hb3.trans (hb4.mono hb3.size)).mono hz2)).mono (by omega))
    have Hfin := Lib.hid (And.intro hv4.old hBz); clear hv4 hBz hF3
    go_wp2_with fail
    go_ret2
    exact ⟨_, rfl, (F1.nil4 (B := 0)).v1.old, Hfin.out.2⟩
  | some b =>
    have H := Lib.hid (And.intro hpart (And.intro hrw (And.intro hls (And.intro hb (And.intro hf (And.intro hRok (And.intro hlen hfin))))))); clear hpart hrw hls hb hf hRok hlen hfin hp hpc hmk
    go_enter Tryz.func24, Tryz.ntmps24
    go_wp2_with fail
    rw [← hW1]
    refine H.out.1.mono ?_
    rintro e' w2 ⟨rfl, hb2⟩
    have hx2 : ∀ o, w2.cell? ⟨W.heap.size, o, none⟩ = (#[.int .i64 m.c, .int .i64 m.d, .int .i64 m.s, .int .i64 m.e, .int .i64 m.l, .slice a t.length c] : Array Value)[o]? := fun o => by rw [(bcell hb2).1 _ _ hz01, hc01]
    have hz2 := hb2.size
    clear hc01 hh01
    have HW1 := Lib.hid hW1; clear hW1
    go_wp2_with fail
    refine (H.out.2.1 _ hb2).mono ?_
    rintro e' w3 ⟨v3, rfl, hF3, hb3⟩
    obtain ⟨a3, c3, rfl, _⟩ := hF3.v2.form
    clear hx2
    go_wp2_with fail
    refine (H.out.2.2.1 (fun _ => True) _ _ (.slice none 0 0) [] w3 hF3.v2 ⟨none, 0, rfl, Nat.le_refl _, Nat.zero_le _, fun k hk => by simp at hk⟩ (fun _ => .inl rfl) (by simp) (fun z hz => by cases hz)).mono ?_
    rintro e' w4 ⟨v4, he4, hv4, hb4⟩
    rw [hext, H.out.2.2.2.1] at he4 hv4
    simp only [Option.isSome_none, Option.isSome_some, Option.getD_none, Option.getD_some] at he4 hv4
    subst he4
    obtain ⟨a4, c4, rfl, _⟩ := hv4.form
    have hBz := hB01.trans ((hb2.trans ((hb3.trans (hb4.mono hb3.size)).mono hz2)).mono (by omega))
    have Hfin := Lib.hid (And.intro hv4.old hBz); clear hv4 hBz hF3
    go_wp2_with fail
    go_ret2
    exact ⟨_, rfl, Hfin.out.1, Hfin.out.2⟩
 ·have hfin : shortAns m t cuts key door = ([], reasC m t cuts key door) := by unfold shortAns; rw [if_pos hp]
  have e1 : (reasC m t cuts key door != 0) = true := by simp [hp]
  rw [hfin]
  have Hp := Lib.hid hp; clear hp hfin
  generalize reasC m t cuts key door = pc at *
  go_enter Tryz.func24, Tryz.ntmps24
  go_wp2_with fail
  rw [← hW1]
  refine hpart.mono ?_
  rintro e' w2 ⟨rfl, hb2⟩
  clear hc01 hh01
  go_wp2_with fail
  go_ret2
  exact ⟨_, rfl, (F1.nil4 (B := 0)).v1.old, hB01.trans (hb2.mono (by omega))⟩
end Go.Proofs.YtmaefilliggjiaaGreat
