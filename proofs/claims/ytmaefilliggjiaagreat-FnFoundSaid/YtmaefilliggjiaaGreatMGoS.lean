/- The reference's search for designs: the rows to come. No conditions. -/
import Derived.OwnWalk
import Derived.Test.YtmaefilliggjiaaGreatMGoC
import Derived.Test.YtmaefilliggjiaaGreatMReadQ
namespace Go.Proofs.YtmaefilliggjiaaGreat
open Go.RowKit
set_option linter.unusedVariables false
set_option linter.unusedSimpArgs false
set_option maxRecDepth 100000 in
set_option maxHeartbeats 4000000 in
theorem l17From_any (m : Mk) (t : List (List Int)) (n : Nat) (hn : (n : Int) = m.c) (tv : Value) (limit : Nat) (most : Int) (hmo : most ≤ 1000000) (RB B : Nat) : ∀ d, FromG m t tv limit most RB B d n := by
 intro d
 induction d with
 | zero => exact l17End_any m t n hn tv limit most hmo RB B
 | succ d ih =>
   intro cuts cv s fv0 W hcd ask
   obtain ⟨hsg, ht, hc, hcp, hok, hac⟩ := ask
   have hok' := hok.fits.ok
   have hmk := Mk.ok_iff.1 hok'
   have hc0 : 0 ≤ m.c := by omega
   have hlt : cuts.length < t.length := by omega
   obtain ⟨ta, tc, rfl, htm⟩ := ht.form
   obtain ⟨ca, cc, rfl, hcm⟩ := hc.form
   have hkey : ∀ k, k ∈ keysOf m → isKeyB m k = true ∧ (k.length : Int) = m.c ∧ ∀ i, i < k.length → 0 ≤ geti k i ∧ geti k i ≤ 7 := fun k hk => by
    have h0 := (mem_keysOf hc0).1 hk
    have h1 := isKey_iff.1 h0
    refine ⟨h0, by omega, fun i hi => ?_⟩
    have := h1.2.1 _ (geti_mem hi)
    omega
   have e0 : ((cuts.length : Int) == (t.length : Int)) = false := by rw [beq_eq_false_iff_ne]; omega
   have hRl := lt_of_heap hsg.hh
   have htN := ht.mono (S' := fun b => ¬ RG RB fv0 b ∧ b < W.heap.size) (fun b h1 h2 => ⟨h1, h2⟩) (fun _ _ _ => rfl)
   have hcN := hc.mono (S' := fun b => ¬ RG RB fv0 b ∧ b < W.heap.size) (fun b h1 h2 => ⟨h1, h2⟩) (fun _ _ _ => rfl)
   obtain ⟨f, hf⟩ : ∃ f, f = goStep limit (stayP n t) (goF limit (stayP n t) (visK most) (keysOf m) d) cuts := ⟨_, rfl⟩
   obtain ⟨K, hK⟩ : ∃ K, K = keysOf m := ⟨_, rfl⟩
   obtain ⟨L0, hL0⟩ : ∃ L0 : List (List Int), L0 = [] := ⟨_, rfl⟩
   have hL0K : keysOf m = L0 ++ K := by rw [hL0, hK]; rfl
   have hgo : goF limit (stayP n t) (visK most) (keysOf m) (d + 1) cuts s = runL f s K := by rw [hf, hK]; rfl
   rw [hgo]
   have hx0 : ∀ o, W.cell? ⟨RB, o, none⟩ = (#[.int .i64 m.c, .int .i64 m.d, .int .i64 m.s, .int .i64 m.e, .int .i64 m.l, .slice ta t.length tc, .int .i64 (limit : Int), .int .i64 most, .int .i64 (s.1 : Int), .bool s.2.1, fv0] : Array Value)[o]? := fun o => by rw [hsg.cell]; rfl
   have hfirst := l02First_any m hok' m.c.toNat (fun _ => False) (.slice none 0 0) []
   rw [genB_nil, ← hK] at hfirst
   have hcc : ((m.c.toNat : Nat) : Int) = m.c := by omega
   have Hfirst := Lib.hid (And.intro hfirst hcc); clear hfirst hcc
   have Hkey := Lib.hid hkey; clear hkey
   have HL := Lib.hid hL0K; clear hL0K hL0 hK hgo
   have Hf := Lib.hid hf; clear hf
   have HA := Lib.hid (And.intro hsg (And.intro htN (And.intro hcN (And.intro hcp (And.intro hok (And.intro ih (And.intro hok' (And.intro hc0 (And.intro hlt hac))))))))); clear hsg htN hcN ht hc hcp hok ih hok' hc0 hmk hlt hac
   go_enter Tryz.func105, Tryz.ntmps105
   go_wp2_with fail
   refine (Hfirst.out.1 _ ⟨none, 0, rfl, Nat.le_refl _, Nat.zero_le _, fun k hk => by simp at hk⟩ (fun _ => .inl rfl) (by have := Hfirst.out.2; simp; omega) (fun k hk => by simp at hk)).mono ?_
   rintro e' wF ⟨kv, rfl, hkv, hbF⟩
   have hkv0 : (nextAns K).2 = true → V1 (fun b => ¬ RG RB fv0 b) wF kv (nextAns K).1 := fun hh => (hkv hh).mono (fun b h1 h2 hf => by
    have := HA.out.1.lt hf
    rcases h1 with h1 | h1
    ·exact h1.elim
    ·omega) (fun _ _ _ => rfl)
   have hzF := hbF.size
   have HI := Lib.hid (And.intro hkv0 (And.intro (HA.out.1.below hbF) hbF)); clear hkv0 hkv hbF hx0
   go_wp2_with fail
   go_loopw [7, 8, 9] (fun kv okv _ wr => ∃ (L1 L2 : List (List Int)) (st : DSt) (fv : Value), K = L1 ++ L2 ∧ runL f s L1 = (st, true) ∧ okv = .bool (nextAns L2).2 ∧ ((nextAns L2).2 = true → V1 (fun b => ¬ RG RB fv b) wr kv (nextAns L2).1) ∧ Sg m (.slice ta t.length tc) limit most RB B st fv wr ∧ Chg (RG RB fv0) W wr ∧ (∀ b, RG RB fv b → RG RB fv0 b ∨ W.heap.size ≤ b) ∧ (st.2.2.length : Int) < most) (fun kv okv _ wr => toCome m wr kv okv)
   case atStart => exact ⟨[], K, s, fv0, rfl, rfl, rfl, HI.out.1, HI.out.2.1, Chg.of_below HI.out.2.2, fun b hb => .inl hb, HA.out.2.2.2.2.2.2.2.2.2⟩
   case round =>
    obtain ⟨L1, L2, st, fv, hL, hrun, hokv, hkv, hsg, hch, hsub, hact⟩ := hrel
    have hzr := hch.size
    have hr := hsg.cell
    have hfin : ∀ q, runL f s (L1 ++ L2) = q → runL f s K = q := fun q h => by rw [hL, h]
    cases L2 with
    | nil =>
      rw [List.append_nil] at hfin
      have hokv' : _ = Value.bool false := hokv
      subst hokv'
      have hres := hfin _ hrun
      have HZ := Lib.hid (And.intro hres (And.intro hsg (And.intro hch hsub))); clear hres hsg hkv hch hrun hL hfin hr hsub
      go_wp2_with fail
      go_ret
      rw [HZ.out.1]
      exact ⟨fv, rfl, HZ.out.2.1, HZ.out.2.2.1, HZ.out.2.2.2⟩
    | cons k r =>
      have hokv' : _ = Value.bool true := hokv
      subst hokv'
      have hrun' : runL f s L1 = (st, true) := hrun
      have hk1 := hkv rfl
      have hk1' : V1 (fun b => ¬ RG RB fv b) wr _ k := hk1
      have hLk : keysOf m = (L0 ++ L1) ++ k :: r := by rw [HL.out, hL]; simp
      obtain ⟨hkk, hkc, hkr⟩ := Hkey.out k (by rw [hLk]; simp)
      have hbeh := keys_behind HA.out.2.2.2.2.2.2.2.1 hLk
      obtain ⟨ka, kc, rfl, hkm⟩ := hk1'.form
      obtain ⟨fa, fc, rfl, hf1, hf2⟩ := hsg.form
      obtain ⟨s1, s2, sl⟩ := st
      dsimp only at *
      have hx : ∀ o, wr.cell? ⟨RB, o, none⟩ = (#[.int .i64 m.c, .int .i64 m.d, .int .i64 m.s, .int .i64 m.e, .int .i64 m.l, .slice ta t.length tc, .int .i64 (limit : Int), .int .i64 most, .int .i64 (s1 : Int), .bool s2, .slice fa sl.length fc] : Array Value)[o]? := fun o => by rw [hr]; rfl
      have hLk' : keysOf m = (L0 ++ L1 ++ [k]) ++ r := by rw [hLk]; simp
      have hL' : K = (L1 ++ [k]) ++ r := by rw [hL]; simp
      have HK := Lib.hid (And.intro hk1' (And.intro hkc (And.intro hkr (And.intro hbeh (And.intro hLk' hL'))))); clear hkv hk1 hk1' hkc hkr hbeh hLk' hL' hLk
      have HC := Lib.hid (And.intro hch (And.intro hsub hact))
      have hok := HA.out.2.2.2.2.1
      have hle := hsg.le
      have fR8 := frozen_of_block hsg.hh 8
      have fR9 := frozen_of_block hsg.hh 9
      clear hr
      by_cases hA : s1 = limit
      ·have e1 : ((s1 : Int) == (limit : Int)) = true := by rw [beq_iff_eq]; omega
       have hst : f (s1, s2, sl) k = ((s1, true, sl), false) := by rw [Hf.out]; unfold goStep; rw [if_pos hA]
       have hres := hfin _ (runL_stopat2 hrun' hst)
       obtain ⟨hP1, hP2⟩ := hsg.put (s' := (s1, true, sl)) (o := 9) (v := .bool true) (by simp [sgCells]) rfl hle.1
       have hCs := (hch.trans hP2 (fun i hi => hsub i hi))
       have HZ := Lib.hid (And.intro hres (And.intro hP1 (And.intro hCs hsub))); clear hres hsg hch hrun hrun' hL hfin hsub hP1 hP2 hst hCs
       go_wp2_with fail
       go_region
       all_goals
        go_wp2_with fail
        go_ret
        rw [HZ.out.1]
        exact ⟨_, rfl, HZ.out.2.1.below ((Below.refl _ _).drew), HZ.out.2.2.1.drew, HZ.out.2.2.2⟩
      ·have e1 : ((s1 : Int) == (limit : Int)) = false := by rw [beq_eq_false_iff_ne]; omega
       obtain ⟨w5, hw5⟩ : ∃ w5, w5 = (wr.setCell ⟨RB, 8, none⟩ (.int .i64 ((s1 : Int) + 1))).drew := ⟨_, rfl⟩
       obtain ⟨hP1, hP2⟩ := hsg.put (s' := (s1 + 1, s2, sl)) (o := 8) (v := .int .i64 ((s1 : Int) + 1)) (by simp [sgCells]) rfl (by show s1 + 1 ≤ limit; have := hle.1; have h1 : s1 ≤ limit := this; omega)
       have hS5 : Sg m (.slice ta t.length tc) limit most RB B (s1 + 1, s2, sl) (.slice fa sl.length fc) w5 := by rw [hw5]; exact hP1.below ((Below.refl _ _).drew)
       have hC5 : Chg (RG RB (.slice fa sl.length fc)) wr w5 := by rw [hw5]; exact hP2.drew
       have hfar : ∀ b, (¬ RG RB fv0 b ∧ b < W.heap.size) → ¬ RG RB (.slice fa sl.length fc) b := fun b hb h => by
        rcases HC.out.2.1 b h with h | h
        ·exact hb.1 h
        ·omega
       have hkpr : Keep (fun b => ¬ RG RB fv0 b ∧ b < W.heap.size) W w5 := (HC.out.1.trans hC5 (fun i hi => HC.out.2.1 i hi)).keep fun b hb => hb.1
       have ht5 : V2 (fun b => ¬ RG RB (.slice fa sl.length fc) b) w5 (.slice ta t.length tc) t := HA.out.2.1.mono (fun b hb _ => hfar b hb) hkpr
       have hc5 : V2 (fun b => ¬ RG RB (.slice fa sl.length fc) b) w5 (.slice ca cuts.length cc) cuts := HA.out.2.2.1.mono (fun b hb _ => hfar b hb) hkpr
       have hk5 : V1 (fun b => ¬ RG RB (.slice fa sl.length fc) b) w5 (.slice ka k.length kc) k := HK.out.1.mono (fun _ h _ => h) (hC5.keep fun b h => h)
       have hx5 : ∀ o, w5.cell? ⟨RB, o, none⟩ = (#[.int .i64 m.c, .int .i64 m.d, .int .i64 m.s, .int .i64 m.e, .int .i64 m.l, .slice ta t.length tc, .int .i64 (limit : Int), .int .i64 most, .int .i64 ((s1 : Int) + 1), .bool s2, .slice fa sl.length fc] : Array Value)[o]? := fun o => by rw [hS5.cell]; rfl
       have hcl : cuts.length ≤ 1000000 := by have := hok.fits.rows; have := hok.few; omega
       have hz5 := hC5.size
       obtain ⟨sb, hsb⟩ : ∃ sb, stayP n t cuts k = sb := ⟨_, rfl⟩
       have hstep : f (s1, s2, sl) k = if sb = true then goF limit (stayP n t) (visK most) (keysOf m) d (cuts ++ [k]) (s1 + 1, s2, sl) else ((s1 + 1, s2, sl), true) := by
        rw [Hf.out]; unfold goStep; rw [if_neg hA, hsb]
       have hlt := HA.out.2.2.2.2.2.2.2.2.1
       have hmore := hok.more hlt hkk
       have Hrun := Lib.hid (And.intro hrun' (And.intro hfin hL))
       have HS := Lib.hid (And.intro hS5 (And.intro hC5 (And.intro ht5 (And.intro hstep (And.intro hsb hmore))))); clear hS5 hC5 ht5 hsg hP1 hP2 hfar hkpr hstep hsb hA hrun hrun' hfin hL hch hsub hmore hok
       go_wp2_with fail
       go_region
       all_goals
        go_wp2_with fail
        rw [← hw5]
        clear hx
        refine (l16With_any _ _ cuts k _ hc5 HA.out.2.2.2.1 hk5 hcl).mono ?_
        rintro e' w6 ⟨nv, nvs, rfl, hown, hrv, hb6⟩
        have hN := own_V2S hown hrv
        obtain ⟨na, nc, rfl, hnm⟩ := hN.form
        have hz6 := hb6.size
        have hRl5 := lt_of_heap HS.out.1.hh
        have hx6 : ∀ o, w6.cell? ⟨RB, o, none⟩ = (#[.int .i64 m.c, .int .i64 m.d, .int .i64 m.s, .int .i64 m.e, .int .i64 m.l, .slice ta t.length tc, .int .i64 (limit : Int), .int .i64 most, .int .i64 ((s1 : Int) + 1), .bool s2, .slice fa sl.length fc] : Array Value)[o]? := fun o => by rw [(bcell hb6).1 _ _ hRl5, hx5]
        have hnl : (cuts ++ [k]).length = cuts.length + 1 := by simp
        rw [hnl] at hN
        have hopn := l16Open_b m (.slice ta t.length tc) (.slice na (cuts.length + 1) nc) t (cuts ++ [k]) n w6 sb HS.out.2.2.2.2.1 HS.out.2.2.2.2.2.fits hn (HS.out.2.2.1.below hb6) hN
        have HN := Lib.hid (And.intro hopn (And.intro hN hb6)); clear hopn hN hb6 hnl hown hrv hc5 hk5 hx5
        go_wp2_with fail
        refine HN.out.1.mono ?_
        rintro e' w7 ⟨rfl, hb7⟩
        have hb57 := HN.out.2.2.trans (hb7.mono hz6)
        have hz7 := hb57.size
        have hSg7 := HS.out.1.below hb57
        have hRl6 : RB < w6.heap.size := by omega
        have hx7 : ∀ o, w7.cell? ⟨RB, o, none⟩ = (#[.int .i64 m.c, .int .i64 m.d, .int .i64 m.s, .int .i64 m.e, .int .i64 m.l, .slice ta t.length tc, .int .i64 (limit : Int), .int .i64 most, .int .i64 ((s1 : Int) + 1), .bool s2, .slice fa sl.length fc] : Array Value)[o]? := fun o => by rw [(bcell hb7).1 _ _ hRl6, hx6]
        have hCz := HS.out.2.1.then_below hb57
        clear hx6
        cases sb
        ·have hst : f (s1, s2, sl) k = ((s1 + 1, s2, sl), true) := by rw [HS.out.2.2.2.1]; rfl
         have hrun' := Hrun.out.1
         have hSub : ∀ b, RG RB (.slice fa sl.length fc) b → RG RB (.slice fa sl.length fc) b ∨ wr.heap.size ≤ b := fun b hb => .inl hb
         have Hb := Lib.hid hb57; clear hb57 hb7
         have hkz : V1 (fun b => ¬ RG RB (.slice fa sl.length fc) b) w7 (.slice ka k.length kc) k := HK.out.1.mono (fun b h1 h2 h3 => by
          rcases hSub b h3 with h | h
          ·exact h1 h
          ·omega) (hCz.keep fun b h => h)
         have hrz := hSg7.cell
         obtain ⟨z1, z2, zl, hz⟩ : ∃ z1 z2 zl, (s1 + 1, s2, sl) = ((z1, z2, zl) : DSt) := ⟨_, _, _, rfl⟩
         have hxz : ∀ o, w7.cell? ⟨RB, o, none⟩ = (#[.int .i64 m.c, .int .i64 m.d, .int .i64 m.s, .int .i64 m.e, .int .i64 m.l, .slice ta t.length tc, .int .i64 (limit : Int), .int .i64 most, .int .i64 (z1 : Int), .bool z2, (.slice fa sl.length fc)] : Array Value)[o]? := fun o => by rw [hrz, hz]; rfl
         have hzz := hCz.size
         have hrn : runL f s (L1 ++ [k]) = ((s1 + 1, s2, sl), true) := by rw [runL_go f (by rw [hrun']), hrun', runL_one, hst]
         have hacz : (((s1 + 1, s2, sl) : DSt).2.2.length : Int) < most := HC.out.2.2
         have HZ := Lib.hid (And.intro hSg7 (And.intro hCz (And.intro hSub (And.intro hrn hacz)))); clear hrn hrz hz hacz hSg7 hCz hSub hst hrun' hx7
         go_wp2_with fail
         refine (l02Next_any m HA.out.2.2.2.2.2.2.1 _ k _ hkz HK.out.2.1 HK.out.2.2.1).mono ?_
         rintro e' wM ⟨kv', he', hkv', hbM⟩
         rw [HK.out.2.2.2.1] at he' hkv'
         subst he'
         have hkv2 : (nextAns r).2 = true → V1 (fun b => ¬ RG RB (.slice fa sl.length fc) b) wM kv' (nextAns r).1 := fun hh => (hkv' hh).mono (fun b h1 h2 hf => by
          have := HZ.out.1.lt hf
          rcases h1 with h1 | h1
          ·exact h1.elim
          ·omega) (fun _ _ _ => rfl)
         have HM := Lib.hid (And.intro hkv2 (And.intro (toCome_nextG HA.out.2.2.2.2.2.2.2.1 hkv2 HK.out.2.2.2.2.1) (toCome_more (m := m) HK.out.1))); clear hkv' hkv2 hxz
         obtain ⟨qb, hqb⟩ : ∃ qb, (nextAns r).2 = qb := ⟨_, rfl⟩
         rw [hqb]
         have Hqb := Lib.hid hqb; clear hqb
         go_wp2_with fail
         go_roundw
         case rel => exact ⟨L1 ++ [k], r, (s1 + 1, s2, sl), (.slice fa sl.length fc), HK.out.2.2.2.2.2, HZ.out.2.2.2.1, by rw [Hqb.out], HM.out.1, HZ.out.1.below hbM, (HC.out.1.trans HZ.out.2.1 (fun i hi => HC.out.2.1 i hi)).then_below hbM, fun b hb => by
          rcases HZ.out.2.2.1 b hb with h | h
          ·exact HC.out.2.1 b h
          ·right; omega, HZ.out.2.2.2.2⟩
         case measure => rw [HM.out.2.2, HK.out.2.2.2.1]; have := HM.out.2.1; rw [Hqb.out] at this; omega
        ·have hst : f (s1, s2, sl) k = goF limit (stayP n t) (visK most) (keysOf m) d (cuts ++ [k]) (s1 + 1, s2, sl) := by rw [HS.out.2.2.2.1]; rfl
         have hact2 : (goF limit (stayP n t) (visK most) (keysOf m) d (cuts ++ [k]) (s1 + 1, s2, sl)).2 = true → ((goF limit (stayP n t) (visK most) (keysOf m) d (cuts ++ [k]) (s1 + 1, s2, sl)).1.2.2.length : Int) < most := fun h => goF_act (act := fun l : List (List (List Int)) => (l.length : Int) < most) visK_still (s := (s1 + 1, s2, sl)) HC.out.2.2 h
         have IHr := HA.out.2.2.2.2.2.1 (cuts ++ [k]) (.slice na (cuts.length + 1) nc) (s1 + 1, s2, sl) (.slice fa sl.length fc) w7 (by simp; omega)
          ⟨hSg7, (HS.out.2.2.1.below hb57), (HN.out.2.1.below hb7).mono (fun b hb hlt hf => by
            have h1 := HS.out.1.lt hf
            rcases hb with (hb | hb) | hb
            ·exact hb hf
            ·exact hb hf
            ·omega) (fun _ _ _ => rfl), fun e => by simp at e, HS.out.2.2.2.2.2, HC.out.2.2⟩
         obtain ⟨rr, hrr⟩ : ∃ q, goF limit (stayP n t) (visK most) (keysOf m) d (cuts ++ [k]) (s1 + 1, s2, sl) = q := ⟨_, rfl⟩
         rw [hrr] at IHr hst hact2
         obtain ⟨rs, rb⟩ := rr
         have HIr := Lib.hid (And.intro IHr (And.intro hst (And.intro hact2 (And.intro hCz hb57)))); clear IHr hst hact2 hrr hCz hSg7 hb57 hb7
         cases rb
         ·go_wp2_with fail
          refine HIr.out.1.mono ?_
          rintro e' wq ⟨fv2, rfl, h1, h2, h3⟩
          have hCq := HC.out.1.trans (HIr.out.2.2.2.1.trans h2 (fun i hi => .inl hi)) (fun i hi => HC.out.2.1 i hi)
          have hSq : ∀ b, RG RB fv2 b → RG RB fv0 b ∨ W.heap.size ≤ b := fun b hb => by
           rcases h3 b hb with h | h
           ·exact HC.out.2.1 b h
           ·right; omega
          have hres := Hrun.out.2.1 _ (runL_stopat2 Hrun.out.1 HIr.out.2.1)
          have HZ := Lib.hid (And.intro h1 (And.intro hCq (And.intro hSq hres))); clear h1 h2 h3 hCq hSq hres hx7
          go_wp2_with fail
          go_ret
          rw [HZ.out.2.2.2]
          exact ⟨fv2, rfl, HZ.out.1, HZ.out.2.1, HZ.out.2.2.1⟩
         ·go_wp2_with fail
          refine HIr.out.1.mono ?_
          rintro e' wq ⟨fv2, rfl, h1, h2, h3⟩
          have hCq := HIr.out.2.2.2.1.trans h2 (fun i hi => .inl hi)
          have hSq : ∀ b, RG RB fv2 b → RG RB (.slice fa sl.length fc) b ∨ wr.heap.size ≤ b := fun b hb => by
           rcases h3 b hb with h | h
           ·exact .inl h
           ·right; omega
          have hrun' := Hrun.out.1
          have hst := HIr.out.2.1
          have hkz : V1 (fun b => ¬ RG RB fv2 b) wq (.slice ka k.length kc) k := HK.out.1.mono (fun b h1 h2 h3 => by
           rcases hSq b h3 with h | h
           ·exact h1 h
           ·omega) (hCq.keep fun b h => h)
          have hrz := h1.cell
          obtain ⟨z1, z2, zl, hz⟩ : ∃ z1 z2 zl, rs = ((z1, z2, zl) : DSt) := ⟨_, _, _, rfl⟩
          have hxz : ∀ o, wq.cell? ⟨RB, o, none⟩ = (#[.int .i64 m.c, .int .i64 m.d, .int .i64 m.s, .int .i64 m.e, .int .i64 m.l, .slice ta t.length tc, .int .i64 (limit : Int), .int .i64 most, .int .i64 (z1 : Int), .bool z2, fv2] : Array Value)[o]? := fun o => by rw [hrz, hz]; rfl
          have hzz := hCq.size
          have hrn : runL f s (L1 ++ [k]) = (rs, true) := by rw [runL_go f (by rw [hrun']), hrun', runL_one, hst]
          have hacz : ((rs : DSt).2.2.length : Int) < most := (HIr.out.2.2.1 trivial)
          have HZ := Lib.hid (And.intro h1 (And.intro hCq (And.intro hSq (And.intro hrn hacz)))); clear hrn hrz hz hacz h1 h2 h3 hCq hSq hst hrun' hx7
          go_wp2_with fail
          refine (l02Next_any m HA.out.2.2.2.2.2.2.1 _ k _ hkz HK.out.2.1 HK.out.2.2.1).mono ?_
          rintro e' wM ⟨kv', he', hkv', hbM⟩
          rw [HK.out.2.2.2.1] at he' hkv'
          subst he'
          have hkv2 : (nextAns r).2 = true → V1 (fun b => ¬ RG RB fv2 b) wM kv' (nextAns r).1 := fun hh => (hkv' hh).mono (fun b h1 h2 hf => by
           have := HZ.out.1.lt hf
           rcases h1 with h1 | h1
           ·exact h1.elim
           ·omega) (fun _ _ _ => rfl)
          have HM := Lib.hid (And.intro hkv2 (And.intro (toCome_nextG HA.out.2.2.2.2.2.2.2.1 hkv2 HK.out.2.2.2.2.1) (toCome_more (m := m) HK.out.1))); clear hkv' hkv2 hxz
          obtain ⟨qb, hqb⟩ : ∃ qb, (nextAns r).2 = qb := ⟨_, rfl⟩
          rw [hqb]
          have Hqb := Lib.hid hqb; clear hqb
          go_wp2_with fail
          go_roundw
          case rel => exact ⟨L1 ++ [k], r, rs, fv2, HK.out.2.2.2.2.2, HZ.out.2.2.2.1, by rw [Hqb.out], HM.out.1, HZ.out.1.below hbM, (HC.out.1.trans HZ.out.2.1 (fun i hi => HC.out.2.1 i hi)).then_below hbM, fun b hb => by
           rcases HZ.out.2.2.1 b hb with h | h
           ·exact HC.out.2.1 b h
           ·right; omega, HZ.out.2.2.2.2⟩
          case measure => rw [HM.out.2.2, HK.out.2.2.2.1]; have := HM.out.2.1; rw [Hqb.out] at this; omega
theorem F2.nil5 {B : Nat} {w : World} : F2 B w (.slice none 0 0) [] := ⟨0, fun _ => 0, ⟨none, 0, rfl, Nat.le_refl _, Nat.zero_le _, fun hn => absurd rfl hn, fun k hk => by simp at hk⟩, fun hn => absurd rfl hn, fun k hk => by simp at hk⟩
set_option maxRecDepth 100000 in
set_option maxHeartbeats 1000000 in
theorem FindFrom_any {S S' : Nat → Prop} (m : Mk) (u v : Value) (t cuts : List (List Int)) (limit : Int) (W : World) (h : V2 S W u t) (hc : V2 S' W v cuts) (hcp : cuts = [] → PV v) :
  Calls Tryz.prog 66 #[.agg #[.int .i64 m.c, .int .i64 m.d, .int .i64 m.s, .int .i64 m.e, .int .i64 m.l, u], v, .int .i64 limit] W fun e' w' => ∃ v', e' = .returned (.tuple #[v', .int .i64 (findAns m t cuts limit).2.1, .int .i64 (findAns m t cuts limit).2.2]) ∧ F2 W.heap.size w' v' (findAns m t cuts limit).1 ∧ Below W.heap.size W w' := by
 obtain ⟨a, c, rfl, hmx⟩ := h.form
 obtain ⟨a', c', rfl, hmx'⟩ := hc.form
 obtain ⟨W1, hW1, hB01, hz01, HZ01, hc01, hh01⟩ := box_facts W #[.int .i64 m.c, .int .i64 m.d, .int .i64 m.s, .int .i64 m.e, .int .i64 m.l, .slice a t.length c] 28
 have hV1 : V2 (fun _ => True) W1 (.slice a t.length c) t := (h.below hB01).any
 have hC1 : V2 (fun _ => True) W1 (.slice a' cuts.length c') cuts := (hc.below hB01).any
 have hsc := searchCode_any m _ _ t cuts limit W1 hV1 hC1
 by_cases hp : searchC m t cuts limit = 0
 ·obtain ⟨hok, hlim, hop⟩ := searchC_ok.1 hp
  rw [hp] at hsc
  obtain ⟨L, rfl⟩ : ∃ L : Nat, limit = (L : Int) := ⟨limit.toNat, by omega⟩
  have hfin : findAns m t cuts (L : Int) = pickA (firstF m.c.toNat t (keysOf m) cuts 1 L) := by unfold findAns; rw [if_neg (by rw [hp]; simp)]; rfl
  have hfd := fun w (hb : Below W1.heap.size W1 w) => firstDesigns_any m (.slice a t.length c) (.slice a' cuts.length c') t cuts 1 L w (hV1.below hb) (hC1.below hb) hcp hok hop (by omega) (by omega)
  obtain ⟨r, hr⟩ : ∃ r, firstF m.c.toNat t (keysOf m) cuts 1 L = r := ⟨_, rfl⟩
  rw [hfin, hr]
  simp only [hr] at hfd
  obtain ⟨r1, r2, rl⟩ := r
  have H := Lib.hid (And.intro hsc (And.intro hfd hfin)); clear hsc hfd hfin hp hok hlim hop hr
  cases rl with
  | nil =>
    cases r2
    ·skip
     go_enter Tryz.func66, Tryz.ntmps66
     go_wp2_with fail
     rw [← hW1]
     refine H.out.1.mono ?_
     rintro e' w2 ⟨rfl, hb2⟩
     have hz2 := hb2.size
     have hx2 : ∀ o, w2.cell? ⟨W.heap.size, o, none⟩ = (#[.int .i64 m.c, .int .i64 m.d, .int .i64 m.s, .int .i64 m.e, .int .i64 m.l, .slice a t.length c] : Array Value)[o]? := fun o => by rw [(bcell hb2).1 _ _ hz01, hc01]
     clear hc01 hh01
     go_wp2_with fail
     refine (H.out.2.1 _ hb2).mono ?_
     rintro e' w3 ⟨⟨dv, XB, vs, LL, UU, fv, rfl, hX, hO⟩, hb3⟩
     have hbz := hB01.trans ((hb2.trans (hb3.mono hz2)).mono (by omega))
     have cX3 : w3.cell? ⟨XB, 7, none⟩ = some (.int .i64 (r1 : Int)) := by rw [cell_of_block hX]; rfl
     have cX4 : w3.cell? ⟨XB, 8, none⟩ = some (.bool false) := by rw [cell_of_block hX]; rfl
     clear hx2
     obtain ⟨da, dc, rfl, _, _⟩ := hO.form
     clear hO
     go_wp2_with fail
     go_ret3
     exact ⟨_, rfl, F2.nil5, hbz⟩
    ·skip
     go_enter Tryz.func66, Tryz.ntmps66
     go_wp2_with fail
     rw [← hW1]
     refine H.out.1.mono ?_
     rintro e' w2 ⟨rfl, hb2⟩
     have hz2 := hb2.size
     have hx2 : ∀ o, w2.cell? ⟨W.heap.size, o, none⟩ = (#[.int .i64 m.c, .int .i64 m.d, .int .i64 m.s, .int .i64 m.e, .int .i64 m.l, .slice a t.length c] : Array Value)[o]? := fun o => by rw [(bcell hb2).1 _ _ hz01, hc01]
     clear hc01 hh01
     go_wp2_with fail
     refine (H.out.2.1 _ hb2).mono ?_
     rintro e' w3 ⟨⟨dv, XB, vs, LL, UU, fv, rfl, hX, hO⟩, hb3⟩
     have hbz := hB01.trans ((hb2.trans (hb3.mono hz2)).mono (by omega))
     have cX3 : w3.cell? ⟨XB, 7, none⟩ = some (.int .i64 (r1 : Int)) := by rw [cell_of_block hX]; rfl
     have cX4 : w3.cell? ⟨XB, 8, none⟩ = some (.bool true) := by rw [cell_of_block hX]; rfl
     clear hx2
     obtain ⟨da, dc, rfl, _, _⟩ := hO.form
     clear hO
     go_wp2_with fail
     go_ret3
     exact ⟨_, rfl, F2.nil5, hbz⟩
  | cons d ds =>
    show Calls _ _ _ _ fun e' w' => ∃ v', e' = .returned (.tuple #[v', .int .i64 (r1 : Int), .int .i64 0]) ∧ F2 W.heap.size w' v' d ∧ Below W.heap.size W w'
    go_enter Tryz.func66, Tryz.ntmps66
    go_wp2_with fail
    rw [← hW1]
    refine H.out.1.mono ?_
    rintro e' w2 ⟨rfl, hb2⟩
    have hz2 := hb2.size
    have hx2 : ∀ o, w2.cell? ⟨W.heap.size, o, none⟩ = (#[.int .i64 m.c, .int .i64 m.d, .int .i64 m.s, .int .i64 m.e, .int .i64 m.l, .slice a t.length c] : Array Value)[o]? := fun o => by rw [(bcell hb2).1 _ _ hz01, hc01]
    clear hc01 hh01
    go_wp2_with fail
    refine (H.out.2.1 _ hb2).mono ?_
    rintro e' w3 ⟨⟨dv, XB, vs, LL, UU, fv, rfl, hX, hO⟩, hb3⟩
    have hbz := hB01.trans ((hb2.trans (hb3.mono hz2)).mono (by omega))
    have cX3 : w3.cell? ⟨XB, 7, none⟩ = some (.int .i64 (r1 : Int)) := by rw [cell_of_block hX]; rfl
    have cX4 : w3.cell? ⟨XB, 8, none⟩ = some (.bool r2) := by rw [cell_of_block hX]; rfl
    clear hx2
    obtain ⟨g, cap, rfl, _, _⟩ := own_some hO.own (by simp)
    obtain ⟨rv, h1, h2⟩ := hO.each 0 (by simp)
    have hc0 : w3.cell? ⟨g, 0, none⟩ = some rv := by
     have h3 := hO.own.cells (g := g) rfl 0 rv h1
     simpa [Addr.add] using h3
    have hF : F2 W.heap.size w3 rv d := h2.f2.mono (by have := (hO.apart 0 (by simp)).1; omega)
    obtain ⟨ra, rc, rfl, _⟩ := hF.v2.form
    have HF := Lib.hid (And.intro hF hbz); clear hF h2 hO hbz
    have hdl : (0 : Int) < ((d :: ds).length : Int) := by simp
    go_wp2_with fail
    go_region
    all_goals
     go_wp2_with fail
     go_ret3
     exact ⟨_, rfl, HF.out.1.below ((Below.refl _ _).drew), HF.out.2.drew⟩
 ·have hfin : findAns m t cuts limit = ([], 0, searchC m t cuts limit) := by unfold findAns; rw [if_pos hp]
  have e1 : (searchC m t cuts limit != 0) = true := by simp [hp]
  rw [hfin]
  have H := Lib.hid (And.intro hsc hfin); clear hsc hfin hp
  generalize searchC m t cuts limit = pc at *
  go_enter Tryz.func66, Tryz.ntmps66
  go_wp2_with fail
  rw [← hW1]
  refine H.out.1.mono ?_
  rintro e' w2 ⟨rfl, hb2⟩
  have hz2 := hb2.size
  have hx2 : ∀ o, w2.cell? ⟨W.heap.size, o, none⟩ = (#[.int .i64 m.c, .int .i64 m.d, .int .i64 m.s, .int .i64 m.e, .int .i64 m.l, .slice a t.length c] : Array Value)[o]? := fun o => by rw [(bcell hb2).1 _ _ hz01, hc01]
  clear hc01 hh01
  clear hx2
  go_wp2_with fail
  go_ret3
  exact ⟨_, rfl, F2.nil5, hB01.trans (hb2.mono (by omega))⟩
set_option maxRecDepth 100000 in
set_option maxHeartbeats 1000000 in
theorem l17Run_any {S S' : Nat → Prop} (m : Mk) (u v : Value) (t cuts : List (List Int)) (most : Int) (limit : Nat) (W : World) (h : V2 S W u t) (hc : V2 S' W v cuts) (hcp : cuts = [] → PV v) (hok : PartOk m t cuts) (hmo : most ≤ 1000000) (hlim : limit ≤ 4000) :
  Calls Tryz.prog 162 #[.agg #[.int .i64 m.c, .int .i64 m.d, .int .i64 m.s, .int .i64 m.e, .int .i64 m.l, u], v, .int .i64 most, .int .i64 (limit : Int)] W fun e w' => ∃ RB fv, e = .returned (.pointer (some ⟨RB, 0, none⟩)) ∧ Sg m u limit most RB W.heap.size (firstF m.c.toNat t (keysOf m) cuts most limit) fv w' ∧ Below W.heap.size W w' := by
 obtain ⟨a, c, rfl, hmx⟩ := h.form
 obtain ⟨a', c', rfl, hmx'⟩ := hc.form
 have hmk := Mk.ok_iff.1 hok.fits.ok
 have hfew := hok.few
 obtain ⟨WA, hWA⟩ : ∃ WA, WA = (W.alloc (.cells #[.int .i64 m.c, .int .i64 m.d, .int .i64 m.s, .int .i64 m.e, .int .i64 m.l, .slice a t.length c] 28)).alloc (.cells #[.int .i64 m.c, .int .i64 m.d, .int .i64 m.s, .int .i64 m.e, .int .i64 m.l, .slice a t.length c, .int .i64 (limit : Int), .int .i64 most, .int .i64 0, .bool false, .slice none 0 0] 109) := ⟨_, rfl⟩
 have hbA : Below W.heap.size W WA := by rw [hWA]; exact by (repeat (first | (with_reducible refine Below.setCell ?_ ?_ _) | (with_reducible refine Below.alloc ?_ ?_ _) | (with_reducible refine Below.drew ?_) | (with_reducible refine below_drewN ?_ _) | (with_reducible exact Below.refl _ _) | (with_reducible assumption) | (with_reducible refine Below.trans ?_ (Below.mono (by with_reducible assumption) ?_)) | go_size))
 have hzA : WA.heap.size = W.heap.size + 2 := by rw [hWA]; simp
 have hA1 : WA.heap[W.heap.size + 1]? = some (.cells (sgCells m (.slice a t.length c) (.slice none 0 0) limit most (0, false, [])) 109 (0, 0)) := by rw [hWA]; simp only [heap_alloc_at, World.size_alloc]; simp [sgCells]
 have hSg : Sg m (.slice a t.length c) limit most (W.heap.size + 1) W.heap.size (0, false, []) (.slice none 0 0) WA :=
  ⟨hA1, ⟨[], ⟨rfl, .inl ⟨rfl, rfl⟩⟩, fun k hk => by simp at hk⟩, by simp [Value.ownBlock], ⟨Nat.zero_le _, hlim⟩, by omega⟩
 have hno : ∀ b, b < W.heap.size → ¬ RG (W.heap.size + 1) (.slice none 0 0) b := fun b hb h => by
  rcases h with h | h
  ·omega
  ·simp [Value.ownBlock] at h
 by_cases hmp : 0 < most
 ·have hfin : firstF m.c.toNat t (keysOf m) cuts most limit = (goF limit (stayP m.c.toNat t) (visK most) (keysOf m) (t.length - cuts.length) cuts (0, false, [])).1 := by unfold firstF; rw [if_pos hmp]
  rw [hfin]
  have hgo := l17From_any m t m.c.toNat (by omega) (.slice a t.length c) limit most hmo (W.heap.size + 1) W.heap.size (t.length - cuts.length) cuts (.slice a' cuts.length c') (0, false, []) (.slice none 0 0) WA (by omega)
   ⟨hSg, h.old.mono (fun b h1 _ => hno b h1) (fun b _ h2 => hbA.block b h2), hc.old.mono (fun b h1 _ => hno b h1) (fun b _ h2 => hbA.block b h2), hcp, hok, by show (([] : List (List (List Int))).length : Int) < most; simp; omega⟩
  obtain ⟨r, hr⟩ : ∃ r, goF limit (stayP m.c.toNat t) (visK most) (keysOf m) (t.length - cuts.length) cuts (0, false, []) = r := ⟨_, rfl⟩
  rw [hr] at hgo ⊢
  have hgr : decide (0 < most) = true := decide_eq_true hmp
  have HWA := Lib.hid (And.intro hWA (And.intro hgo (And.intro hbA (And.intro hr hok)))); clear hWA hgo hbA hSg hno hA1 hok hr hfin
  go_enter Tryz.func162, Tryz.ntmps162
  go_wp2_with fail
  rw [← HWA.out.1]
  refine HWA.out.2.1.mono ?_
  rintro e' w' ⟨fv, rfl, hG, hch, hsub⟩
  have hb' : Below W.heap.size W w' := HWA.out.2.2.1.trans (hch.to_below (B := W.heap.size) (fun b hb => by
   rcases hb with e | e
   ·omega
   ·simp [Value.ownBlock] at e) (by omega))
  have HF := Lib.hid (And.intro hG hb'); clear hG hch hsub hb'
  go_wp2_with fail
  go_ret
  exact ⟨_, fv, rfl, HF.out.1, HF.out.2⟩
 ·have hfin : firstF m.c.toNat t (keysOf m) cuts most limit = (0, false, []) := by unfold firstF; rw [if_neg hmp]
  rw [hfin]
  have hgr : decide (0 < most) = false := decide_eq_false hmp
  have HWA := Lib.hid (And.intro hWA (And.intro hSg hbA)); clear hWA hSg hbA hno hA1 hok hfin
  go_enter Tryz.func162, Tryz.ntmps162
  go_wp2_with fail
  rw [← HWA.out.1]
  go_ret
  exact ⟨_, rfl, ⟨_, HWA.out.2.1⟩, HWA.out.2.2⟩
set_option maxRecDepth 100000 in
set_option maxHeartbeats 1000000 in
theorem l17First_any (m : Mk) (tv : Value) (t : List (List Int)) (limit : Nat) (most : Int) (RB B : Nat) (s : DSt) (fv : Value) (W : World) (h : Sg m tv limit most RB B s fv W) (hd : ∀ x ∈ s.2.2, DesOk m t x) :
  Calls Tryz.prog 107 #[.pointer (some ⟨RB, 0, none⟩)] W fun e w' => ∃ v', e = .returned (.tuple #[v', .int .i64 (pickA s).2.1, .int .i64 (pickA s).2.2]) ∧ F2 W.heap.size w' v' (pickA s).1 ∧ Below W.heap.size W w' := by
 obtain ⟨s1, s2, sl⟩ := s
 have hr := h.cell
 cases sl with
 | nil =>
   obtain ⟨fa, fc, rfl, _⟩ := h.form
   have hx : ∀ o, W.cell? ⟨RB, o, none⟩ = (#[.int .i64 m.c, .int .i64 m.d, .int .i64 m.s, .int .i64 m.e, .int .i64 m.l, tv, .int .i64 (limit : Int), .int .i64 most, .int .i64 (s1 : Int), .bool s2, .slice fa 0 fc] : Array Value)[o]? := fun o => by rw [hr]; rfl
   clear hr h hd
   cases s2
   ·go_enter Tryz.func107, Tryz.ntmps107
    go_wp2_with fail
    go_ret3
    exact ⟨_, rfl, F2.nil5, Below.refl _ _⟩
   ·go_enter Tryz.func107, Tryz.ntmps107
    go_wp2_with fail
    go_ret3
    exact ⟨_, rfl, F2.nil5, Below.refl _ _⟩
 | cons d ds =>
   show Calls _ _ _ _ fun e' w' => ∃ v', e' = .returned (.tuple #[v', .int .i64 (s1 : Int), .int .i64 0]) ∧ F2 W.heap.size w' v' d ∧ Below W.heap.size W w'
   obtain ⟨vs, hvs, hvs2⟩ := h.own
   obtain ⟨g, cap, rfl, _, _⟩ := own_some hvs (by simp)
   obtain ⟨rv, h1, h2⟩ := hvs2 0 (by simp)
   have h2 : V2 (fun b => ¬ RG RB (.slice (some ⟨g, 0, none⟩) (d :: ds).length cap) b) W rv d := h2
   have hcc : W.cell? ⟨g, 0, none⟩ = some rv := by
    have h3 := hvs.cells (g := g) rfl 0 rv h1
    simpa [Addr.add] using h3
   have hfew := (hd d (List.mem_cons_self ..)).few
   have hll := fun w (hb : Below W.heap.size W w) => l15Lists_any rv d w (h2.below hb) (by omega) (fun k hk => ⟨by have := (hfew.2 k hk).1; omega, (hfew.2 k hk).2⟩)
   obtain ⟨ra, rc, rfl, _⟩ := h2.form
   have hx : ∀ o, W.cell? ⟨RB, o, none⟩ = (#[.int .i64 m.c, .int .i64 m.d, .int .i64 m.s, .int .i64 m.e, .int .i64 m.l, tv, .int .i64 (limit : Int), .int .i64 most, .int .i64 (s1 : Int), .bool s2, .slice (some ⟨g, 0, none⟩) (d :: ds).length cap] : Array Value)[o]? := fun o => by rw [hr]; rfl
   have hdl : (0 : Int) < ((d :: ds).length : Int) := by simp
   have hRl := lt_of_heap h.hh
   have hgl := lt_of_cell hcc
   have hS : ∀ w', Below W.heap.size W w' → w'.cell? ⟨RB, 10, none⟩ = some (.slice (some ⟨g, 0, none⟩) (d :: ds).length cap) ∧ w'.cell? ⟨RB, 8, none⟩ = some (.int .i64 (s1 : Int)) ∧ w'.cell? ⟨g, 0, none⟩ = some (.slice ra d.length rc) := fun w' hb => ⟨by rw [(bcell hb).1 _ _ hRl, hx]; rfl, by rw [(bcell hb).1 _ _ hRl, hx]; rfl, cell_keep hcc (hb.block _ hgl)⟩
   have hbD : Below W.heap.size W W.drew := (Below.refl _ _).drew
   have H := Lib.hid (And.intro hll h); clear hll h hvs hvs2 h1 h2 hr hd
   go_enter Tryz.func107, Tryz.ntmps107
   go_wp2_with fail
   have hS0 := hS _ hbD
   refine wp_region_noPanic ?_
   refine wp_region_held_drew (S := fun w' => w'.cell? ⟨RB, 10, none⟩ = some (.slice (some ⟨g, 0, none⟩) (d :: ds).length cap) ∧ w'.cell? ⟨RB, 8, none⟩ = some (.int .i64 (s1 : Int)) ∧ w'.cell? ⟨g, 0, none⟩ = some (.slice ra d.length rc)) (by kernel_rfl) hS0 (fun hHeld => ?_)
   (refine wpAnyH_take (i := 0) (v := .pointer (some ⟨RB, 0, none⟩)) rfl (by kernel_rfl) (by kernel_rfl) (by kernel_rfl) (fun _ _ _ h => h) (Or.inl ⟨by kernel_rfl, fun w hSw => by (try dsimp only at hSw); go_split_ands; go_simp⟩) (by assumption) ?_; simp only [Act.put, List.setIfInBounds_toArray, List.set_cons_zero, List.set_cons_succ])
   (refine wpAnyH_take (i := 1) (v := .pointer (some ⟨RB, 0, none⟩)) rfl (by kernel_rfl) (by kernel_rfl) (by kernel_rfl) (fun _ _ _ h => h) (Or.inl ⟨by kernel_rfl, fun w hSw => by (try dsimp only at hSw); go_split_ands; go_simp⟩) (by assumption) ?_; simp only [Act.put, List.setIfInBounds_toArray, List.set_cons_zero, List.set_cons_succ])
   (refine wpAnyH_take (i := 2) (v := .pointer (some ⟨RB, 10, none⟩)) rfl (by kernel_rfl) (by kernel_rfl) (by kernel_rfl) (fun _ _ _ h => h) (Or.inl ⟨by kernel_rfl, fun w hSw => by (try dsimp only at hSw); go_split_ands; go_simp⟩) (by assumption) ?_; simp only [Act.put, List.setIfInBounds_toArray, List.set_cons_zero, List.set_cons_succ])
   (refine wpAnyH_take (i := 3) (v := .slice (some ⟨g, 0, none⟩) (d :: ds).length cap) rfl (by kernel_rfl) (by kernel_rfl) (by kernel_rfl) (fun _ _ _ h => h) (Or.inl ⟨by kernel_rfl, fun w hSw => by (try dsimp only at hSw); go_split_ands; go_simp⟩) (by assumption) ?_; simp only [Act.put, List.setIfInBounds_toArray, List.set_cons_zero, List.set_cons_succ])
   (refine wpAnyH_take (i := 4) (v := .pointer (some ⟨g, 0, none⟩)) rfl (by kernel_rfl) (by kernel_rfl) (by kernel_rfl) (fun _ _ _ h => h) (Or.inl ⟨by kernel_rfl, fun w hSw => by (try dsimp only at hSw); go_split_ands; go_simp⟩) (by assumption) ?_; simp only [Act.put, List.setIfInBounds_toArray, List.set_cons_zero, List.set_cons_succ])
   (refine wpAnyH_take (i := 5) (v := .slice ra d.length rc) rfl (by kernel_rfl) (by kernel_rfl) (by kernel_rfl) (fun _ _ _ h => h) (Or.inl ⟨by kernel_rfl, fun w hSw => by (try dsimp only at hSw); go_split_ands; go_simp⟩) (by assumption) ?_; simp only [Act.put, List.setIfInBounds_toArray, List.set_cons_zero, List.set_cons_succ])
   (refine wpAnyH_take (i := 7) (v := .pointer (some ⟨RB, 0, none⟩)) rfl (by kernel_rfl) (by kernel_rfl) (by kernel_rfl) (fun _ _ _ h => h) (Or.inl ⟨by kernel_rfl, fun w hSw => by (try dsimp only at hSw); go_split_ands; go_simp⟩) (by assumption) ?_; simp only [Act.put, List.setIfInBounds_toArray, List.set_cons_zero, List.set_cons_succ])
   (refine wpAnyH_take (i := 8) (v := .pointer (some ⟨RB, 0, none⟩)) rfl (by kernel_rfl) (by kernel_rfl) (by kernel_rfl) (fun _ _ _ h => h) (Or.inl ⟨by kernel_rfl, fun w hSw => by (try dsimp only at hSw); go_split_ands; go_simp⟩) (by assumption) ?_; simp only [Act.put, List.setIfInBounds_toArray, List.set_cons_zero, List.set_cons_succ])
   (refine wpAnyH_take (i := 9) (v := .pointer (some ⟨RB, 8, none⟩)) rfl (by kernel_rfl) (by kernel_rfl) (by kernel_rfl) (fun _ _ _ h => h) (Or.inl ⟨by kernel_rfl, fun w hSw => by (try dsimp only at hSw); go_split_ands; go_simp⟩) (by assumption) ?_; simp only [Act.put, List.setIfInBounds_toArray, List.set_cons_zero, List.set_cons_succ])
   (refine wpAnyH_take (i := 10) (v := .int .i64 (s1 : Int)) rfl (by kernel_rfl) (by kernel_rfl) (by kernel_rfl) (fun _ _ _ h => h) (Or.inl ⟨by kernel_rfl, fun w hSw => by (try dsimp only at hSw); go_split_ands; go_simp⟩) (by assumption) ?_; simp only [Act.put, List.setIfInBounds_toArray, List.set_cons_zero, List.set_cons_succ])
   refine wpAnyH_ready (rs := [6]) (by kernel_rfl) (by simp) (AllReadyH.cons rfl (fun K hK => ?_) AllReadyH.nil)
   go_simp
   go_at_call 106
   refine (H.out.1 _ hbD).mono ?_
   rintro e' w2 ⟨v2, rfl, ⟨hF, _⟩, hb2⟩
   have hb2' : Below W.heap.size W w2 := hbD.trans (hb2.mono (Nat.le_refl _))
   obtain ⟨va, vc, rfl, _⟩ := hF.v2.form
   have hS2 := hS _ hb2'
   have HF := Lib.hid (And.intro hF hb2'); clear hF hb2 hb2'
   dsimp only
   (refine hK.out _ _ hS2 (fun hHeld => ?_); clear hK K; (try simp only [Act.put, List.setIfInBounds_toArray, List.set_cons_zero, List.set_cons_succ]))
   (refine wpAnyH_ready (rs := [11]) (by kernel_rfl) (by simp) (AllReadyH.cons rfl (fun K hK => ?_) AllReadyH.nil); go_simp)
   (refine hK.out _ _ hS2 (fun hHeld => ?_); clear hK K; (try simp only [Act.put, List.setIfInBounds_toArray, List.set_cons_zero, List.set_cons_succ]))
   (refine wpAnyH_ready (rs := [12]) (by kernel_rfl) (by simp) (AllReadyH.cons rfl (fun K hK => ?_) AllReadyH.nil); go_simp)
   (refine hK.out _ _ hS2 (fun hHeld => ?_); clear hK K; (try simp only [Act.put, List.setIfInBounds_toArray, List.set_cons_zero, List.set_cons_succ]))
   (refine wpAnyH_ready (rs := [13]) (by kernel_rfl) (by simp) (AllReadyH.cons rfl (fun K hK => ?_) AllReadyH.nil); go_simp)
   (refine hK.out _ _ hS2 (fun hHeld => ?_); clear hK K; (try simp only [Act.put, List.setIfInBounds_toArray, List.set_cons_zero, List.set_cons_succ]))
   refine wpAnyH_done (by kernel_rfl) (NoPanic.normal ?_) _
   go_wp2_with fail
   go_ret3
   exact ⟨_, rfl, HF.out.1, HF.out.2⟩
set_option maxRecDepth 100000 in
set_option maxHeartbeats 1000000 in
theorem FindFromR_any {S S' : Nat → Prop} (m : Mk) (u v : Value) (t cuts : List (List Int)) (limit : Int) (W : World) (h : V2 S W u t) (hc : V2 S' W v cuts) (hcp : cuts = [] → PV v) :
  Calls Tryz.prog 67 #[.agg #[.int .i64 m.c, .int .i64 m.d, .int .i64 m.s, .int .i64 m.e, .int .i64 m.l, u], v, .int .i64 limit] W fun e' w' => ∃ v', e' = .returned (.tuple #[v', .int .i64 (findAns m t cuts limit).2.1, .int .i64 (findAns m t cuts limit).2.2]) ∧ V2 (fun b => b < w'.heap.size) w' v' (findAns m t cuts limit).1 ∧ Below W.heap.size W w' := by
 obtain ⟨a, c, rfl, hmx⟩ := h.form
 obtain ⟨a', c', rfl, hmx'⟩ := hc.form
 obtain ⟨W1, hW1, hB01, hz01, HZ01, hc01, hh01⟩ := box_facts W #[.int .i64 m.c, .int .i64 m.d, .int .i64 m.s, .int .i64 m.e, .int .i64 m.l, .slice a t.length c] 28
 have hV1 : V2 (fun _ => True) W1 (.slice a t.length c) t := (h.below hB01).any
 have hC1 : V2 (fun _ => True) W1 (.slice a' cuts.length c') cuts := (hc.below hB01).any
 by_cases hp : partC m t cuts = 0
 ·have hok : PartOk m t cuts := by obtain ⟨h1, h2, h3⟩ := partC_ok.1 hp; exact ⟨h1, h2, h3⟩
  have hmc := mc_nat hok.fits.ok
  have Hpc := Lib.hid hp
  cases hi : inB limit 0 4000
  ·have hfin : findAns m t cuts limit = ([], 0, 2) := by
    have h2 : searchC m t cuts limit = 2 := by unfold searchC; rw [if_neg (by rw [hp]; simp), if_pos (fun h => by rw [inB_iff.2 h] at hi; cases hi)]
    unfold findAns; rw [if_pos (by rw [h2]; decide), h2]
   rw [hfin]
   have Hi := Lib.hid (And.intro hi hfin); clear hi hfin hp hok hmc
   go_enter Tryz.func67, Tryz.ntmps67
   go_wp2_with fail
   rw [← hW1]
   refine (l16Code_any m _ _ t cuts W1 hV1 hC1).mono ?_
   rintro e' w2 ⟨rfl, hb2⟩
   rw [Hpc.out]
   have hz2 := hb2.size
   have hx2 : ∀ o, w2.cell? ⟨W.heap.size, o, none⟩ = (#[.int .i64 m.c, .int .i64 m.d, .int .i64 m.s, .int .i64 m.e, .int .i64 m.l, .slice a t.length c] : Array Value)[o]? := fun o => by rw [(bcell hb2).1 _ _ hz01, hc01]
   clear hc01 hh01
   go_wp2_with (go_at_call 103; refine (l01In_b _ _ _ _ _ Hi.out.1).mono ?_; rintro e' w' ⟨rfl, rfl⟩)
   go_ret3
   exact ⟨_, rfl, (F2.nil5 (B := 0)).v2.old, hB01.trans (hb2.mono (by omega))⟩
  ·have hlim := inB_iff.1 hi
   obtain ⟨L, rfl⟩ : ∃ L : Nat, limit = (L : Int) := ⟨limit.toNat, by omega⟩
   obtain ⟨r, hr⟩ : ∃ r, openP m.c.toNat t cuts = r := ⟨_, rfl⟩
   cases r
   ·have hfin : findAns m t cuts (L : Int) = ([], 0, 5) := by
     have h2 : searchC m t cuts (L : Int) = 5 := by unfold searchC; rw [if_neg (by rw [hp]; simp), if_neg (fun h => h hlim), if_pos (of_decide_eq_false hr)]
     unfold findAns; rw [if_pos (by rw [h2]; decide), h2]
    rw [hfin]
    have Hi := Lib.hid (And.intro hi (And.intro hr (And.intro hok (And.intro hmc hfin)))); clear hi hfin hp hr hlim hok hmc
    go_enter Tryz.func67, Tryz.ntmps67
    go_wp2_with fail
    rw [← hW1]
    refine (l16Code_any m _ _ t cuts W1 hV1 hC1).mono ?_
    rintro e' w2 ⟨rfl, hb2⟩
    rw [Hpc.out]
    have hz2 := hb2.size
    have hx2 : ∀ o, w2.cell? ⟨W.heap.size, o, none⟩ = (#[.int .i64 m.c, .int .i64 m.d, .int .i64 m.s, .int .i64 m.e, .int .i64 m.l, .slice a t.length c] : Array Value)[o]? := fun o => by rw [(bcell hb2).1 _ _ hz01, hc01]
    clear hc01 hh01
    go_wp2_with (first | (go_at_call 103; refine (l01In_b _ _ _ _ _ Hi.out.1).mono ?_; rintro e' w' ⟨rfl, rfl⟩) | (go_at_call 104; refine (l16Open_b m _ _ t cuts m.c.toNat _ false Hi.out.2.1 Hi.out.2.2.1.fits Hi.out.2.2.2.1 (hV1.below hb2) (hC1.below hb2)).mono ?_; rintro e' w3 ⟨rfl, hb3⟩))
    go_ret3
    exact ⟨_, rfl, (F2.nil5 (B := 0)).v2.old, hB01.trans ((hb2.trans (hb3.mono hz2)).mono (by omega))⟩
   ·have hop : falseL m.c.toNat t cuts = [] := List.length_eq_zero_iff.1 (of_decide_eq_true hr)
    have hfin : findAns m t cuts (L : Int) = pickA (firstF m.c.toNat t (keysOf m) cuts 1 L) := by
     unfold findAns; rw [if_neg (by rw [searchC_ok.2 ⟨hok, hlim, hop⟩]; decide)]; rfl
    have hdes := firstF_des (n := m.c.toNat) (most := 1) (limit := L) hok
    have hrun := fun (w : World) (cv : Value) (S3 : Nat → Prop) (h1 : V2 (fun _ => True) w (.slice a t.length c) t) (h2 : V2 S3 w cv cuts) (h3 : cuts = [] → PV cv) => l17Run_any m (.slice a t.length c) cv t cuts 1 L w h1 h2 h3 hok (by omega) (by omega)
    obtain ⟨q, hq⟩ : ∃ q, firstF m.c.toNat t (keysOf m) cuts 1 L = q := ⟨_, rfl⟩
    rw [hfin, hq]
    rw [hq] at hdes
    simp only [hq] at hrun
    have hfs := fun (RB B : Nat) (fv : Value) (w : World) (h : Sg m (.slice a t.length c) L 1 RB B q fv w) => l17First_any m (.slice a t.length c) t L 1 RB B q fv w h hdes
    obtain ⟨pk, hpk⟩ : ∃ p, pickA q = p := ⟨_, rfl⟩
    rw [hpk]
    simp only [hpk] at hfs
    have hf := hok.fits
    have hcl : cuts.length ≤ 1000 := by have := hf.rows; have := hf.few; omega
    have hck : ∀ k, k < cuts.length → (getl cuts k).length ≤ 1000 ∧ getl cuts k ≠ [] := fun k hk => by
     have h1 := hf.lens k hk
     have h2 := Mk.ok_iff.1 hf.ok
     exact ⟨by omega, fun e => by rw [e] at h1; simp at h1; omega⟩
    have Hi := Lib.hid (And.intro hi (And.intro hr (And.intro hok (And.intro hmc (And.intro hrun (And.intro hfs (And.intro hck (And.intro hq hpk)))))))); clear hi hfin hp hr hlim hok hmc hop hdes hrun hfs hck hf hq hpk
    go_enter Tryz.func67, Tryz.ntmps67
    go_wp2_with fail
    rw [← hW1]
    refine (l16Code_any m _ _ t cuts W1 hV1 hC1).mono ?_
    rintro e' w2 ⟨rfl, hb2⟩
    rw [Hpc.out]
    have hz2 := hb2.size
    have hx2 : ∀ o, w2.cell? ⟨W.heap.size, o, none⟩ = (#[.int .i64 m.c, .int .i64 m.d, .int .i64 m.s, .int .i64 m.e, .int .i64 m.l, .slice a t.length c] : Array Value)[o]? := fun o => by rw [(bcell hb2).1 _ _ hz01, hc01]
    clear hc01 hh01
    go_wp2_with (first | (go_at_call 103; refine (l01In_b _ _ _ _ _ Hi.out.1).mono ?_; rintro e' w' ⟨rfl, rfl⟩) | (go_at_call 104; refine (l16Open_b m _ _ t cuts m.c.toNat _ true Hi.out.2.1 Hi.out.2.2.1.fits Hi.out.2.2.2.1 (hV1.below hb2) (hC1.below hb2)).mono ?_; rintro e' w3 ⟨rfl, hb3⟩; have hx3 : ∀ o, w3.cell? ⟨W.heap.size, o, none⟩ = (#[.int .i64 m.c, .int .i64 m.d, .int .i64 m.s, .int .i64 m.e, .int .i64 m.l, .slice a t.length c] : Array Value)[o]? := (fun o => by rw [(bcell hb3).1 _ _ (by omega), hx2])))
    have hz3 := hb3.size
    have hb13 : Below W1.heap.size W1 w3 := hb2.trans (hb3.mono hz2)
    have hSk : ∀ w', Below w3.heap.size w3 w' → (w'.cell? ⟨W.heap.size, 0, none⟩ = some (.int .i64 m.c) ∧ w'.cell? ⟨W.heap.size, 1, none⟩ = some (.int .i64 m.d) ∧ w'.cell? ⟨W.heap.size, 2, none⟩ = some (.int .i64 m.s) ∧ w'.cell? ⟨W.heap.size, 3, none⟩ = some (.int .i64 m.e) ∧ w'.cell? ⟨W.heap.size, 4, none⟩ = some (.int .i64 m.l) ∧ w'.cell? ⟨W.heap.size, 5, none⟩ = some (.slice a t.length c)) := fun w' hb => by
     refine ⟨?_, ?_, ?_, ?_, ?_, ?_⟩ <;> rw [(bcell hb).1 _ _ (by omega), hx3] <;> rfl
    have hbD : Below w3.heap.size w3 w3.drew := (Below.refl _ _).drew
    have hS0 := hSk _ hbD
    clear hx2
    refine wp_region_noPanic ?_
    refine wp_region_held_drew (S := fun w' => w'.cell? ⟨W.heap.size, 0, none⟩ = some (.int .i64 m.c) ∧ w'.cell? ⟨W.heap.size, 1, none⟩ = some (.int .i64 m.d) ∧ w'.cell? ⟨W.heap.size, 2, none⟩ = some (.int .i64 m.s) ∧ w'.cell? ⟨W.heap.size, 3, none⟩ = some (.int .i64 m.e) ∧ w'.cell? ⟨W.heap.size, 4, none⟩ = some (.int .i64 m.l) ∧ w'.cell? ⟨W.heap.size, 5, none⟩ = some (.slice a t.length c)) (by kernel_rfl) hS0 (fun hHeld => ?_)
    (refine wpAnyH_take (i := 0) (v := .agg #[.int .i64 m.c, .int .i64 m.d, .int .i64 m.s, .int .i64 m.e, .int .i64 m.l, .slice a t.length c]) rfl (by kernel_rfl) (by kernel_rfl) (by kernel_rfl) (fun _ _ _ h => h) (Or.inl ⟨by kernel_rfl, fun w hSw => by (try dsimp only at hSw); go_split_ands; go_simp⟩) (by assumption) ?_; simp only [Act.put, List.setIfInBounds_toArray, List.set_cons_zero, List.set_cons_succ])
    (refine wpAnyH_take (i := 1) (v := .slice a' cuts.length c') rfl (by kernel_rfl) (by kernel_rfl) (by kernel_rfl) (fun _ _ _ h => h) (Or.inl ⟨by kernel_rfl, fun w hSw => by (try dsimp only at hSw); go_split_ands; go_simp⟩) (by assumption) ?_; simp only [Act.put, List.setIfInBounds_toArray, List.set_cons_zero, List.set_cons_succ])
    (refine wpAnyH_take (i := 3) (v := .int .i64 (L : Int)) rfl (by kernel_rfl) (by kernel_rfl) (by kernel_rfl) (fun _ _ _ h => h) (Or.inl ⟨by kernel_rfl, fun w hSw => by (try dsimp only at hSw); go_split_ands; go_simp⟩) (by assumption) ?_; simp only [Act.put, List.setIfInBounds_toArray, List.set_cons_zero, List.set_cons_succ])
    refine wpAnyH_ready (rs := [2]) (by kernel_rfl) (by simp) (AllReadyH.cons rfl (fun K hK => ?_) AllReadyH.nil)
    go_simp
    go_at_call 106
    refine (l15Lists_any _ cuts _ ((hC1.below hb13).below hbD) hcl Hi.out.2.2.2.2.2.2.1).mono ?_
    rintro e' w4 ⟨v4, rfl, ⟨hF4, hpv4⟩, hb4⟩
    have hb34 : Below w3.heap.size w3 w4 := hbD.trans (hb4.mono (Nat.le_refl _))
    have hz4 := hb34.size
    have hpv : cuts = [] → PV v4 := fun _ => hpv4
    obtain ⟨a4, c4, rfl, _⟩ := hF4.v2.form
    have hS4 := hSk _ hb34
    dsimp only
    (refine hK.out _ _ hS4 (fun hHeld => ?_); clear hK K; (try simp only [Act.put, List.setIfInBounds_toArray, List.set_cons_zero, List.set_cons_succ]))
    refine wpAnyH_ready (rs := [4]) (by kernel_rfl) (by simp) (AllReadyH.cons rfl (fun K hK => ?_) AllReadyH.nil)
    go_simp
    go_at_call 162
    refine (Hi.out.2.2.2.2.1 _ _ _ ((hV1.below hb13).below hb34) hF4.v2 hpv).mono ?_
    rintro e' w5 ⟨RB, fv, rfl, hG5, hb5⟩
    have hb35 : Below w3.heap.size w3 w5 := hb34.trans (hb5.mono hz4)
    have hz5 := hb35.size
    have hS5 := hSk _ hb35
    clear hF4
    dsimp only
    (refine hK.out _ _ hS5 (fun hHeld => ?_); clear hK K; (try simp only [Act.put, List.setIfInBounds_toArray, List.set_cons_zero, List.set_cons_succ]))
    refine wpAnyH_ready (rs := [5]) (by kernel_rfl) (by simp) (AllReadyH.cons rfl (fun K hK => ?_) AllReadyH.nil)
    go_simp
    go_at_call 107
    refine (Hi.out.2.2.2.2.2.1 _ _ _ _ hG5).mono ?_
    rintro e' w6 ⟨v6, rfl, hF6, hb6⟩
    have hb36 : Below w3.heap.size w3 w6 := hb35.trans (hb6.mono hz5)
    have hS6 := hSk _ hb36
    have HF := Lib.hid (And.intro hF6.v2.old (hB01.trans ((hb13.trans (hb36.mono hb13.size)).mono (by omega)))); clear hF6 hG5 hb36 hb35 hb34 hb6 hb5 hb4
    dsimp only
    (refine hK.out _ _ hS6 (fun hHeld => ?_); clear hK K; (try simp only [Act.put, List.setIfInBounds_toArray, List.set_cons_zero, List.set_cons_succ]))
    (refine wpAnyH_take (i := 6) (v := v6) rfl (by kernel_rfl) (by kernel_rfl) (by kernel_rfl) (fun _ _ _ h => h) (Or.inl ⟨by kernel_rfl, fun w hSw => by (try dsimp only at hSw); go_split_ands; go_simp⟩) (by assumption) ?_; simp only [Act.put, List.setIfInBounds_toArray, List.set_cons_zero, List.set_cons_succ])
    (refine wpAnyH_take (i := 7) (v := .int .i64 pk.2.1) rfl (by kernel_rfl) (by kernel_rfl) (by kernel_rfl) (fun _ _ _ h => h) (Or.inl ⟨by kernel_rfl, fun w hSw => by (try dsimp only at hSw); go_split_ands; go_simp⟩) (by assumption) ?_; simp only [Act.put, List.setIfInBounds_toArray, List.set_cons_zero, List.set_cons_succ])
    (refine wpAnyH_take (i := 8) (v := .int .i64 pk.2.2) rfl (by kernel_rfl) (by kernel_rfl) (by kernel_rfl) (fun _ _ _ h => h) (Or.inl ⟨by kernel_rfl, fun w hSw => by (try dsimp only at hSw); go_split_ands; go_simp⟩) (by assumption) ?_; simp only [Act.put, List.setIfInBounds_toArray, List.set_cons_zero, List.set_cons_succ])
    (refine wpAnyH_ready (rs := [9]) (by kernel_rfl) (by simp) (AllReadyH.cons rfl (fun K hK => ?_) AllReadyH.nil); go_simp)
    (refine hK.out _ _ hS6 (fun hHeld => ?_); clear hK K; (try simp only [Act.put, List.setIfInBounds_toArray, List.set_cons_zero, List.set_cons_succ]))
    (refine wpAnyH_ready (rs := [10]) (by kernel_rfl) (by simp) (AllReadyH.cons rfl (fun K hK => ?_) AllReadyH.nil); go_simp)
    (refine hK.out _ _ hS6 (fun hHeld => ?_); clear hK K; (try simp only [Act.put, List.setIfInBounds_toArray, List.set_cons_zero, List.set_cons_succ]))
    (refine wpAnyH_ready (rs := [11]) (by kernel_rfl) (by simp) (AllReadyH.cons rfl (fun K hK => ?_) AllReadyH.nil); go_simp)
    (refine hK.out _ _ hS6 (fun hHeld => ?_); clear hK K; (try simp only [Act.put, List.setIfInBounds_toArray, List.set_cons_zero, List.set_cons_succ]))
    refine wpAnyH_done (by kernel_rfl) (NoPanic.normal ?_) _
    go_wp2_with fail
    go_ret3
    exact ⟨_, rfl, HF.out.1, HF.out.2⟩
 ·have hfin : findAns m t cuts limit = ([], 0, partC m t cuts) := by
   have h2 : searchC m t cuts limit = partC m t cuts := by unfold searchC; rw [if_pos hp]
   unfold findAns; rw [h2, if_pos hp]
  have e1 : (partC m t cuts != 0) = true := by simp [hp]
  have e2 : (partC m t cuts == 0) = false := by simp [hp]
  rw [hfin]
  obtain ⟨pc, hpc⟩ : ∃ pc, partC m t cuts = pc := ⟨_, rfl⟩
  rw [hpc] at e1 e2 ⊢
  have Hpc := Lib.hid hpc; clear hpc hp hfin
  go_enter Tryz.func67, Tryz.ntmps67
  go_wp2_with fail
  rw [← hW1]
  refine (l16Code_any m _ _ t cuts W1 hV1 hC1).mono ?_
  rintro e' w2 ⟨rfl, hb2⟩
  rw [Hpc.out]
  have hz2 := hb2.size
  have hx2 : ∀ o, w2.cell? ⟨W.heap.size, o, none⟩ = (#[.int .i64 m.c, .int .i64 m.d, .int .i64 m.s, .int .i64 m.e, .int .i64 m.l, .slice a t.length c] : Array Value)[o]? := fun o => by rw [(bcell hb2).1 _ _ hz01, hc01]
  clear hc01 hh01
  clear hx2
  go_wp2_with fail
  go_ret3
  exact ⟨_, rfl, (F2.nil5 (B := 0)).v2.old, hB01.trans (hb2.mono (by omega))⟩
theorem partC_nil {m : Mk} {t : List (List Int)} : partC m t [] = if isSys m t = false then 1 else 0 := by
 unfold partC
 have h1 : allKeys m [] = true := allKeys_iff.2 fun k hk => by simp at hk
 rw [h1]
 simp
theorem searchC_nil {m : Mk} {t : List (List Int)} {limit : Int} : searchC m t [] limit = if isSys m t = false then 1 else if inB limit 0 4000 = false then 2 else 0 := by
 have hf : (falseL m.c.toNat t []).length = 0 := rfl
 unfold searchC
 rw [partC_nil]
 cases hs : isSys m t
 ·simp
 ·cases hi : inB limit 0 4000
  ·have h1 : ¬ (0 ≤ limit ∧ limit ≤ 4000) := fun h => by rw [inB_iff.2 h] at hi; cases hi
   simp [h1]
  ·have h1 := inB_iff.1 hi
   simp [h1, hf]
set_option maxRecDepth 100000 in
theorem l17Code_any {S : Nat → Prop} (m : Mk) (u : Value) (t : List (List Int)) (limit : Int) (W : World) (h : V2 S W u t) :
  Calls Tryz.prog 161 #[.agg #[.int .i64 m.c, .int .i64 m.d, .int .i64 m.s, .int .i64 m.e, .int .i64 m.l, u], .int .i64 limit] W fun e' w' => e' = .returned (.int .i64 (searchC m t [] limit)) ∧ Below W.heap.size W w' := by
 obtain ⟨a, c, rfl, hmx⟩ := h.form
 obtain ⟨W1, hW1, hB01, hz01, HZ01, hc01, hh01⟩ := box_facts W #[.int .i64 m.c, .int .i64 m.d, .int .i64 m.s, .int .i64 m.e, .int .i64 m.l, .slice a t.length c] 28
 have hV1 : V2 (fun _ => True) W1 (.slice a t.length c) t := (h.below hB01).any
 rw [searchC_nil]
 cases hs : isSys m t
 ·have Hs := Lib.hid hs; clear hs
  go_enter Tryz.func161, Tryz.ntmps161
  go_wp2_with fail
  rw [← hW1]
  refine (isSystemR_b m _ t _ _ Hs.out hV1).mono ?_
  rintro e' w2 ⟨rfl, hb2⟩
  clear hc01 hh01
  go_wp2_with fail
  go_ret
  exact ⟨rfl, hB01.trans (hb2.mono (by omega))⟩
 ·have Hs := Lib.hid hs; clear hs
  cases hi : inB limit 0 4000
  ·have Hi := Lib.hid hi; clear hi
   go_enter Tryz.func161, Tryz.ntmps161
   go_wp2_with fail
   rw [← hW1]
   refine (isSystemR_b m _ t _ _ Hs.out hV1).mono ?_
   rintro e' w2 ⟨rfl, hb2⟩
   clear hc01 hh01
   go_wp2_with (go_at_call 103; refine (l01In_b _ _ _ _ _ Hi.out).mono ?_; rintro e' w' ⟨rfl, rfl⟩)
   go_ret
   exact ⟨rfl, hB01.trans (hb2.mono (by omega))⟩
  ·have Hi := Lib.hid hi; clear hi
   go_enter Tryz.func161, Tryz.ntmps161
   go_wp2_with fail
   rw [← hW1]
   refine (isSystemR_b m _ t _ _ Hs.out hV1).mono ?_
   rintro e' w2 ⟨rfl, hb2⟩
   clear hc01 hh01
   go_wp2_with (go_at_call 103; refine (l01In_b _ _ _ _ _ Hi.out).mono ?_; rintro e' w' ⟨rfl, rfl⟩)
   go_ret
   exact ⟨rfl, hB01.trans (hb2.mono (by omega))⟩
set_option maxRecDepth 100000 in
set_option maxHeartbeats 1000000 in
theorem FindDesignR_any {S : Nat → Prop} (m : Mk) (u : Value) (t : List (List Int)) (limit : Int) (W : World) (h : V2 S W u t) :
  Calls Tryz.prog 64 #[.agg #[.int .i64 m.c, .int .i64 m.d, .int .i64 m.s, .int .i64 m.e, .int .i64 m.l, u], .int .i64 limit] W fun e' w' => ∃ v', e' = .returned (.tuple #[v', .int .i64 (findAns m t [] limit).2.1, .int .i64 (findAns m t [] limit).2.2]) ∧ F2 W.heap.size w' v' (findAns m t [] limit).1 ∧ Below W.heap.size W w' := by
 obtain ⟨a, c, rfl, hmx⟩ := h.form
 obtain ⟨W1, hW1, hB01, hz01, HZ01, hc01, hh01⟩ := box_facts W #[.int .i64 m.c, .int .i64 m.d, .int .i64 m.s, .int .i64 m.e, .int .i64 m.l, .slice a t.length c] 28
 have hV1 : V2 (fun _ => True) W1 (.slice a t.length c) t := (h.below hB01).any
 have hsc := l17Code_any m _ t limit W1 hV1
 by_cases hp : searchC m t [] limit = 0
 ·obtain ⟨hok, hlim, hop⟩ := searchC_ok.1 hp
  rw [hp] at hsc
  obtain ⟨L, rfl⟩ : ∃ L : Nat, limit = (L : Int) := ⟨limit.toNat, by omega⟩
  have hfin : findAns m t [] (L : Int) = pickA (firstF m.c.toNat t (keysOf m) [] 1 L) := by
   unfold findAns; rw [if_neg (by rw [hp]; simp)]; rfl
  have hdes := firstF_des (n := m.c.toNat) (most := 1) (limit := L) hok
  have hfd := fun w (hb : Below W1.heap.size W1 w) => l17Run_any m (.slice a t.length c) (.slice none 0 0) t [] 1 L w (hV1.below hb) (S' := fun _ => True) ⟨none, 0, rfl, Nat.le_refl _, Nat.zero_le _, fun k hk => by simp at hk⟩ (fun _ => .inl rfl) hok (by omega) (by omega)
  obtain ⟨q, hq⟩ : ∃ q, firstF m.c.toNat t (keysOf m) [] 1 L = q := ⟨_, rfl⟩
  rw [hfin, hq]
  rw [hq] at hdes
  simp only [hq] at hfd
  have hfs := fun (RB B : Nat) (fv : Value) (w : World) (h : Sg m (.slice a t.length c) L 1 RB B q fv w) => l17First_any m (.slice a t.length c) t L 1 RB B q fv w h hdes
  obtain ⟨pk, hpk⟩ : ∃ p, pickA q = p := ⟨_, rfl⟩
  rw [hpk]
  simp only [hpk] at hfs
  have H := Lib.hid (And.intro hsc (And.intro hfd (And.intro hfs (And.intro hq hpk)))); clear hsc hfd hfs hfin hp hok hlim hop hdes hq hpk
  go_enter Tryz.func64, Tryz.ntmps64
  go_wp2_with fail
  rw [← hW1]
  refine H.out.1.mono ?_
  rintro e' w2 ⟨rfl, hb2⟩
  have hz2 := hb2.size
  have hx2 : ∀ o, w2.cell? ⟨W.heap.size, o, none⟩ = (#[.int .i64 m.c, .int .i64 m.d, .int .i64 m.s, .int .i64 m.e, .int .i64 m.l, .slice a t.length c] : Array Value)[o]? := fun o => by rw [(bcell hb2).1 _ _ hz01, hc01]
  clear hc01 hh01
  go_wp2_with fail
  refine (H.out.2.1 _ hb2).mono ?_
  rintro e' w3 ⟨RB, fv, rfl, hG, hb3⟩
  have hz3 := hb3.size
  have HG := Lib.hid (And.intro hG hb3); clear hG hb3 hx2
  go_wp2_with fail
  refine (H.out.2.2.1 _ _ _ _ HG.out.1).mono ?_
  rintro e' w4 ⟨v4, rfl, hF, hb4⟩
  have HF := Lib.hid (And.intro (hF.mono (show W.heap.size ≤ w3.heap.size by omega)) (hB01.trans ((hb2.trans ((HG.out.2.trans (hb4.mono hz3)).mono hz2)).mono (by omega)))); clear hF hb4
  go_wp2_with fail
  go_ret3
  exact ⟨_, rfl, HF.out.1, HF.out.2⟩
 ·have hfin : findAns m t [] limit = ([], 0, searchC m t [] limit) := by unfold findAns; rw [if_pos hp]
  have e1 : (searchC m t [] limit != 0) = true := by simp [hp]
  have e2 : (searchC m t [] limit == 0) = false := by simp [hp]
  rw [hfin]
  have H := Lib.hid (And.intro hsc hfin); clear hsc hfin hp
  generalize searchC m t [] limit = pc at *
  go_enter Tryz.func64, Tryz.ntmps64
  go_wp2_with fail
  rw [← hW1]
  refine H.out.1.mono ?_
  rintro e' w2 ⟨rfl, hb2⟩
  have hz2 := hb2.size
  have hx2 : ∀ o, w2.cell? ⟨W.heap.size, o, none⟩ = (#[.int .i64 m.c, .int .i64 m.d, .int .i64 m.s, .int .i64 m.e, .int .i64 m.l, .slice a t.length c] : Array Value)[o]? := fun o => by rw [(bcell hb2).1 _ _ hz01, hc01]
  clear hc01 hh01
  clear hx2
  go_wp2_with fail
  go_ret3
  exact ⟨_, rfl, F2.nil5, hB01.trans (hb2.mono (by omega))⟩
theorem own_PV {w : World} {B : Nat} {e : TypeId} {v : Value} {n : Nat} {xs : List Value} (h : w.ownsRow B e 1 v n xs) : PV v := by
 rcases h.2 with ⟨rfl, _⟩ | ⟨g, cap, cur, rfl, _⟩
 ·exact .inl rfl
 ·exact .inr ⟨_, _, _, _, rfl⟩
end Go.Proofs.YtmaefilliggjiaaGreat
