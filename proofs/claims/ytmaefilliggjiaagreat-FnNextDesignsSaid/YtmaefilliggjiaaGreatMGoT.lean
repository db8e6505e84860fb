/- The reference's search for designs from a key on. No conditions. -/
import Derived.Test.YtmaefilliggjiaaGreatMGoC
import Derived.Test.YtmaefilliggjiaaGreatMDraw14
import Derived.Test.YtmaefilliggjiaaGreatMReasR
import Derived.Test.YtmaefilliggjiaaGreatMFindO
import Derived.Test.YtmaefilliggjiaaGreatMHullR
import Derived.Test.YtmaefilliggjiaaGreatMDraw1
import Derived.Test.YtmaefilliggjiaaGreatMEach5
import Derived.Test.YtmaefilliggjiaaGreatMRefFirst
import Derived.Test.YtmaefilliggjiaaGreatMKeys
namespace Go.Proofs.YtmaefilliggjiaaGreat
open Go.RowKit
set_option linter.unusedVariables false
set_option linter.unusedSimpArgs false
set_option maxRecDepth 100000 in
set_option maxHeartbeats 4000000 in
theorem l17Back_any (m : Mk) (t : List (List Int)) (n : Nat) (hn : (n : Int) = m.c) (tv : Value) (limit : Nat) (most : Int) (hmo : most ≤ 1000000) (RB B d : Nat) (cuts : List (List Int)) (cv bv : Value) (fr : List Int) (s : DSt) (fv0 : Value) (W : World) (hcd : cuts.length + (d + 1) = t.length)
  (hfk : isKeyB m fr = true) (hbv : V1 (fun b => ¬ RG RB fv0 b) W bv fr) (ask : SgAsk m t tv limit most RB B cuts cv s fv0 W) :
  Calls Tryz.prog 105 #[.pointer (some ⟨RB, 0, none⟩), cv, bv] W (SgPost m tv limit most RB B fv0 W (runL (goStep limit (stayP n t) (goF limit (stayP n t) (visK most) (keysOf m) d) cuts) s (behind m fr))) := by
 have ih := l17From_any m t n hn tv limit most hmo RB B d
 obtain ⟨hsg, ht, hc, hcp, hok, hac⟩ := ask
 have hok' := hok.fits.ok
 have hmk := Mk.ok_iff.1 hok'
 have hc0 : 0 ≤ m.c := by omega
 have hlt : cuts.length < t.length := by omega
 obtain ⟨ta, tc, rfl, htm⟩ := ht.form
 obtain ⟨ca, cc, rfl, hcm⟩ := hc.form
 have hkey : ∀ k, k ∈ keysOf m → isKeyB m k = true ∧ (k.length : Int) = m.c ∧ ∀ i, i < k.length → 0 ≤ geti k i ∧ geti k i ≤ 7 := fun k hk => by
  have h0 := (mem_keysOf hc0).1 hk
  have h1 := isKey_iff.1 h0
  refine ⟨h0, by omega, fun i hi => ?_⟩
  have := h1.2.1 _ (geti_mem hi)
  omega
 have e0 : ((cuts.length : Int) == (t.length : Int)) = false := by rw [beq_eq_false_iff_ne]; omega
 have hRl := lt_of_heap hsg.hh
 have htN := ht.mono (S' := fun b => ¬ RG RB fv0 b ∧ b < W.heap.size) (fun b h1 h2 => ⟨h1, h2⟩) (fun _ _ _ => rfl)
 have hcN := hc.mono (S' := fun b => ¬ RG RB fv0 b ∧ b < W.heap.size) (fun b h1 h2 => ⟨h1, h2⟩) (fun _ _ _ => rfl)
 obtain ⟨f, hf⟩ : ∃ f, f = goStep limit (stayP n t) (goF limit (stayP n t) (visK most) (keysOf m) d) cuts := ⟨_, rfl⟩
 obtain ⟨K, hK⟩ : ∃ K, K = behind m fr := ⟨_, rfl⟩
 obtain ⟨L0, hL0K⟩ : ∃ L0 : List (List Int), keysOf m = L0 ++ K := by
  obtain ⟨L1, L2, hL⟩ := List.append_of_mem ((mem_keysOf hc0).2 hfk)
  exact ⟨L1 ++ [fr], by rw [hK, keys_behind hc0 hL, hL]; simp⟩
 have hgo : runL (goStep limit (stayP n t) (goF limit (stayP n t) (visK most) (keysOf m) d) cuts) s (behind m fr) = runL f s K := by rw [hf, hK]
 rw [hgo]
 have hfkk := isKey_iff.1 hfk
 have hfne : (0 : Int) < (fr.length : Int) := by omega
 have hfrg : ∀ i, i < fr.length → 0 ≤ geti fr i ∧ geti fr i ≤ 7 := fun i hi => by
  have := hfkk.2.1 _ (geti_mem hi)
  omega
 obtain ⟨ba, bc, rfl, hbm⟩ := hbv.form
 have hnx := fun (w : World) (hb : Below W.heap.size W w) => l02Next_any m hok' (.slice ba fr.length bc) fr w (hbv.below hb) hfkk.1 hfrg
 rw [← hK] at hnx
 have Hnx := Lib.hid hnx; clear hnx hfkk hfrg hbv
 have hx0 : ∀ o, W.cell? ⟨RB, o, none⟩ = (#[.int .i64 m.c, .int .i64 m.d, .int .i64 m.s, .int .i64 m.e, .int .i64 m.l, .slice ta t.length tc, .int .i64 (limit : Int), .int .i64 most, .int .i64 (s.1 : Int), .bool s.2.1, fv0] : Array Value)[o]? := fun o => by rw [hsg.cell]; rfl
 have hfirst := l02First_any m hok' m.c.toNat (fun _ => False) (.slice none 0 0) []
 rw [genB_nil] at hfirst
 have hcc : ((m.c.toNat : Nat) : Int) = m.c := by omega
 have Hfirst := Lib.hid (And.intro hfirst hcc); clear hfirst hcc
 have Hkey := Lib.hid hkey; clear hkey
 have HL := Lib.hid hL0K; clear hL0K hK hgo
 have Hf := Lib.hid hf; clear hf
 have HA := Lib.hid (And.intro hsg (And.intro htN (And.intro hcN (And.intro hcp (And.intro hok (And.intro ih (And.intro hok' (And.intro hc0 (And.intro hlt hac))))))))); clear hsg htN hcN ht hc hcp hok ih hok' hc0 hmk hlt hac
 go_enter Tryz.func105, Tryz.ntmps105
 go_wp2_with fail
 refine (Hfirst.out.1 _ ⟨none, 0, rfl, Nat.le_refl _, Nat.zero_le _, fun k hk => by simp at hk⟩ (fun _ => .inl rfl) (by have := Hfirst.out.2; simp; omega) (fun k hk => by simp at hk)).mono ?_
 rintro e' wE ⟨kv0, he0, _, hbE⟩
 subst he0
 generalize (nextAns (keysOf m)).2 = ok0
 have hxE : ∀ o, wE.cell? ⟨RB, o, none⟩ = (#[.int .i64 m.c, .int .i64 m.d, .int .i64 m.s, .int .i64 m.e, .int .i64 m.l, .slice ta t.length tc, .int .i64 (limit : Int), .int .i64 most, .int .i64 (s.1 : Int), .bool s.2.1, fv0] : Array Value)[o]? := fun o => by rw [(bcell hbE).1 _ _ hRl, hx0]
 clear hx0
 go_wp2_with fail
 refine (Hnx.out _ hbE).mono ?_
 rintro e' wF ⟨kv, rfl, hkv, hbF0⟩
 have hbF := hbE.trans (hbF0.mono hbE.size)
 have hkv0 : (nextAns K).2 = true → V1 (fun b => ¬ RG RB fv0 b) wF kv (nextAns K).1 := fun hh => (hkv hh).mono (fun b h1 h2 hf => by
  have := HA.out.1.lt hf
  have := hbE.size
  rcases h1 with h1 | h1
  ·exact h1.elim
  ·omega) (fun _ _ _ => rfl)
 have hzF := hbF.size
 have HI := Lib.hid (And.intro hkv0 (And.intro (HA.out.1.below hbF) hbF)); clear hkv0 hkv hbF hbF0 hbE hxE
 go_wp2_with fail
 go_loopw [7, 8, 9] (fun kv okv _ wr => ∃ (L1 L2 : List (List Int)) (st : DSt) (fv : Value), K = L1 ++ L2 ∧ runL f s L1 = (st, true) ∧ okv = .bool (nextAns L2).2 ∧ ((nextAns L2).2 = true → V1 (fun b => ¬ RG RB fv b) wr kv (nextAns L2).1) ∧ Sg m (.slice ta t.length tc) limit most RB B st fv wr ∧ Chg (RG RB fv0) W wr ∧ (∀ b, RG RB fv b → RG RB fv0 b ∨ W.heap.size ≤ b) ∧ (st.2.2.length : Int) < most) (fun kv okv _ wr => toCome m wr kv okv)
 case atStart => exact ⟨[], K, s, fv0, rfl, rfl, rfl, HI.out.1, HI.out.2.1, Chg.of_below HI.out.2.2, fun b hb => .inl hb, HA.out.2.2.2.2.2.2.2.2.2⟩
 case round =>
  obtain ⟨L1, L2, st, fv, hL, hrun, hokv, hkv, hsg, hch, hsub, hact⟩ := hrel
  have hzr := hch.size
  have hr := hsg.cell
  have hfin : ∀ q, runL f s (L1 ++ L2) = q → runL f s K = q := fun q h => by rw [hL, h]
  cases L2 with
  | nil =>
    rw [List.append_nil] at hfin
    have hokv' : _ = Value.bool false := hokv
    subst hokv'
    have hres := hfin _ hrun
    have HZ := Lib.hid (And.intro hres (And.intro hsg (And.intro hch hsub))); clear hres hsg hkv hch hrun hL hfin hr hsub
    go_wp2_with fail
    go_ret
    rw [HZ.out.1]
    exact ⟨fv, rfl, HZ.out.2.1, HZ.out.2.2.1, HZ.out.2.2.2⟩
  | cons k r =>
    have hokv' : _ = Value.bool true := hokv
    subst hokv'
    have hrun' : runL f s L1 = (st, true) := hrun
    have hk1 := hkv rfl
    have hk1' : V1 (fun b => ¬ RG RB fv b) wr _ k := hk1
    have hLk : keysOf m = (L0 ++ L1) ++ k :: r := by rw [HL.out, hL]; simp
    obtain ⟨hkk, hkc, hkr⟩ := Hkey.out k (by rw [hLk]; simp)
    have hbeh := keys_behind HA.out.2.2.2.2.2.2.2.1 hLk
    obtain ⟨ka, kc, rfl, hkm⟩ := hk1'.form
    obtain ⟨fa, fc, rfl, hf1, hf2⟩ := hsg.form
    obtain ⟨s1, s2, sl⟩ := st
    dsimp only at *
    have hx : ∀ o, wr.cell? ⟨RB, o, none⟩ = (#[.int .i64 m.c, .int .i64 m.d, .int .i64 m.s, .int .i64 m.e, .int .i64 m.l, .slice ta t.length tc, .int .i64 (limit : Int), .int .i64 most, .int .i64 (s1 : Int), .bool s2, .slice fa sl.length fc] : Array Value)[o]? := fun o => by rw [hr]; rfl
    have hLk' : keysOf m = (L0 ++ L1 ++ [k]) ++ r := by rw [hLk]; simp
    have hL' : K = (L1 ++ [k]) ++ r := by rw [hL]; simp
    have HK := Lib.hid (And.intro hk1' (And.intro hkc (And.intro hkr (And.intro hbeh (And.intro hLk' hL'))))); clear hkv hk1 hk1' hkc hkr hbeh hLk' hL' hLk
    have HC := Lib.hid (And.intro hch (And.intro hsub hact))
    have hok := HA.out.2.2.2.2.1
    have hle := hsg.le
    have fR8 := frozen_of_block hsg.hh 8
    have fR9 := frozen_of_block hsg.hh 9
    clear hr
    by_cases hA : s1 = limit
    ·have e1 : ((s1 : Int) == (limit : Int)) = true := by rw [beq_iff_eq]; omega
     have hst : f (s1, s2, sl) k = ((s1, true, sl), false) := by rw [Hf.out]; unfold goStep; rw [if_pos hA]
     have hres := hfin _ (runL_stopat2 hrun' hst)
     obtain ⟨hP1, hP2⟩ := hsg.put (s' := (s1, true, sl)) (o := 9) (v := .bool true) (by simp [sgCells]) rfl hle.1
     have hCs := (hch.trans hP2 (fun i hi => hsub i hi))
     have HZ := Lib.hid (And.intro hres (And.intro hP1 (And.intro hCs hsub))); clear hres hsg hch hrun hrun' hL hfin hsub hP1 hP2 hst hCs
     go_wp2_with fail
     go_region
     all_goals
      go_wp2_with fail
      go_ret
      rw [HZ.out.1]
      exact ⟨_, rfl, HZ.out.2.1.below ((Below.refl _ _).drew), HZ.out.2.2.1.drew, HZ.out.2.2.2⟩
    ·have e1 : ((s1 : Int) == (limit : Int)) = false := by rw [beq_eq_false_iff_ne]; omega
     obtain ⟨w5, hw5⟩ : ∃ w5, w5 = (wr.setCell ⟨RB, 8, none⟩ (.int .i64 ((s1 : Int) + 1))).drew := ⟨_, rfl⟩
     obtain ⟨hP1, hP2⟩ := hsg.put (s' := (s1 + 1, s2, sl)) (o := 8) (v := .int .i64 ((s1 : Int) + 1)) (by simp [sgCells]) rfl (by show s1 + 1 ≤ limit; have := hle.1; have h1 : s1 ≤ limit := this; omega)
     have hS5 : Sg m (.slice ta t.length tc) limit most RB B (s1 + 1, s2, sl) (.slice fa sl.length fc) w5 := by rw [hw5]; exact hP1.below ((Below.refl _ _).drew)
     have hC5 : Chg (RG RB (.slice fa sl.length fc)) wr w5 := by rw [hw5]; exact hP2.drew
     have hfar : ∀ b, (¬ RG RB fv0 b ∧ b < W.heap.size) → ¬ RG RB (.slice fa sl.length fc) b := fun b hb h => by
      rcases HC.out.2.1 b h with h | h
      ·exact hb.1 h
      ·omega
     have hkpr : Keep (fun b => ¬ RG RB fv0 b ∧ b < W.heap.size) W w5 := (HC.out.1.trans hC5 (fun i hi => HC.out.2.1 i hi)).keep fun b hb => hb.1
     have ht5 : V2 (fun b => ¬ RG RB (.slice fa sl.length fc) b) w5 (.slice ta t.length tc) t := HA.out.2.1.mono (fun b hb _ => hfar b hb) hkpr
     have hc5 : V2 (fun b => ¬ RG RB (.slice fa sl.length fc) b) w5 (.slice ca cuts.length cc) cuts := HA.out.2.2.1.mono (fun b hb _ => hfar b hb) hkpr
     have hk5 : V1 (fun b => ¬ RG RB (.slice fa sl.length fc) b) w5 (.slice ka k.length kc) k := HK.out.1.mono (fun _ h _ => h) (hC5.keep fun b h => h)
     have hx5 : ∀ o, w5.cell? ⟨RB, o, none⟩ = (#[.int .i64 m.c, .int .i64 m.d, .int .i64 m.s, .int .i64 m.e, .int .i64 m.l, .slice ta t.length tc, .int .i64 (limit : Int), .int .i64 most, .int .i64 ((s1 : Int) + 1), .bool s2, .slice fa sl.length fc] : Array Value)[o]? := fun o => by rw [hS5.cell]; rfl
     have hcl : cuts.length ≤ 1000000 := by have := hok.fits.rows; have := hok.few; omega
     have hz5 := hC5.size
     obtain ⟨sb, hsb⟩ : ∃ sb, stayP n t cuts k = sb := ⟨_, rfl⟩
     have hstep : f (s1, s2, sl) k = if sb = true then goF limit (stayP n t) (visK most) (keysOf m) d (cuts ++ [k]) (s1 + 1, s2, sl) else ((s1 + 1, s2, sl), true) := by
      rw [Hf.out]; unfold goStep; rw [if_neg hA, hsb]
     have hlt := HA.out.2.2.2.2.2.2.2.2.1
     have hmore := hok.more hlt hkk
     have Hrun := Lib.hid (And.intro hrun' (And.intro hfin hL))
     have HS := Lib.hid (And.intro hS5 (And.intro hC5 (And.intro ht5 (And.intro hstep (And.intro hsb hmore))))); clear hS5 hC5 ht5 hsg hP1 hP2 hfar hkpr hstep hsb hA hrun hrun' hfin hL hch hsub hmore hok
     go_wp2_with fail
     go_region
     all_goals
      go_wp2_with fail
      rw [← hw5]
      clear hx
      refine (l16With_any _ _ cuts k _ hc5 HA.out.2.2.2.1 hk5 hcl).mono ?_
      rintro e' w6 ⟨nv, nvs, rfl, hown, hrv, hb6⟩
      have hN := own_V2S hown hrv
      obtain ⟨na, nc, rfl, hnm⟩ := hN.form
      have hz6 := hb6.size
      have hRl5 := lt_of_heap HS.out.1.hh
      have hx6 : ∀ o, w6.cell? ⟨RB, o, none⟩ = (#[.int .i64 m.c, .int .i64 m.d, .int .i64 m.s, .int .i64 m.e, .int .i64 m.l, .slice ta t.length tc, .int .i64 (limit : Int), .int .i64 most, .int .i64 ((s1 : Int) + 1), .bool s2, .slice fa sl.length fc] : Array Value)[o]? := fun o => by rw [(bcell hb6).1 _ _ hRl5, hx5]
      have hnl : (cuts ++ [k]).length = cuts.length + 1 := by simp
      rw [hnl] at hN
      have hopn := l16Open_b m (.slice ta t.length tc) (.slice na (cuts.length + 1) nc) t (cuts ++ [k]) n w6 sb HS.out.2.2.2.2.1 HS.out.2.2.2.2.2.fits hn (HS.out.2.2.1.below hb6) hN
      have HN := Lib.hid (And.intro hopn (And.intro hN hb6)); clear hopn hN hb6 hnl hown hrv hc5 hk5 hx5
      go_wp2_with fail
      refine HN.out.1.mono ?_
      rintro e' w7 ⟨rfl, hb7⟩
      have hb57 := HN.out.2.2.trans (hb7.mono hz6)
      have hz7 := hb57.size
      have hSg7 := HS.out.1.below hb57
      have hRl6 : RB < w6.heap.size := by omega
      have hx7 : ∀ o, w7.cell? ⟨RB, o, none⟩ = (#[.int .i64 m.c, .int .i64 m.d, .int .i64 m.s, .int .i64 m.e, .int .i64 m.l, .slice ta t.length tc, .int .i64 (limit : Int), .int .i64 most, .int .i64 ((s1 : Int) + 1), .bool s2, .slice fa sl.length fc] : Array Value)[o]? := fun o => by rw [(bcell hb7).1 _ _ hRl6, hx6]
      have hCz := HS.out.2.1.then_below hb57
      clear hx6
      cases sb
      ·have hst : f (s1, s2, sl) k = ((s1 + 1, s2, sl), true) := by rw [HS.out.2.2.2.1]; rfl
       have hrun' := Hrun.out.1
       have hSub : ∀ b, RG RB (.slice fa sl.length fc) b → RG RB (.slice fa sl.length fc) b ∨ wr.heap.size ≤ b := fun b hb => .inl hb
       have Hb := Lib.hid hb57; clear hb57 hb7
       have hkz : V1 (fun b => ¬ RG RB (.slice fa sl.length fc) b) w7 (.slice ka k.length kc) k := HK.out.1.mono (fun b h1 h2 h3 => by
        rcases hSub b h3 with h | h
        ·exact h1 h
        ·omega) (hCz.keep fun b h => h)
       have hrz := hSg7.cell
       obtain ⟨z1, z2, zl, hz⟩ : ∃ z1 z2 zl, (s1 + 1, s2, sl) = ((z1, z2, zl) : DSt) := ⟨_, _, _, rfl⟩
       have hxz : ∀ o, w7.cell? ⟨RB, o, none⟩ = (#[.int .i64 m.c, .int .i64 m.d, .int .i64 m.s, .int .i64 m.e, .int .i64 m.l, .slice ta t.length tc, .int .i64 (limit : Int), .int .i64 most, .int .i64 (z1 : Int), .bool z2, (.slice fa sl.length fc)] : Array Value)[o]? := fun o => by rw [hrz, hz]; rfl
       have hzz := hCz.size
       have hrn : runL f s (L1 ++ [k]) = ((s1 + 1, s2, sl), true) := by rw [runL_go f (by rw [hrun']), hrun', runL_one, hst]
       have hacz : (((s1 + 1, s2, sl) : DSt).2.2.length : Int) < most := HC.out.2.2
       have HZ := Lib.hid (And.intro hSg7 (And.intro hCz (And.intro hSub (And.intro hrn hacz)))); clear hrn hrz hz hacz hSg7 hCz hSub hst hrun' hx7
       go_wp2_with fail
       refine (l02Next_any m HA.out.2.2.2.2.2.2.1 _ k _ hkz HK.out.2.1 HK.out.2.2.1).mono ?_
       rintro e' wM ⟨kv', he', hkv', hbM⟩
       rw [HK.out.2.2.2.1] at he' hkv'
       subst he'
       have hkv2 : (nextAns r).2 = true → V1 (fun b => ¬ RG RB (.slice fa sl.length fc) b) wM kv' (nextAns r).1 := fun hh => (hkv' hh).mono (fun b h1 h2 hf => by
        have := HZ.out.1.lt hf
        rcases h1 with h1 | h1
        ·exact h1.elim
        ·omega) (fun _ _ _ => rfl)
       have HM := Lib.hid (And.intro hkv2 (And.intro (toCome_nextG HA.out.2.2.2.2.2.2.2.1 hkv2 HK.out.2.2.2.2.1) (toCome_more (m := m) HK.out.1))); clear hkv' hkv2 hxz
       obtain ⟨qb, hqb⟩ : ∃ qb, (nextAns r).2 = qb := ⟨_, rfl⟩
       rw [hqb]
       have Hqb := Lib.hid hqb; clear hqb
       go_wp2_with fail
       go_roundw
       case rel => exact ⟨L1 ++ [k], r, (s1 + 1, s2, sl), (.slice fa sl.length fc), HK.out.2.2.2.2.2, HZ.out.2.2.2.1, by rw [Hqb.out], HM.out.1, HZ.out.1.below hbM, (HC.out.1.trans HZ.out.2.1 (fun i hi => HC.out.2.1 i hi)).then_below hbM, fun b hb => by
        rcases HZ.out.2.2.1 b hb with h | h
        ·exact HC.out.2.1 b h
        ·right; omega, HZ.out.2.2.2.2⟩
       case measure => rw [HM.out.2.2, HK.out.2.2.2.1]; have := HM.out.2.1; rw [Hqb.out] at this; omega
      ·have hst : f (s1, s2, sl) k = goF limit (stayP n t) (visK most) (keysOf m) d (cuts ++ [k]) (s1 + 1, s2, sl) := by rw [HS.out.2.2.2.1]; rfl
       have hact2 : (goF limit (stayP n t) (visK most) (keysOf m) d (cuts ++ [k]) (s1 + 1, s2, sl)).2 = true → ((goF limit (stayP n t) (visK most) (keysOf m) d (cuts ++ [k]) (s1 + 1, s2, sl)).1.2.2.length : Int) < most := fun h => goF_act (act := fun l : List (List (List Int)) => (l.length : Int) < most) visK_still (s := (s1 + 1, s2, sl)) HC.out.2.2 h
       have IHr := HA.out.2.2.2.2.2.1 (cuts ++ [k]) (.slice na (cuts.length + 1) nc) (s1 + 1, s2, sl) (.slice fa sl.length fc) w7 (by simp; omega)
        ⟨hSg7, (HS.out.2.2.1.below hb57), (HN.out.2.1.below hb7).mono (fun b hb hlt hf => by
          have h1 := HS.out.1.lt hf
          rcases hb with (hb | hb) | hb
          ·exact hb hf
          ·exact hb hf
          ·omega) (fun _ _ _ => rfl), fun e => by simp at e, HS.out.2.2.2.2.2, HC.out.2.2⟩
       obtain ⟨rr, hrr⟩ : ∃ q, goF limit (stayP n t) (visK most) (keysOf m) d (cuts ++ [k]) (s1 + 1, s2, sl) = q := ⟨_, rfl⟩
       rw [hrr] at IHr hst hact2
       obtain ⟨rs, rb⟩ := rr
       have HIr := Lib.hid (And.intro IHr (And.intro hst (And.intro hact2 (And.intro hCz hb57)))); clear IHr hst hact2 hrr hCz hSg7 hb57 hb7
       cases rb
       ·go_wp2_with fail
        refine HIr.out.1.mono ?_
        rintro e' wq ⟨fv2, rfl, h1, h2, h3⟩
        have hCq := HC.out.1.trans (HIr.out.2.2.2.1.trans h2 (fun i hi => .inl hi)) (fun i hi => HC.out.2.1 i hi)
        have hSq : ∀ b, RG RB fv2 b → RG RB fv0 b ∨ W.heap.size ≤ b := fun b hb => by
         rcases h3 b hb with h | h
         ·exact HC.out.2.1 b h
         ·right; omega
        have hres := Hrun.out.2.1 _ (runL_stopat2 Hrun.out.1 HIr.out.2.1)
        have HZ := Lib.hid (And.intro h1 (And.intro hCq (And.intro hSq hres))); clear h1 h2 h3 hCq hSq hres hx7
        go_wp2_with fail
        go_ret
        rw [HZ.out.2.2.2]
        exact ⟨fv2, rfl, HZ.out.1, HZ.out.2.1, HZ.out.2.2.1⟩
       ·go_wp2_with fail
        refine HIr.out.1.mono ?_
        rintro e' wq ⟨fv2, rfl, h1, h2, h3⟩
        have hCq := HIr.out.2.2.2.1.trans h2 (fun i hi => .inl hi)
        have hSq : ∀ b, RG RB fv2 b → RG RB (.slice fa sl.length fc) b ∨ wr.heap.size ≤ b := fun b hb => by
         rcases h3 b hb with h | h
         ·exact .inl h
         ·right; omega
        have hrun' := Hrun.out.1
        have hst := HIr.out.2.1
        have hkz : V1 (fun b => ¬ RG RB fv2 b) wq (.slice ka k.length kc) k := HK.out.1.mono (fun b h1 h2 h3 => by
         rcases hSq b h3 with h | h
         ·exact h1 h
         ·omega) (hCq.keep fun b h => h)
        have hrz := h1.cell
        obtain ⟨z1, z2, zl, hz⟩ : ∃ z1 z2 zl, rs = ((z1, z2, zl) : DSt) := ⟨_, _, _, rfl⟩
        have hxz : ∀ o, wq.cell? ⟨RB, o, none⟩ = (#[.int .i64 m.c, .int .i64 m.d, .int .i64 m.s, .int .i64 m.e, .int .i64 m.l, .slice ta t.length tc, .int .i64 (limit : Int), .int .i64 most, .int .i64 (z1 : Int), .bool z2, fv2] : Array Value)[o]? := fun o => by rw [hrz, hz]; rfl
        have hzz := hCq.size
        have hrn : runL f s (L1 ++ [k]) = (rs, true) := by rw [runL_go f (by rw [hrun']), hrun', runL_one, hst]
        have hacz : ((rs : DSt).2.2.length : Int) < most := (HIr.out.2.2.1 trivial)
        have HZ := Lib.hid (And.intro h1 (And.intro hCq (And.intro hSq (And.intro hrn hacz)))); clear hrn hrz hz hacz h1 h2 h3 hCq hSq hst hrun' hx7
        go_wp2_with fail
        refine (l02Next_any m HA.out.2.2.2.2.2.2.1 _ k _ hkz HK.out.2.1 HK.out.2.2.1).mono ?_
        rintro e' wM ⟨kv', he', hkv', hbM⟩
        rw [HK.out.2.2.2.1] at he' hkv'
        subst he'
        have hkv2 : (nextAns r).2 = true → V1 (fun b => ¬ RG RB fv2 b) wM kv' (nextAns r).1 := fun hh => (hkv' hh).mono (fun b h1 h2 hf => by
         have := HZ.out.1.lt hf
         rcases h1 with h1 | h1
         ·exact h1.elim
         ·omega) (fun _ _ _ => rfl)
        have HM := Lib.hid (And.intro hkv2 (And.intro (toCome_nextG HA.out.2.2.2.2.2.2.2.1 hkv2 HK.out.2.2.2.2.1) (toCome_more (m := m) HK.out.1))); clear hkv' hkv2 hxz
        obtain ⟨qb, hqb⟩ : ∃ qb, (nextAns r).2 = qb := ⟨_, rfl⟩
        rw [hqb]
        have Hqb := Lib.hid hqb; clear hqb
        go_wp2_with fail
        go_roundw
        case rel => exact ⟨L1 ++ [k], r, rs, fv2, HK.out.2.2.2.2.2, HZ.out.2.2.2.1, by rw [Hqb.out], HM.out.1, HZ.out.1.below hbM, (HC.out.1.trans HZ.out.2.1 (fun i hi => HC.out.2.1 i hi)).then_below hbM, fun b hb => by
         rcases HZ.out.2.2.1 b hb with h | h
         ·exact HC.out.2.1 b h
         ·right; omega, HZ.out.2.2.2.2⟩
        case measure => rw [HM.out.2.2, HK.out.2.2.2.1]; have := HM.out.2.1; rw [Hqb.out] at this; omega
def nextDAns (m : Mk) (t cuts : List (List Int)) (limit : Int) : List (List Int) × Int :=
 if searchC m t cuts limit ≠ 0 then ([], searchC m t cuts limit) else if cuts.length < t.length then ([], 5)
 else ((pickA (nextF m m.c.toNat t cuts limit.toNat cuts.length (0, false, []))).1, (pickA (nextF m m.c.toNat t cuts limit.toNat cuts.length (0, false, []))).2.2)
/-! ### The beginning of open cuts is open -/
theorem doorCuts_step (t cuts : List (List Int)) (d k : Nat) : doorCuts t cuts d (k + 1) = if geti (getl t k) d = 1 then doorCuts t cuts d k ++ [getl cuts k] else doorCuts t cuts d k := rfl
theorem doorCuts_take {t cuts : List (List Int)} {d r : Nat} : ∀ {k : Nat}, k ≤ r → doorCuts t (cuts.take r) d k = doorCuts t cuts d k
 | 0, _ => rfl
 | k + 1, h => by rw [doorCuts_step, doorCuts_step, doorCuts_take (by omega), getl_take (by omega)]
theorem doorCuts_mono {t cuts : List (List Int)} {d k : Nat} {x : List Int} (h : x ∈ doorCuts t cuts d k) : ∀ j, x ∈ doorCuts t cuts d (k + j)
 | 0 => h
 | j + 1 => by
   have h1 := doorCuts_mono h j
   show x ∈ doorCuts t cuts d ((k + j) + 1)
   rw [doorCuts_step]
   split
   ·exact List.mem_append.2 (.inl h1)
   ·exact h1
theorem open_take {n : Nat} {t cuts : List (List Int)} {r : Nat} (hlc : ∀ k, k < cuts.length → (getl cuts k).length = n) (h : falseL n t cuts = []) : falseL n t (cuts.take r) = [] := by
 refine List.eq_nil_iff_forall_not_mem.2 fun x hx => ?_
 obtain ⟨i, d, hi, hd, rfl, ha, ho⟩ := mem_falseRows.1 hx
 rw [List.length_take] at hi
 rw [locksTo_get hd] at ho
 have h1 : [(i : Int), (d : Int)] ∈ falseL n t cuts := mem_falseRows.2 ⟨i, d, by omega, hd, rfl, ha, by
  rw [locksTo_get hd]
  rw [getl_take (by omega)] at ho
  rw [opensB_iff] at ho ⊢
  intro c hc
  have hcn : c < n := by rw [← hlc i (by omega)]; exact hc
  obtain ⟨k, hk, e⟩ := (mem_lock hcn).1 (ho c hc)
  refine (mem_lock hcn).2 ⟨k, ?_, e⟩
  rw [doorCuts_take (by rw [List.length_take]; omega)] at hk
  have h2 := doorCuts_mono hk (cuts.length - (cuts.take r).length)
  rw [show (cuts.take r).length + (cuts.length - (cuts.take r).length) = cuts.length by rw [List.length_take]; omega] at h2
  exact h2⟩
 rw [h] at h1
 cases h1
theorem PartOk.take {m : Mk} {t cuts : List (List Int)} (h : PartOk m t cuts) (r : Nat) : PartOk m t (cuts.take r) := by
 have hf := h.few
 refine ⟨h.sys, by rw [List.length_take]; omega, allKeys_iff.2 fun k hk => ?_⟩
 rw [List.length_take] at hk
 rw [getl_take (by omega)]
 exact allKeys_iff.1 h.keys k (by omega)
theorem behind_isKey {m : Mk} {fr x : List Int} (hc : 0 ≤ m.c) (hk : isKeyB m fr = true) (hx : x ∈ behind m fr) : isKeyB m x = true := by
 obtain ⟨L1, L2, hL⟩ := List.append_of_mem ((mem_keysOf hc).2 hk)
 rw [keys_behind hc hL] at hx
 exact (mem_keysOf hc).1 (by rw [hL]; simp [hx])
theorem backF_des {m : Mk} {n : Nat} {t cuts : List (List Int)} {limit row : Nat} {s : DSt} (h : PartOk m t cuts) (hr : row < cuts.length) (hs : ∀ x ∈ s.2.2, DesOk m t x) : ∀ x ∈ (backF m n t cuts limit row s).1.2.2, DesOk m t x := by
 have hm := Mk.ok_iff.1 h.fits.ok
 have hf := h.few
 have hl : (cuts.take row).length = row := by rw [List.length_take]; omega
 have hd : DesOk m t (cuts.take row) := ⟨h.take row, by omega⟩
 exact goF_des.goL_des (by omega) (by omega) hd _ (fun k hk => behind_isKey (by omega) (allKeys_iff.1 h.keys row hr) hk) (fun key s hk hs => goF_des (by omega) (by simp; omega) ⟨hd.part.more (by omega) hk, by simp; omega⟩ hs) s hs
theorem nextF_des {m : Mk} {n : Nat} {t cuts : List (List Int)} {limit : Nat} (h : PartOk m t cuts) : ∀ {r : Nat} {s : DSt}, r ≤ cuts.length → (∀ x ∈ s.2.2, DesOk m t x) → ∀ x ∈ (nextF m n t cuts limit r s).2.2, DesOk m t x
 | 0, s, _, hs => hs
 | r + 1, s, hr, hs => by
   have h1 := backF_des (n := n) (limit := limit) h (show r < cuts.length by omega) hs
   unfold nextF
   split
   ·exact nextF_des h (by omega) h1
   ·exact h1
/-- If the limit was met, nothing is found. -/
def exK (s : DSt) : Prop := s.2.1 = true → s.2.2 = []
theorem actK.ex {s : DSt} (h : actK s) : exK s := fun _ => h.2
theorem runL_exK {f : DSt → List Int → DSt × Bool} (ha : ∀ s k, actK s → ((f s k).2 = true ↔ actK (f s k).1)) (hf : ∀ s k, actK s → exK (f s k).1) : ∀ (l : List (List Int)) (s : DSt), actK s → exK (runL f s l).1
 | [], s, h => h.ex
 | k :: l, s, h => by
   unfold runL
   by_cases hk : (f s k).2 = true
   ·rw [if_pos hk]; exact runL_exK ha hf l _ ((ha s k h).1 hk)
   ·rw [if_neg hk]; exact hf s k h
theorem goStep_exK {limit : Nat} {stay : List (List Int) → List Int → Bool} {rec : List (List Int) → DSt → DSt × Bool} (hr : ∀ c s, actK s → exK (rec c s).1) {cuts : List (List Int)} {s : DSt} {key : List Int} (h : actK s) : exK (goStep limit stay rec cuts s key).1 := by
 unfold goStep
 split
 ·exact fun _ => h.2
 ·split
  ·exact hr _ _ h
  ·exact fun h2 => by have h3 : s.2.1 = true := h2; rw [h.1] at h3; cases h3
theorem goF_exK {limit : Nat} {stay : List (List Int) → List Int → Bool} {keys : List (List Int)} : ∀ {d : Nat} {cuts : List (List Int)} {s : DSt}, actK s → exK (goF limit stay (visK 1) keys d cuts s).1
 | 0, cuts, s, h => fun h2 => by have h3 : s.2.1 = true := h2; rw [h.1] at h3; cases h3
 | d + 1, cuts, s, h => runL_exK (fun s k hs => goStep_actK (fun c s hs => goF_actK hs) hs) (fun s k hs => goStep_exK (fun c s hs => goF_exK hs) hs) keys s h
theorem backF_exK {m : Mk} {n : Nat} {t cuts : List (List Int)} {limit row : Nat} {s : DSt} (h : actK s) : exK (backF m n t cuts limit row s).1 :=
 runL_exK (fun s k hs => goStep_actK (fun c s hs => goF_actK hs) hs) (fun s k hs => goStep_exK (fun c s hs => goF_exK hs) hs) _ s h
/-- Going back row by row: where the walk stands. -/
def NextAt (m : Mk) (n : Nat) (t cuts : List (List Int)) (limit : Nat) (res : DSt) (r : Nat) (s : DSt) : Prop :=
 (actK s ∧ res = nextF m n t cuts limit r s) ∨ (¬ actK s ∧ res = s)
theorem NextAt.step {m : Mk} {n : Nat} {t cuts : List (List Int)} {limit : Nat} {res : DSt} {r : Nat} {s : DSt} (h : NextAt m n t cuts limit res (r + 1) s) (ha : actK s) : NextAt m n t cuts limit res r (backF m n t cuts limit r s).1 := by
 rcases h with ⟨_, h⟩ | ⟨h, _⟩
 ·have h1 := backF_actK (m := m) (n := n) (t := t) (cuts := cuts) (limit := limit) (row := r) ha
  unfold nextF at h
  by_cases hb : (backF m n t cuts limit r s).2 = true
  ·rw [if_pos hb] at h
   exact .inl ⟨h1.1 hb, h⟩
  ·rw [if_neg hb] at h
   exact .inr ⟨fun hh => hb (h1.2 hh), h⟩
 ·exact absurd ha h
theorem NextAt.last {m : Mk} {n : Nat} {t cuts : List (List Int)} {limit : Nat} {res : DSt} {s : DSt} (h : NextAt m n t cuts limit res 0 s) : res = s := by
 rcases h with ⟨_, h⟩ | ⟨_, h⟩ <;> exact h
theorem NextAt.stop {m : Mk} {n : Nat} {t cuts : List (List Int)} {limit : Nat} {res : DSt} {r : Nat} {s : DSt} (h : NextAt m n t cuts limit res r s) (hn : ¬ actK s) : res = s := by
 rcases h with ⟨h, _⟩ | ⟨_, h⟩
 ·exact absurd h hn
 ·exact h
set_option maxRecDepth 100000 in
set_option maxHeartbeats 2000000 in
theorem NextDesignRf_any {S S' : Nat → Prop} (m : Mk) (u v : Value) (t cuts : List (List Int)) (limit : Int) (W : World) (h : V2 S W u t) (hc : V2 S' W v cuts) (hcp : cuts = [] → PV v) :
  Calls Tryz.prog 15 #[.agg #[.int .i64 m.c, .int .i64 m.d, .int .i64 m.s, .int .i64 m.e, .int .i64 m.l, u], v, .int .i64 limit] W fun e' w' => ∃ v', e' = .returned (.tuple #[v', .int .i64 (nextDAns m t cuts limit).2]) ∧ F2 W.heap.size w' v' (nextDAns m t cuts limit).1 ∧ Below W.heap.size W w' := by
 obtain ⟨a, c, rfl, hmx⟩ := h.form
 obtain ⟨a', c', rfl, hmx'⟩ := hc.form
 obtain ⟨W1, hW1, hB01, hz01, HZ01, hc01, hh01⟩ := box_facts W #[.int .i64 m.c, .int .i64 m.d, .int .i64 m.s, .int .i64 m.e, .int .i64 m.l, .slice a t.length c] 28
 have hV1 : V2 (fun _ => True) W1 (.slice a t.length c) t := (h.below hB01).any
 have hC1 : V2 (fun _ => True) W1 (.slice a' cuts.length c') cuts := (hc.below hB01).any
 by_cases hp : partC m t cuts = 0
 ·have hok : PartOk m t cuts := by obtain ⟨h1, h2, h3⟩ := partC_ok.1 hp; exact ⟨h1, h2, h3⟩
  have hmc := mc_nat hok.fits.ok
  have Hpc := Lib.hid hp
  cases hi : inB limit 0 4000
  ·have hfin : nextDAns m t cuts limit = ([], 2) := by
    have h2 : searchC m t cuts limit = 2 := by unfold searchC; rw [if_neg (by rw [hp]; simp), if_pos (fun h => by rw [inB_iff.2 h] at hi; cases hi)]
    unfold nextDAns; rw [if_pos (by rw [h2]; decide), h2]
   rw [hfin]
   have Hi := Lib.hid (And.intro hi hfin); clear hi hfin hp hok hmc
   go_enter Tryz.func15, Tryz.ntmps15
   go_wp2_with fail
   rw [← hW1]
   refine (l16Code_any m _ _ t cuts W1 hV1 hC1).mono ?_
   rintro e' w2 ⟨rfl, hb2⟩
   rw [Hpc.out]
   have hz2 := hb2.size
   have hx2 : ∀ o, w2.cell? ⟨W.heap.size, o, none⟩ = (#[.int .i64 m.c, .int .i64 m.d, .int .i64 m.s, .int .i64 m.e, .int .i64 m.l, .slice a t.length c] : Array Value)[o]? := fun o => by rw [(bcell hb2).1 _ _ hz01, hc01]
   clear hc01 hh01
   go_wp2_with (go_at_call 103; refine (l01In_b _ _ _ _ _ Hi.out.1).mono ?_; rintro e' w' ⟨rfl, rfl⟩)
   go_ret2
   exact ⟨_, rfl, F2.nil5, hB01.trans (hb2.mono (by omega))⟩
  ·have hlim := inB_iff.1 hi
   obtain ⟨L, rfl⟩ : ∃ L : Nat, limit = (L : Int) := ⟨limit.toNat, by omega⟩
   by_cases hlt : cuts.length < t.length
   ·have hfin : nextDAns m t cuts (L : Int) = ([], 5) := by
     unfold nextDAns
     by_cases hs : searchC m t cuts (L : Int) = 0
     ·rw [if_neg (by rw [hs]; simp), if_pos hlt]
     ·have h2 : searchC m t cuts (L : Int) = 5 := by
       unfold searchC at hs ⊢
       rw [if_neg (by rw [hp]; simp), if_neg (fun h => h hlim)] at hs ⊢
       by_cases h3 : (falseL m.c.toNat t cuts).length ≠ 0
       ·rw [if_pos h3]
       ·rw [if_neg h3] at hs; exact absurd rfl hs
      rw [if_pos hs, h2]
    rw [hfin]
    have hn1 : ((cuts.length : Int) != (t.length : Int)) = true := by rw [bne_iff_ne]; omega
    have Hi := Lib.hid (And.intro hi hfin); clear hi hfin hp hlim hok hmc hlt
    go_enter Tryz.func15, Tryz.ntmps15
    go_wp2_with fail
    rw [← hW1]
    refine (l16Code_any m _ _ t cuts W1 hV1 hC1).mono ?_
    rintro e' w2 ⟨rfl, hb2⟩
    rw [Hpc.out]
    have hz2 := hb2.size
    have hx2 : ∀ o, w2.cell? ⟨W.heap.size, o, none⟩ = (#[.int .i64 m.c, .int .i64 m.d, .int .i64 m.s, .int .i64 m.e, .int .i64 m.l, .slice a t.length c] : Array Value)[o]? := fun o => by rw [(bcell hb2).1 _ _ hz01, hc01]
    clear hc01 hh01
    go_wp2_with (go_at_call 103; refine (l01In_b _ _ _ _ _ Hi.out.1).mono ?_; rintro e' w' ⟨rfl, rfl⟩)
    go_ret2
    exact ⟨_, rfl, F2.nil5, hB01.trans (hb2.mono (by omega))⟩
   ·have hfew := hok.few
    have hcl : cuts.length = t.length := by omega
    have hn1 : ((cuts.length : Int) != (t.length : Int)) = false := by rw [bne_eq_false_iff_eq]; omega
    obtain ⟨r, hr⟩ : ∃ r, openP m.c.toNat t cuts = r := ⟨_, rfl⟩
    cases r
    ·have hfin : nextDAns m t cuts (L : Int) = ([], 5) := by
      have h2 : searchC m t cuts (L : Int) = 5 := by unfold searchC; rw [if_neg (by rw [hp]; simp), if_neg (fun h => h hlim), if_pos (of_decide_eq_false hr)]
      unfold nextDAns; rw [if_pos (by rw [h2]; decide), h2]
     rw [hfin]
     have Hi := Lib.hid (And.intro hi (And.intro hr (And.intro hok (And.intro hmc hfin)))); clear hi hfin hp hr hlim hok hmc hcl hlt hfew
     go_enter Tryz.func15, Tryz.ntmps15
     go_wp2_with fail
     rw [← hW1]
     refine (l16Code_any m _ _ t cuts W1 hV1 hC1).mono ?_
     rintro e' w2 ⟨rfl, hb2⟩
     rw [Hpc.out]
     have hz2 := hb2.size
     have hx2 : ∀ o, w2.cell? ⟨W.heap.size, o, none⟩ = (#[.int .i64 m.c, .int .i64 m.d, .int .i64 m.s, .int .i64 m.e, .int .i64 m.l, .slice a t.length c] : Array Value)[o]? := fun o => by rw [(bcell hb2).1 _ _ hz01, hc01]
     clear hc01 hh01
     go_wp2_with (first | (go_at_call 103; refine (l01In_b _ _ _ _ _ Hi.out.1).mono ?_; rintro e' w' ⟨rfl, rfl⟩) | (go_at_call 104; refine (l16Open_b m _ _ t cuts m.c.toNat _ false Hi.out.2.1 Hi.out.2.2.1.fits Hi.out.2.2.2.1 (hV1.below hb2) (hC1.below hb2)).mono ?_; rintro e' w3 ⟨rfl, hb3⟩))
     go_ret2
     exact ⟨_, rfl, F2.nil5, hB01.trans ((hb2.trans (hb3.mono hz2)).mono (by omega))⟩
    ·have hop : falseL m.c.toNat t cuts = [] := List.length_eq_zero_iff.1 (of_decide_eq_true hr)
     have hfin : nextDAns m t cuts (L : Int) = ((pickA (nextF m m.c.toNat t cuts L cuts.length (0, false, []))).1, (pickA (nextF m m.c.toNat t cuts L cuts.length (0, false, []))).2.2) := by
      unfold nextDAns; rw [if_neg (by rw [searchC_ok.2 ⟨hok, hlim, hop⟩]; decide), if_neg hlt]; rfl
     rw [hfin]
     have hdes := nextF_des (n := m.c.toNat) (limit := L) hok (Nat.le_refl _) (s := (0, false, [])) (fun x hx => by cases hx)
     obtain ⟨res, hres⟩ : ∃ r, nextF m m.c.toNat t cuts L cuts.length (0, false, []) = r := ⟨_, rfl⟩
     rw [hres] at hdes ⊢
     have hat : NextAt m m.c.toNat t cuts L res cuts.length (0, false, []) := .inl ⟨⟨rfl, rfl⟩, hres.symm⟩
     have hlen6 : cuts.length ≤ 10 := by have := hok.fits.rows; omega
     have Hdes := Lib.hid hdes; clear hdes
     have Hi := Lib.hid (And.intro hi (And.intro hr (And.intro hok (And.intro hmc (And.intro hop (And.intro hcl (And.intro hat (And.intro hlim hfin)))))))); clear hi hfin hp hr hlim hok hmc hop hcl hat hres hlt hfew
     go_enter Tryz.func15, Tryz.ntmps15
     go_wp2_with fail
     rw [← hW1]
     refine (l16Code_any m _ _ t cuts W1 hV1 hC1).mono ?_
     rintro e' w2 ⟨rfl, hb2⟩
     rw [Hpc.out]
     have hz2 := hb2.size
     have hx2 : ∀ o, w2.cell? ⟨W.heap.size, o, none⟩ = (#[.int .i64 m.c, .int .i64 m.d, .int .i64 m.s, .int .i64 m.e, .int .i64 m.l, .slice a t.length c] : Array Value)[o]? := fun o => by rw [(bcell hb2).1 _ _ hz01, hc01]
     clear hc01 hh01
     go_wp2_with (first | (go_at_call 103; refine (l01In_b _ _ _ _ _ Hi.out.1).mono ?_; rintro e' w' ⟨rfl, rfl⟩) | (go_at_call 104; refine (l16Open_b m _ _ t cuts m.c.toNat _ true Hi.out.2.1 Hi.out.2.2.1.fits Hi.out.2.2.2.1 (hV1.below hb2) (hC1.below hb2)).mono ?_; rintro e' w3 ⟨rfl, hb3⟩; have hz3 := hb3.size; have hx3 : ∀ o, w3.cell? ⟨W.heap.size, o, none⟩ = (#[.int .i64 m.c, .int .i64 m.d, .int .i64 m.s, .int .i64 m.e, .int .i64 m.l, .slice a t.length c] : Array Value)[o]? := (fun o => by rw [(bcell hb3).1 _ _ (by omega), hx2])))
     have hb13 : Below W1.heap.size W1 w3 := hb2.trans (hb3.mono hz2)
     have hb3W : Below W.heap.size W w3 := hB01.trans (hb13.mono (by omega))
     obtain ⟨WA, hWA⟩ : ∃ WA, WA = w3.alloc (.cells #[.int .i64 m.c, .int .i64 m.d, .int .i64 m.s, .int .i64 m.e, .int .i64 m.l, .slice a t.length c, .int .i64 (L : Int), .int .i64 1, .int .i64 0, .bool false, .slice none 0 0] 109) := ⟨_, rfl⟩
     have hbA : Below w3.heap.size w3 WA := by rw [hWA]; exact by (repeat (first | (with_reducible refine Below.setCell ?_ ?_ _) | (with_reducible refine Below.alloc ?_ ?_ _) | (with_reducible refine Below.drew ?_) | (with_reducible refine below_drewN ?_ _) | (with_reducible exact Below.refl _ _) | (with_reducible assumption) | (with_reducible refine Below.trans ?_ (Below.mono (by with_reducible assumption) ?_)) | go_size))
     have hzA : WA.heap.size = w3.heap.size + 1 := by rw [hWA]; simp
     have hA1 : WA.heap[w3.heap.size]? = some (.cells (sgCells m (.slice a t.length c) (.slice none 0 0) L 1 (0, false, [])) 109 (0, 0)) := by rw [hWA]; simp only [heap_alloc_at]; simp [sgCells]
     have hSg : Sg m (.slice a t.length c) L 1 w3.heap.size W.heap.size (0, false, []) (.slice none 0 0) WA :=
      ⟨hA1, ⟨[], ⟨rfl, .inl ⟨rfl, rfl⟩⟩, fun k hk => by simp at hk⟩, by simp [Value.ownBlock], ⟨Nat.zero_le _, by have := Hi.out.2.2.2.2.2.2.2.1; omega⟩, by have := hb3W.size; omega⟩
     have hlo0 : ∀ b, RG w3.heap.size (.slice none 0 0) b → w3.heap.size ≤ b := fun b hb => by
      rcases hb with rfl | hb
      ·exact Nat.le_refl _
      ·simp [Value.ownBlock] at hb
     have hbWA : Below W.heap.size W WA := hb3W.trans (hbA.mono hb3W.size)
     have HA := Lib.hid (And.intro hSg (And.intro hlo0 (And.intro hbWA (And.intro hWA hbA)))); clear hSg hlo0 hbWA hA1 hbA hWA hb3W
     clear hx2
     rw [← HA.out.2.2.2.1]
     clear hx3
     go_loopw [10] (fun i wr => ∃ (r : Nat) (z : Int) (s : DSt) (fv : Value), r ≤ cuts.length ∧ Hid (z = (r : Int) - 1) ∧ i = .int .i64 z ∧ NextAt m m.c.toNat t cuts L res r s ∧ actK s ∧ Sg m (.slice a t.length c) L 1 w3.heap.size W.heap.size s fv wr ∧ (∀ b, RG w3.heap.size fv b → w3.heap.size ≤ b) ∧ Below W.heap.size W wr ∧ Below w3.heap.size w3 wr) (fun i _ => (intOf i + 1).toNat)
     case atStart => exact ⟨cuts.length, _, (0, false, []), _, Nat.le_refl _, Lib.hid rfl, rfl, Hi.out.2.2.2.2.2.2.1, ⟨rfl, rfl⟩, HA.out.1, HA.out.2.1, HA.out.2.2.1, HA.out.2.2.2.2⟩
     case round =>
      obtain ⟨r, z, ⟨s1, s2, sl⟩, fv, hr, Hz, rfl, hat, ha, hG, hlo, hB, hB2⟩ := hrel
      have hzr := hB.size
      have hzr2 := hB2.size
      by_cases hr0 : r = 0
      ·subst hr0
       have hz : z < 0 := by have := Hz.out; omega
       have hzd : decide (0 ≤ z) = false := decide_eq_false (by omega)
       have hl := hat.last
       obtain ⟨pk, hpk⟩ : ∃ p, pickA (s1, s2, sl) = p := ⟨_, rfl⟩
       have hfs := l17First_any m (.slice a t.length c) t L 1 _ _ (s1, s2, sl) _ _ hG (by rw [← hl]; exact Hdes.out)
       rw [hpk] at hfs
       have hpk2 : pickA res = pk := by rw [hl, hpk]
       have Hend := Lib.hid (And.intro hfs (And.intro hpk2 hB)); clear hfs hpk2 hpk
       go_wp2_with fail
       refine Hend.out.1.mono ?_
       rintro e' wz ⟨vz, rfl, hFz, hbz⟩
       have hBe := Hend.out.2.2
       have HF := Lib.hid (And.intro (hFz.mono hBe.size) (hBe.trans (hbz.mono hBe.size))); clear hFz hBe
       go_wp2_with fail
       go_ret2
       rw [Hend.out.2.1]
       exact ⟨_, rfl, HF.out.1, HF.out.2⟩
      ·obtain ⟨k, rfl⟩ : ∃ k, r = k + 1 := ⟨r - 1, by omega⟩
       have hzk : z = (k : Int) := by have := Hz.out; omega
       subst hzk
       have hstep := hat.step ha
       have hback := backF_actK (m := m) (n := m.c.toNat) (t := t) (cuts := cuts) (limit := L) (row := k) ha
       have ha2 : sl = [] := ha.2
       subst ha2
       have hok := Hi.out.2.2.1
       have hcl := Hi.out.2.2.2.2.2.1
       have hmc := Hi.out.2.2.2.1
       have hCr : V2 (fun b => b < w3.heap.size) wr (.slice a' cuts.length c') cuts := ((hC1.below hb13).old.below hB2)
       have hVr : V2 (fun b => b < w3.heap.size) wr (.slice a t.length c) t := ((hV1.below hb13).old.below hB2)
       have hcap := hCr.cap
       have hkc : ¬ c' < k := by omega
       have hkn : ¬ cuts.length ≤ k := by omega
       obtain ⟨cb, co, ra, rc, rfl, hcbS, hcc, hcr⟩ := hCr.cell (k := k) (by omega)
       have hkk := allKeys_iff.1 hok.keys k (by omega)
       have hTk := hCr.take (n := k) (by omega)
       have hno : ∀ b, b < w3.heap.size → ¬ RG w3.heap.size fv b := fun b hb h => by have := hlo b h; omega
       have hll := l15Lists_any (.slice (some ⟨cb, co, none⟩) k c') (cuts.take k) wr.drew hTk (by rw [List.length_take]; omega) (fun j hj => by
        rw [List.length_take] at hj
        rw [getl_take (by omega)]
        have h1 := hok.fits.lens j (by omega)
        have h2 := Mk.ok_iff.1 hok.fits.ok
        exact ⟨by omega, fun e => by rw [e] at h1; simp at h1; omega⟩)
       have hback2 := fun (w4 : World) (cv : Value) (hb4 : Below wr.heap.size wr w4) (hF : F2 wr.heap.size w4 cv (cuts.take k)) (hpv : PV cv) =>
        l17Back_any m t m.c.toNat hmc (.slice a t.length c) L 1 (by omega) w3.heap.size W.heap.size (t.length - k - 1) (cuts.take k) cv (.slice ra (getl cuts k).length rc) (getl cuts k) (s1, s2, []) fv w4 (by rw [List.length_take]; omega) hkk ((hcr.mono (fun b h1 _ => hno b h1) (fun _ _ _ => rfl)).below hb4)
         ⟨hG.below hb4, (hVr.mono (fun b h1 _ => hno b h1) (fun _ _ _ => rfl)).below hb4, hF.v2.mono (fun b h1 _ h2 => by have := hG.lt h2; omega) (fun _ _ _ => rfl), fun _ => hpv, hok.take k, by show ((0 : Nat) : Int) < 1; decide⟩
       obtain ⟨q, hq⟩ : ∃ q, backF m m.c.toNat t cuts L k (s1, s2, []) = q := ⟨_, rfl⟩
       have hq2 : runL (goStep L (stayP m.c.toNat t) (goF L (stayP m.c.toNat t) (visK 1) (keysOf m) (t.length - k - 1)) (cuts.take k)) (s1, s2, []) (behind m (getl cuts k)) = q := hq
       rw [hq2] at hback2
       obtain ⟨ck, hck⟩ : ∃ ck, cuts.take k = ck := ⟨_, rfl⟩
       rw [hck] at hback2 hll
       rw [hq] at hstep hback
       have hge : decide (0 ≤ (k : Int)) = true := decide_eq_true (by omega)
       have hS0 : wr.drew.cell? ⟨cb, co + k, none⟩ = some (.slice ra (getl cuts k).length rc) := hcc
       have HK := Lib.hid (And.intro hback2 (And.intro hstep (And.intro hback (And.intro hlo (And.intro hB (And.intro hB2 hcbS))))))
       have Hll := Lib.hid hll
       clear hback2 hstep hback hlo hB hB2 hCr hVr hcr hTk hck hq hq2 hG hkk hno ha hcl hcap hmc hok hat Hz hll
       go_wp2_with fail
       refine wp_region_noPanic ?_
       refine wp_region_held_drew (S := fun w' => w'.cell? ⟨cb, co + k, none⟩ = some (.slice ra (getl cuts k).length rc)) (by kernel_rfl) hS0 (fun hHeld => ?_)
       (refine wpAnyH_take (i := 0) (v := .pointer (some ⟨w3.heap.size, 0, none⟩)) rfl (by kernel_rfl) (by kernel_rfl) (by kernel_rfl) (fun _ _ _ h => h) (Or.inl ⟨by kernel_rfl, fun w hSw => by (try dsimp only at hSw); go_split_ands; go_simp⟩) (by assumption) ?_; simp only [Act.put, List.setIfInBounds_toArray, List.set_cons_zero, List.set_cons_succ])
       (refine wpAnyH_take (i := 1) (v := .slice (some ⟨cb, co, none⟩) cuts.length c') rfl (by kernel_rfl) (by kernel_rfl) (by kernel_rfl) (fun _ _ _ h => h) (Or.inl ⟨by kernel_rfl, fun w hSw => by (try dsimp only at hSw); go_split_ands; go_simp⟩) (by assumption) ?_; simp only [Act.put, List.setIfInBounds_toArray, List.set_cons_zero, List.set_cons_succ])
       (refine wpAnyH_take (i := 2) (v := .int .i64 (k : Int)) rfl (by kernel_rfl) (by kernel_rfl) (by kernel_rfl) (fun _ _ _ h => h) (Or.inl ⟨by kernel_rfl, fun w hSw => by (try dsimp only at hSw); go_split_ands; go_simp⟩) (by assumption) ?_; simp only [Act.put, List.setIfInBounds_toArray, List.set_cons_zero, List.set_cons_succ])
       (refine wpAnyH_take (i := 3) (v := .slice (some ⟨cb, co, none⟩) k c') rfl (by kernel_rfl) (by kernel_rfl) (by kernel_rfl) (fun _ _ _ h => h) (Or.inl ⟨by kernel_rfl, fun w hSw => by (try dsimp only at hSw); go_split_ands; go_simp⟩) (by assumption) ?_; simp only [Act.put, List.setIfInBounds_toArray, List.set_cons_zero, List.set_cons_succ])
       (refine wpAnyH_take (i := 5) (v := .slice (some ⟨cb, co, none⟩) cuts.length c') rfl (by kernel_rfl) (by kernel_rfl) (by kernel_rfl) (fun _ _ _ h => h) (Or.inl ⟨by kernel_rfl, fun w hSw => by (try dsimp only at hSw); go_split_ands; go_simp⟩) (by assumption) ?_; simp only [Act.put, List.setIfInBounds_toArray, List.set_cons_zero, List.set_cons_succ])
       (refine wpAnyH_take (i := 6) (v := .int .i64 (k : Int)) rfl (by kernel_rfl) (by kernel_rfl) (by kernel_rfl) (fun _ _ _ h => h) (Or.inl ⟨by kernel_rfl, fun w hSw => by (try dsimp only at hSw); go_split_ands; go_simp⟩) (by assumption) ?_; simp only [Act.put, List.setIfInBounds_toArray, List.set_cons_zero, List.set_cons_succ])
       (refine wpAnyH_take (i := 7) (v := .pointer (some ⟨cb, co + k, none⟩)) rfl (by kernel_rfl) (by kernel_rfl) (by kernel_rfl) (fun _ _ _ h => h) (Or.inl ⟨by kernel_rfl, fun w hSw => by (try dsimp only at hSw); go_split_ands; go_simp⟩) (by assumption) ?_; simp only [Act.put, List.setIfInBounds_toArray, List.set_cons_zero, List.set_cons_succ])
       (refine wpAnyH_take (i := 8) (v := .slice ra (getl cuts k).length rc) rfl (by kernel_rfl) (by kernel_rfl) (by kernel_rfl) (fun _ _ _ h => h) (Or.inl ⟨by kernel_rfl, fun w hSw => by (try dsimp only at hSw); go_split_ands; go_simp⟩) (by assumption) ?_; simp only [Act.put, List.setIfInBounds_toArray, List.set_cons_zero, List.set_cons_succ])
       refine wpAnyH_ready (rs := [4]) (by kernel_rfl) (by simp) (AllReadyH.cons rfl (fun K hK => ?_) AllReadyH.nil)
       go_simp
       go_at_call 106
       refine Hll.out.mono ?_
       rintro e' w4 ⟨v4, rfl, ⟨hF4, hpv4⟩, hb4⟩
       have hb4' : Below wr.heap.size wr w4 := ((Below.refl wr.heap.size wr).drew).trans (hb4.mono (Nat.le_refl _))
       have hS4 : w4.cell? ⟨cb, co + k, none⟩ = some (.slice ra (getl cuts k).length rc) := cell_keep hcc (hb4'.block _ (lt_of_cell hcc))
       have hz4 := hb4'.size
       have hgo := HK.out.1 w4 v4 hb4' hF4 hpv4
       obtain ⟨a4, c4, rfl, _⟩ := hF4.v2.form
       have HG4 := Lib.hid (And.intro hgo hb4'); clear hgo hF4 hpv4 hb4 hb4'
       dsimp only
       (refine hK.out _ _ hS4 (fun hHeld => ?_); clear hK K; (try simp only [Act.put, List.setIfInBounds_toArray, List.set_cons_zero, List.set_cons_succ]))
       refine wpAnyH_ready (rs := [9]) (by kernel_rfl) (by simp) (AllReadyH.cons rfl (fun K hK => ?_) AllReadyH.nil)
       go_simp
       refine HG4.out.1.mono ?_
       rintro e' wq ⟨fv2, rfl, g1, g2, g3⟩
       have hlo := HK.out.2.2.2.1
       have hcb := lt_of_cell hcc
       have hcb2 : cb < w3.heap.size := HK.out.2.2.2.2.2.2
       have hSq : wq.cell? ⟨cb, co + k, none⟩ = some (.slice ra (getl cuts k).length rc) := cell_keep hS4 (g2.block cb (lt_of_cell hS4) (fun h => by have h1 := hlo cb h; omega))
       have hlo' : ∀ b, RG w3.heap.size fv2 b → w3.heap.size ≤ b := fun b hb => by
        rcases g3 b hb with h | h
        ·exact hlo b h
        ·omega
       have hBq2 : Below w3.heap.size w3 wq := (HK.out.2.2.2.2.2.1.trans (HG4.out.2.mono hzr2)).trans (g2.to_below (B := w3.heap.size) hlo (by omega))
       have hz3W := hb13.size
       have hBq : Below W.heap.size W wq := (HK.out.2.2.2.2.1.trans (HG4.out.2.mono hzr)).trans (g2.to_below (B := W.heap.size) (fun b hb => by have := hlo b hb; omega) (by omega))
       have HF := Lib.hid (And.intro g1 (And.intro hlo' (And.intro hBq hBq2))); clear g1 g2 g3 hlo' hBq hBq2 hlo
       obtain ⟨q1, qb⟩ := q
       dsimp only
       (refine hK.out _ _ hSq (fun hHeld => ?_); clear hK K; (try simp only [Act.put, List.setIfInBounds_toArray, List.set_cons_zero, List.set_cons_succ]))
       refine wpAnyH_done (by kernel_rfl) (NoPanic.normal ?_) _
       cases qb
       ·have hna : ¬ actK q1 := fun hh => by have := HK.out.2.2.1.2 hh; cases this
        have hl : res = q1 := HK.out.2.1.stop hna
        have hG9 := HF.out.1
        have hB9 := HF.out.2.2.1
        clear hna
        obtain ⟨pk, hpk⟩ : ∃ p, pickA q1 = p := ⟨_, rfl⟩
        have hfs := l17First_any m (.slice a t.length c) t L 1 _ _ q1 _ _ hG9 (by rw [← hl]; exact Hdes.out)
        rw [hpk] at hfs
        have hpk2 : pickA res = pk := by rw [hl, hpk]
        have Hend := Lib.hid (And.intro hfs (And.intro hpk2 hB9)); clear hfs hpk2 hpk
        go_wp2_with fail
        refine Hend.out.1.mono ?_
        rintro e' wz ⟨vz, rfl, hFz, hbz⟩
        have hBe := Hend.out.2.2
        have HF := Lib.hid (And.intro (hFz.mono hBe.size) (hBe.trans (hbz.mono hBe.size))); clear hFz hBe
        go_wp2_with fail
        go_ret2
        rw [Hend.out.2.1]
        exact ⟨_, rfl, HF.out.1, HF.out.2⟩
       ·have hac := HK.out.2.2.1.1 rfl
        have Hac := Lib.hid hac; clear hac
        go_wp2_with fail
        go_roundw
        case rel => exact ⟨k, _, q1, fv2, by omega, Lib.hid rfl, by go_num, HK.out.2.1, Hac.out, HF.out.1, HF.out.2.1, HF.out.2.2.1, HF.out.2.2.2⟩
        case measure => simp [intOf]; try omega
 ·have hfin : nextDAns m t cuts limit = ([], partC m t cuts) := by
   have h2 : searchC m t cuts limit = partC m t cuts := by unfold searchC; rw [if_pos hp]
   unfold nextDAns; rw [h2, if_pos hp]
  have e1 : (partC m t cuts != 0) = true := by simp [hp]
  have e2 : (partC m t cuts == 0) = false := by simp [hp]
  rw [hfin]
  obtain ⟨pc, hpc⟩ : ∃ pc, partC m t cuts = pc := ⟨_, rfl⟩
  rw [hpc] at e1 e2 ⊢
  have Hpc := Lib.hid hpc; clear hpc hp hfin
  go_enter Tryz.func15, Tryz.ntmps15
  go_wp2_with fail
  rw [← hW1]
  refine (l16Code_any m _ _ t cuts W1 hV1 hC1).mono ?_
  rintro e' w2 ⟨rfl, hb2⟩
  rw [Hpc.out]
  have hz2 := hb2.size
  have hx2 : ∀ o, w2.cell? ⟨W.heap.size, o, none⟩ = (#[.int .i64 m.c, .int .i64 m.d, .int .i64 m.s, .int .i64 m.e, .int .i64 m.l, .slice a t.length c] : Array Value)[o]? := fun o => by rw [(bcell hb2).1 _ _ hz01, hc01]
  clear hc01 hh01
  clear hx2
  go_wp2_with fail
  go_ret2
  exact ⟨_, rfl, F2.nil5, hB01.trans (hb2.mono (by omega))⟩
theorem NextDesignR_any {S S' : Nat → Prop} (m : Mk) (u v : Value) (t cuts : List (List Int)) (limit : Int) (W : World) (h : V2 S W u t) (hc : V2 S' W v cuts) (hcp : cuts = [] → PV v) :
  Calls Tryz.prog 15 #[.agg #[.int .i64 m.c, .int .i64 m.d, .int .i64 m.s, .int .i64 m.e, .int .i64 m.l, u], v, .int .i64 limit] W fun e' w' => ∃ v', e' = .returned (.tuple #[v', .int .i64 (nextDAns m t cuts limit).2]) ∧ V2 (fun b => b < w'.heap.size) w' v' (nextDAns m t cuts limit).1 ∧ Below W.heap.size W w' :=
 (NextDesignRf_any m u v t cuts limit W h hc hcp).mono fun _ _ ⟨v', h1, h2, h3⟩ => ⟨v', h1, h2.v2.old, h3⟩
/-- What a draw of a system and a number from a code answers. -/
def DrawFi (W : World) (e : Ending) (w' : World) : Prop :=
 ∃ (m : Mk) (u : Value) (T : List (List Int)) (n : Int), e = .returned (.tuple #[.agg #[.int .i64 m.c, .int .i64 m.d, .int .i64 m.s, .int .i64 m.e, .int .i64 m.l, u], .int .i64 n]) ∧ V2 (fun b => W.heap.size ≤ b) w' u T ∧ Below W.heap.size W w'
set_option maxRecDepth 100000 in
set_option maxHeartbeats 2000000 in
theorem DrawFindDesign_any {S : Nat → Prop} (v : Value) (l : List Int) (W : World) (h : VB S W v l) :
  Calls Tryz.prog 63 #[v] W (DrawFi W) := by
 obtain ⟨a, c, rfl, hm⟩ := h.form
 obtain ⟨W1, hW1, hB01, hz01, HZ01, _, hh01⟩ := box_facts W #[.int .i64 0, .int .i64 0, .int .i64 0, .int .i64 0, .int .i64 0, .slice none 0 0] 28
 have hz1e := HZ01.out
 have hz1l : W1.heap.size ≤ W.heap.size + 1 := by omega
 have HL := Lib.hid (And.intro (h.below hB01) (And.intro hB01 (And.intro hh01 hW1))); clear h hh01 hB01 hz1e
 go_enter Tryz.func63, Tryz.ntmps63
 go_wp2_with fail
 rw [← HL.out.2.2.2]
 clear hW1
 refine (l01From_any _ l W1 HL.out.1).mono ?_
 rintro e' w2 ⟨rfl, hs2, hb2⟩
 have hz2 := hb2.size
 have H2 := Lib.hid (And.intro hs2 (And.intro hb2 ((hb2.block _ hz01).trans HL.out.2.2.1))); clear hs2 hb2
 go_wp2_with fail
 refine (l17Draw_any W1.heap.size W1.heap.size w2 H2.out.1).mono ?_
 rintro e' w3 ⟨m, u, T, rfl, hsm, hu, hT12, hs3, ho3⟩
 have hz3 := ho3.size
 have hz23 : W1.heap.size < w2.heap.size := H2.out.1.lt
 obtain ⟨ta, tc, rfl, _⟩ := hu.form
 have hRw := ho3.heap H2.out.2.2 (fun e => by omega)
 have hBw : Below W.heap.size W w3 := HL.out.2.1.trans ((H2.out.2.1.trans (ho3.to_below (Nat.le_refl _) (by omega))).mono (by omega))
 obtain ⟨w4, hw4⟩ : ∃ w4, w4 = w3.alloc (.cells #[.int .i64 m.c, .int .i64 m.d, .int .i64 m.s, .int .i64 m.e, .int .i64 m.l, .slice ta T.length tc] 28) := ⟨_, rfl⟩
 have hb34 : Below w3.heap.size w3 w4 := by rw [hw4]; exact (Below.refl _ _).alloc (Nat.le_refl _) _
 have hM4 : w4.heap[w3.heap.size]? = some (.cells #[.int .i64 m.c, .int .i64 m.d, .int .i64 m.s, .int .i64 m.e, .int .i64 m.l, .slice ta T.length tc] 28 (0, 0)) := by rw [hw4]; exact heap_alloc_self _ _
 have hz4 : w3.heap.size < w4.heap.size := lt_of_heap hM4
 have H4 := Lib.hid (And.intro (hs3.below hb34) (And.intro (hBw.trans (hb34.mono (by omega))) (And.intro hM4 (And.intro ((hb34.block _ (by omega)).trans hRw) (And.intro (hu.below hb34) hw4))))); clear hs3 ho3 hRw hBw hb34 hM4 hu hsm hw4 hT12
 have hcM : ∀ o, w4.cell? ⟨w3.heap.size, o, none⟩ = (#[.int .i64 m.c, .int .i64 m.d, .int .i64 m.s, .int .i64 m.e, .int .i64 m.l, .slice ta T.length tc] : Array Value)[o]? := fun o => by rw [cell_of_block H4.out.2.2.1]
 have hSk : ∀ w' : World, w'.heap[w3.heap.size]? = w4.heap[w3.heap.size]? → w'.cell? ⟨w3.heap.size, 0, none⟩ = some (.int .i64 m.c) ∧ w'.cell? ⟨w3.heap.size, 1, none⟩ = some (.int .i64 m.d) ∧ w'.cell? ⟨w3.heap.size, 2, none⟩ = some (.int .i64 m.s) ∧ w'.cell? ⟨w3.heap.size, 3, none⟩ = some (.int .i64 m.e) ∧ w'.cell? ⟨w3.heap.size, 4, none⟩ = some (.int .i64 m.l) ∧ w'.cell? ⟨w3.heap.size, 5, none⟩ = some (.slice ta T.length tc) := fun w' hw => by
  refine ⟨?_, ?_, ?_, ?_, ?_, ?_⟩ <;> exact cell_keep (hcM _) hw
 go_wp2_with fail
 rw [← H4.out.2.2.2.2.2]
 refine wp_region_noPanic ?_
 refine wp_region_held_drew (S := fun w' => w'.cell? ⟨w3.heap.size, 0, none⟩ = some (.int .i64 m.c) ∧ w'.cell? ⟨w3.heap.size, 1, none⟩ = some (.int .i64 m.d) ∧ w'.cell? ⟨w3.heap.size, 2, none⟩ = some (.int .i64 m.s) ∧ w'.cell? ⟨w3.heap.size, 3, none⟩ = some (.int .i64 m.e) ∧ w'.cell? ⟨w3.heap.size, 4, none⟩ = some (.int .i64 m.l) ∧ w'.cell? ⟨w3.heap.size, 5, none⟩ = some (.slice ta T.length tc)) (by kernel_rfl) (hSk w4.drew rfl) (fun hHeld => ?_)
 (refine wpAnyH_take (i := 0) (v := .agg #[.int .i64 m.c, .int .i64 m.d, .int .i64 m.s, .int .i64 m.e, .int .i64 m.l, .slice ta T.length tc]) rfl (by kernel_rfl) (by kernel_rfl) (by kernel_rfl) (fun _ _ _ h => h) (Or.inl ⟨by kernel_rfl, fun w hSw => by (try dsimp only at hSw); go_split_ands; go_simp⟩) (by assumption) ?_; simp only [Act.put, List.setIfInBounds_toArray, List.set_cons_zero, List.set_cons_succ])
 (refine wpAnyH_take (i := 1) (v := .pointer (some ⟨W1.heap.size, 0, none⟩)) rfl (by kernel_rfl) (by kernel_rfl) (by kernel_rfl) (fun _ _ _ h => h) (Or.inl ⟨by kernel_rfl, fun w hSw => by (try dsimp only at hSw); go_split_ands; go_simp⟩) (by assumption) ?_; simp only [Act.put, List.setIfInBounds_toArray, List.set_cons_zero, List.set_cons_succ])
 have hbD : Below w4.heap.size w4 w4.drew := (Below.refl _ _).drew
 refine wpAnyH_ready (rs := [2]) (by kernel_rfl) (by simp) (AllReadyH.cons rfl (fun K hK => ?_) AllReadyH.nil)
 go_simp
 go_at_call 165
 refine (l17DrawLimit_any W1.heap.size W1.heap.size _ (H4.out.1.below hbD)).mono ?_
 rintro e' wb ⟨x, rfl, hsb, hob⟩
 have hob4 : Only W1.heap.size w4 wb := (Only.of_below hbD).trans hob
 have hzb := hob4.size
 have hMb : wb.heap[w3.heap.size]? = w4.heap[w3.heap.size]? := hob4.block _ (by omega) (fun e => by omega)
 have hBb : Below W.heap.size W wb := H4.out.2.1.trans ((hob4.to_below (B := W1.heap.size) (Nat.le_refl _) (by omega)).mono (by omega))
 have hRb := hob4.heap H4.out.2.2.2.1 (fun e => by omega)
 have hub := H4.out.2.2.2.2.1.mono (S' := fun b => W1.heap.size ≤ b) (fun b hb _ => by have hb : w2.heap.size ≤ b := hb; omega) (hob4.keep fun b hb e => by have hb : w2.heap.size ≤ b := hb; omega)
 have hC := Lib.hid (And.intro hBb (And.intro hRb (And.intro hub hMb))); clear hBb hRb hub hcM hsb hob hbD hob4
 dsimp only
 (refine hK.out _ _ (hSk wb hMb) (fun hHeld => ?_); clear hK K; (try simp only [Act.put, List.setIfInBounds_toArray, List.set_cons_zero, List.set_cons_succ]))
 have hcRz : ∀ o, wb.cell? ⟨W.heap.size, o, none⟩ = (#[.int .i64 0, .int .i64 0, .int .i64 0, .int .i64 0, .int .i64 0, .slice none 0 0] : Array Value)[o]? := fun o => by rw [cell_of_block hC.out.2.1]
 have hfRz := fun o => frozen_of_block hC.out.2.1 o
 (refine wpAnyH_ready (rs := [3]) (by kernel_rfl) (by simp) (AllReadyH.cons rfl (fun K hK => ?_) AllReadyH.nil); go_simp)
 have hdone := putS_new hC.out.1 hC.out.2.1 (.int .i64 m.c) (.int .i64 m.d) (.int .i64 m.s) (.int .i64 m.e) (.int .i64 m.l) (.slice ta T.length tc)
 obtain ⟨wz, hwz⟩ : ∃ wz, wz = putS wb W.heap.size (.int .i64 m.c) (.int .i64 m.d) (.int .i64 m.s) (.int .i64 m.e) (.int .i64 m.l) (.slice ta T.length tc) := ⟨_, rfl⟩
 rw [← hwz] at hdone
 obtain ⟨hd2, hd3, hd4⟩ := hdone
 have hFz : V2 (fun b => W.heap.size ≤ b) wz (.slice ta T.length tc) T := V2.mono (S := fun b => W1.heap.size ≤ b) hC.out.2.2.1 (fun b hb _ => by have hb : W1.heap.size ≤ b := hb; omega) (fun b hb _ => hd4 b (by have hb : W1.heap.size ≤ b := hb; omega))
 have hz0 : wz.cell? ⟨W.heap.size, 0, none⟩ = some (.int .i64 m.c) := by rw [cell_of_block hd3]; rfl
 have hz1 : wz.cell? ⟨W.heap.size, 1, none⟩ = some (.int .i64 m.d) := by rw [cell_of_block hd3]; rfl
 have hz2 : wz.cell? ⟨W.heap.size, 2, none⟩ = some (.int .i64 m.s) := by rw [cell_of_block hd3]; rfl
 have hz3 : wz.cell? ⟨W.heap.size, 3, none⟩ = some (.int .i64 m.e) := by rw [cell_of_block hd3]; rfl
 have hz4 : wz.cell? ⟨W.heap.size, 4, none⟩ = some (.int .i64 m.l) := by rw [cell_of_block hd3]; rfl
 have hz5 : wz.cell? ⟨W.heap.size, 5, none⟩ = some (.slice ta T.length tc) := by rw [cell_of_block hd3]; rfl
 unfold putS putR at hwz
 rw [← hwz]
 clear hwz
 have hSz := hSk wz ((hd4 _ (by omega)).trans hMb)
 (refine hK.out _ _ hSz (fun hHeld => ?_); clear hK K; (try simp only [Act.put, List.setIfInBounds_toArray, List.set_cons_zero, List.set_cons_succ]))
 (refine wpAnyH_ready (rs := [4]) (by kernel_rfl) (by simp) (AllReadyH.cons rfl (fun K hK => ?_) AllReadyH.nil); go_simp)
 (refine hK.out _ _ hSz (fun hHeld => ?_); clear hK K; (try simp only [Act.put, List.setIfInBounds_toArray, List.set_cons_zero, List.set_cons_succ]))
 refine wpAnyH_done (by kernel_rfl) (NoPanic.normal ?_) _
 go_wp2_with fail
 exact bodyPost_ret (v := .tuple #[.agg #[.int .i64 m.c, .int .i64 m.d, .int .i64 m.s, .int .i64 m.e, .int .i64 m.l, .slice ta T.length tc], .int .i64 x]) (by simp [results, Tryz.results63, go_sem, hz0, hz1, hz2, hz3, hz4, hz5]) rfl ⟨m, _, T, x, rfl, hFz, hd2⟩
/-- As Out2, the rows' values and their blocks named. -/
def Out2x (B : Nat) (w : World) (v : Value) (ls : List (List Int)) (vs : List Value) (bk : Nat → Nat) : Prop :=
 w.ownsRow B 35 1 v ls.length vs ∧ (∀ k, k < ls.length → ∃ rv, vs[k]? = some rv ∧ X1 w rv (getl ls k) (bk k)) ∧
  (∀ k, k < ls.length → getl ls k ≠ [] → B ≤ bk k ∧ v.ownBlock ≠ some (bk k) ∧ ∀ j, j < ls.length → j ≠ k → getl ls j ≠ [] → bk j ≠ bk k)
theorem Out2x.out {B : Nat} {w : World} {v : Value} {ls : List (List Int)} {vs : List Value} {bk : Nat → Nat} (h : Out2x B w v ls vs bk) : Out2 B w v ls := ⟨vs, bk, h.1, h.2.1, h.2.2⟩
theorem Out2x.push {B : Nat} {w w2 w1 : World} {v v1 rv : Value} {ls : List (List Int)} {l : List Int} {b : Nat} {vs : List Value} {bk : Nat → Nat}
  (h : Out2x B w v ls vs bk)
  (hB : B ≤ w.heap.size) (hb : Below w.heap.size w w2) (hx : X1 w2 rv l b) (hbn : l ≠ [] → w.heap.size ≤ b)
  (hown : w1.ownsRow B 35 1 v1 (ls.length + 1) (vs ++ [rv])) (hg : w2.grownBy w1 v.ownBlock) (hblk : v1.ownBlock = v.ownBlock ∨ ∃ g, v1.ownBlock = some g ∧ w2.heap.size ≤ g) : Out2x B w1 v1 (ls ++ [l]) (vs ++ [rv]) (fun k => if k < ls.length then bk k else b) := by
 obtain ⟨h1, h2, h3⟩ := h
 have hvl : ∀ g, v.ownBlock = some g → g < w.heap.size := fun g hgg => (h1.lt g hgg).2
 have hxl : ∀ k, k < ls.length → getl ls k ≠ [] → bk k < w.heap.size := fun k hk hn => by
  obtain ⟨rv, _, h⟩ := h2 k hk; exact h.lt hn
 have hne1 : ∀ c, c < w2.heap.size → v.ownBlock ≠ some c → v1.ownBlock ≠ some c := fun c hc hn e => by
  rcases hblk with e1 | ⟨g, e1, hge⟩
  ·exact hn (e1.symm.trans e)
  ·rw [e] at e1; cases e1; omega
 have hvl1 := h1.1
 refine ⟨by simpa using hown, fun k hk => ?_, fun k hk hn => ?_⟩
 ·by_cases hkl : k < ls.length
  ·obtain ⟨rv', h4, h5⟩ := h2 k hkl
   refine ⟨rv', by rw [List.getElem?_append_left (by omega)]; exact h4, ?_⟩
   rw [getl_app1 hkl]
   simp only [hkl, if_true]
   exact h5.keep fun hn => by
    rw [hg.block _ (Nat.lt_of_lt_of_le (hxl k hkl hn) hb.size) (fun e => (h3 k hkl hn).2.1 e.symm), hb.block _ (hxl k hkl hn)]
  ·have e : k = ls.length := by simp at hk; omega
   subst e
   refine ⟨rv, by rw [List.getElem?_append_right (by omega)]; simp [show ls.length - vs.length = 0 by omega], ?_⟩
   rw [getl_app2]
   simp only [Nat.lt_irrefl, if_false]
   exact hx.keep fun hn => hg.block _ (hx.lt hn) (fun e => by have := hvl b e.symm; have := hbn hn; omega)
 ·by_cases hkl : k < ls.length
  ·rw [getl_app1 hkl] at hn
   simp only [hkl, if_true]
   obtain ⟨h4, h5, h6⟩ := h3 k hkl hn
   refine ⟨h4, hne1 _ (Nat.lt_of_lt_of_le (hxl k hkl hn) hb.size) h5, fun j hj hjk hnj => ?_⟩
   by_cases hjl : j < ls.length
   ·rw [getl_app1 hjl] at hnj
    simp only [hjl, if_true]
    exact h6 j hjl hjk hnj
   ·have e : j = ls.length := by simp at hj; omega
    subst e
    rw [getl_app2] at hnj
    simp only [Nat.lt_irrefl, if_false]
    have := hbn hnj; have := hxl k hkl hn; omega
  ·have e : k = ls.length := by simp at hk; omega
   subst e
   rw [getl_app2] at hn
   simp only [Nat.lt_irrefl, if_false]
   refine ⟨by have := hbn hn; omega, hne1 _ (hx.lt hn) (fun e => by have := hvl b e; have := hbn hn; omega), fun j hj hjk hnj => ?_⟩
   have hjl : j < ls.length := by simp at hj; omega
   rw [getl_app1 hjl] at hnj
   simp only [hjl, if_true]
   have := hbn hn; have := hxl j hjl hnj; omega
/-- The blocks that a list of lists stands in, and the one of the cell that holds it. -/
def OutF (OB : Nat) (v : Value) (ls : List (List Int)) (bk : Nat → Nat) (b : Nat) : Prop := b = OB ∨ v.ownBlock = some b ∨ ∃ k, k < ls.length ∧ getl ls k ≠ [] ∧ b = bk k
theorem Out2x.stay {B OB : Nat} {w w' : World} {v : Value} {ls : List (List Int)} {vs : List Value} {bk : Nat → Nat} (h : Out2x B w v ls vs bk) (hk : ∀ b, OutF OB v ls bk b → w'.heap[b]? = w.heap[b]?) : Out2x B w' v ls vs bk := by
 obtain ⟨h1, h2, h3⟩ := h
 refine ⟨⟨h1.1, ?_⟩, fun k hkl => ?_, h3⟩
 ·rcases h1.2 with h0 | ⟨g, cap, cur, rfl, h4, h5, h6⟩
  ·exact .inl h0
  ·exact .inr ⟨g, cap, cur, rfl, h4, by rw [hk g (.inr (.inl rfl))]; exact h5, h6⟩
 ·obtain ⟨rv, h4, h5⟩ := h2 k hkl
  exact ⟨rv, h4, h5.keep fun hn => hk _ (.inr (.inr ⟨k, hkl, hn, rfl⟩))⟩
theorem Out2x.lt {B OB : Nat} {w : World} {v : Value} {ls : List (List Int)} {vs : List Value} {bk : Nat → Nat} (h : Out2x B w v ls vs bk) (ho : OB < w.heap.size) : ∀ b, OutF OB v ls bk b → b < w.heap.size := by
 rintro b (rfl | h1 | ⟨k, h1, h2, rfl⟩)
 ·exact ho
 ·exact (h.1.lt _ h1).2
 ·obtain ⟨rv, _, h5⟩ := h.2.1 k h1
  exact h5.lt h2
/-- The blocks that a list of lists stands in. -/
def OutG (v : Value) (ls : List (List Int)) (bk : Nat → Nat) (b : Nat) : Prop := v.ownBlock = some b ∨ ∃ k, k < ls.length ∧ getl ls k ≠ [] ∧ b = bk k
theorem Out2x.lo {B : Nat} {w w' : World} {v : Value} {ls : List (List Int)} {vs : List Value} {bk : Nat → Nat} (h : Out2x B w v ls vs bk) (hk : ∀ b, OutG v ls bk b → w'.heap[b]? = w.heap[b]?) : Out2x B w' v ls vs bk := by
 obtain ⟨h1, h2, h3⟩ := h
 refine ⟨⟨h1.1, ?_⟩, fun k hkl => ?_, h3⟩
 ·rcases h1.2 with h0 | ⟨g, cap, cur, rfl, h4, h5, h6⟩
  ·exact .inl h0
  ·exact .inr ⟨g, cap, cur, rfl, h4, by rw [hk g (.inl rfl)]; exact h5, h6⟩
 ·obtain ⟨rv, h4, h5⟩ := h2 k hkl
  exact ⟨rv, h4, h5.keep fun hn => hk _ (.inr ⟨k, hkl, hn, rfl⟩)⟩
theorem OutG.push {b3 z : Nat} {v v' : Value} {ls : List (List Int)} {l : List Int} {bk : Nat → Nat} (hblk : v'.ownBlock = v.ownBlock ∨ ∃ g, v'.ownBlock = some g ∧ z ≤ g) (hb3 : l ≠ [] → z ≤ b3) :
  ∀ b, OutG v' (ls ++ [l]) (fun k => if k < ls.length then bk k else b3) b → OutG v ls bk b ∨ z ≤ b := by
 rintro b (h1 | ⟨k, h1, h2, rfl⟩)
 ·rcases hblk with e | ⟨g, e, hz⟩
  ·exact .inl (.inl (e ▸ h1))
  ·rw [e] at h1; cases h1; exact .inr hz
 ·by_cases hk : k < ls.length
  ·rw [getl_app1 hk] at h2
   simp only [hk, if_true]
   exact .inl (.inr ⟨k, hk, h2, rfl⟩)
  ·have e : k = ls.length := by simp at h1; omega
   subst e
   rw [getl_app2] at h2
   simp only [Nat.lt_irrefl, if_false]
   exact .inr (hb3 h2)
theorem F1.nil {B : Nat} {w : World} : F1 B w (.slice none 0 0) [] := ⟨0, ⟨none, 0, rfl, Nat.le_refl _, Nat.zero_le _, fun hn => absurd rfl hn⟩, fun hn => absurd rfl hn⟩
end Go.Proofs.YtmaefilliggjiaaGreat
