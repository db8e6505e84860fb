/- The reference's search for the first design. No conditions. -/
import Derived.Deep.AppendLies
import Derived.Test.YtmjplkbmhdkggaaGreatMGoR
import Derived.Test.YtmjplkbmhdkggaaGreatMDraw14
namespace Go.Proofs.YtmjplkbmhdkggaaGreat
open Go.RowKit
set_option linter.unusedVariables false
set_option linter.unusedSimpArgs false
set_option maxRecDepth 100000 in
set_option maxHeartbeats 1000000 in
theorem FindDesignR_any {S : Nat → Prop} (m : Mk) (u : Value) (t : List (List Int)) (limit : Int) (W : World) (h : V2 S W u t) :
  Calls Tryz.prog 164 #[.agg #[.int .i64 m.c, .int .i64 m.d, .int .i64 m.s, .int .i64 m.e, .int .i64 m.l, u], .int .i64 limit] W fun e' w' => ∃ v', e' = .returned (.tuple #[v', .int .i64 (findAns m t [] limit).2.1, .int .i64 (findAns m t [] limit).2.2]) ∧ F2 W.heap.size w' v' (findAns m t [] limit).1 ∧ Below W.heap.size W w' := by
 obtain ⟨a, c, rfl, hmx⟩ := h.form
 obtain ⟨W1, hW1, hB01, hz01, HZ01, hc01, hh01⟩ := box_facts W #[.int .i64 m.c, .int .i64 m.d, .int .i64 m.s, .int .i64 m.e, .int .i64 m.l, .slice a t.length c] 33
 have hV1 : V2 (fun _ => True) W1 (.slice a t.length c) t := (h.below hB01).any
 have hsc := l17Code_any m _ t limit W1 hV1
 by_cases hp : searchC m t [] limit = 0
 ·obtain ⟨hok, hlim, hop⟩ := searchC_ok.1 hp
  rw [hp] at hsc
  obtain ⟨L, rfl⟩ : ∃ L : Nat, limit = (L : Int) := ⟨limit.toNat, by omega⟩
  have hfin : findAns m t [] (L : Int) = pickA (firstF m.c.toNat t (keysOf m) [] 1 L) := by
   unfold findAns; rw [if_neg (by rw [hp]; simp)]; rfl
  have hdes := firstF_des (n := m.c.toNat) (most := 1) (limit := L) hok
  have hfd := fun w (hb : Below W1.heap.size W1 w) => l17Run_any m (.slice a t.length c) (.slice none 0 0) t [] 1 L w (hV1.below hb) (S' := fun _ => True) ⟨none, 0, rfl, Nat.le_refl _, Nat.zero_le _, fun k hk => by simp at hk⟩ (fun _ => .inl rfl) hok (by omega) (by omega)
  obtain ⟨q, hq⟩ : ∃ q, firstF m.c.toNat t (keysOf m) [] 1 L = q := ⟨_, rfl⟩
  rw [hfin, hq]
  rw [hq] at hdes
  simp only [hq] at hfd
  have hfs := fun (RB B : Nat) (fv : Value) (w : World) (h : Sg m (.slice a t.length c) L 1 RB B q fv w) => l17First_any m (.slice a t.length c) t L 1 RB B q fv w h hdes
  obtain ⟨pk, hpk⟩ : ∃ p, pickA q = p := ⟨_, rfl⟩
  rw [hpk]
  simp only [hpk] at hfs
  have H := Lib.hid (And.intro hsc (And.intro hfd (And.intro hfs (And.intro hq hpk)))); clear hsc hfd hfs hfin hp hok hlim hop hdes hq hpk
  go_enter Tryz.func164, Tryz.ntmps164
  go_wp2_with fail
  rw [← hW1]
  refine H.out.1.mono ?_
  rintro e' w2 ⟨rfl, hb2⟩
  have hz2 := hb2.size
  have hx2 : ∀ o, w2.cell? ⟨W.heap.size, o, none⟩ = (#[.int .i64 m.c, .int .i64 m.d, .int .i64 m.s, .int .i64 m.e, .int .i64 m.l, .slice a t.length c] : Array Value)[o]? := fun o => by rw [(bcell hb2).1 _ _ hz01, hc01]
  clear hc01 hh01
  go_wp2_with fail
  refine (H.out.2.1 _ hb2).mono ?_
  rintro e' w3 ⟨RB, fv, rfl, hG, hb3⟩
  have hz3 := hb3.size
  have HG := Lib.hid (And.intro hG hb3); clear hG hb3 hx2
  go_wp2_with fail
  refine (H.out.2.2.1 _ _ _ _ HG.out.1).mono ?_
  rintro e' w4 ⟨v4, rfl, hF, hb4⟩
  have HF := Lib.hid (And.intro (hF.mono (show W.heap.size ≤ w3.heap.size by omega)) (hB01.trans ((hb2.trans ((HG.out.2.trans (hb4.mono hz3)).mono hz2)).mono (by omega)))); clear hF hb4
  go_wp2_with fail
  go_ret3
  exact ⟨_, rfl, HF.out.1, HF.out.2⟩
 ·have hfin : findAns m t [] limit = ([], 0, searchC m t [] limit) := by unfold findAns; rw [if_pos hp]
  have e1 : (searchC m t [] limit != 0) = true := by simp [hp]
  have e2 : (searchC m t [] limit == 0) = false := by simp [hp]
  rw [hfin]
  have H := Lib.hid (And.intro hsc hfin); clear hsc hfin hp
  generalize searchC m t [] limit = pc at *
  go_enter Tryz.func164, Tryz.ntmps164
  go_wp2_with fail
  rw [← hW1]
  refine H.out.1.mono ?_
  rintro e' w2 ⟨rfl, hb2⟩
  have hz2 := hb2.size
  have hx2 : ∀ o, w2.cell? ⟨W.heap.size, o, none⟩ = (#[.int .i64 m.c, .int .i64 m.d, .int .i64 m.s, .int .i64 m.e, .int .i64 m.l, .slice a t.length c] : Array Value)[o]? := fun o => by rw [(bcell hb2).1 _ _ hz01, hc01]
  clear hc01 hh01
  clear hx2
  go_wp2_with fail
  go_ret3
  exact ⟨_, rfl, F2.nil5, hB01.trans (hb2.mono (by omega))⟩
theorem own_PV {w : World} {B : Nat} {e : TypeId} {v : Value} {n : Nat} {xs : List Value} (h : w.ownsRow B e 1 v n xs) : PV v := by
 rcases h.2 with ⟨rfl, _⟩ | ⟨g, cap, cur, rfl, _⟩
 ·exact .inl rfl
 ·exact .inr ⟨_, _, _, _, rfl⟩
/-- What a draw of a system and cuts answers. -/
def DrawD (B0 SB : Nat) (W : World) (e : Ending) (w' : World) : Prop :=
 ∃ (m : Mk) (u cv : Value) (T cuts : List (List Int)), e = .returned (.tuple #[.agg #[.int .i64 m.c, .int .i64 m.d, .int .i64 m.s, .int .i64 m.e, .int .i64 m.l, u], cv]) ∧ SmallM m ∧ V2 (fun b => W.heap.size ≤ b) w' u T ∧ V2 (fun b => W.heap.size ≤ b) w' cv cuts ∧ Src B0 SB w' ∧ Only SB W w'
set_option maxRecDepth 100000 in
set_option maxHeartbeats 4000000 in
theorem l21Draw_any (B0 SB : Nat) (W : World) (h : Src B0 SB W) :
  Calls Tryz.prog 106 #[.pointer (some ⟨SB, 0, none⟩)] W (DrawD B0 SB W) := by
 have hSl := h.lt
 have hB0 : B0 ≤ SB := h.1
 obtain ⟨W1, hW1, hB01, hz01, HZ01, _, hh01⟩ := box_facts W #[.int .i64 0, .int .i64 0, .int .i64 0, .int .i64 0, .int .i64 0, .slice none 0 0] 33
 have hz1e := HZ01.out
 have hz1l : W1.heap.size ≤ W.heap.size + 1 := by omega
 have hs1' := h.below hB01
 have HL := Lib.hid (And.intro hs1' (And.intro hB01 (And.intro hh01 hW1))); clear hs1' h hh01 hB01 hz1e
 go_enter Tryz.func106, Tryz.ntmps106
 go_wp2_with fail
 rw [← HL.out.2.2.2]
 clear hW1
 refine (l01Next_any B0 SB 16 _ HL.out.1).mono ?_
 rintro e' w2 ⟨x, rfl, ⟨hx0, hx1⟩, hs2, ho2⟩
 have hz2 := ho2.size
 have hR2 := ho2.heap HL.out.2.2.1 (fun e => by omega)
 have H2 := Lib.hid (And.intro hs2 (And.intro ((Only.of_below HL.out.2.1).trans ho2) hR2)); clear hs2 ho2 hR2
 by_cases hx : x = 0
 ·subst hx
  go_wp2_with fail
  refine (l15Draw_any B0 SB _ H2.out.1).mono ?_
  rintro e' w3 ⟨m, u, cv, T, cuts, rfl, hsm, hu, _, hcv, _, hs3, ho3⟩
  have hz3 := ho3.size
  obtain ⟨ta, tc, rfl, _⟩ := hu.form
  obtain ⟨ca, cc, rfl, _⟩ := hcv.form
  have H3 := Lib.hid (And.intro hs3 (And.intro (H2.out.2.1.trans ho3) (And.intro (ho3.heap H2.out.2.2 (fun e => by omega)) (And.intro hu (And.intro hcv hsm))))); clear hs3 ho3 hu hcv hsm
  have hcRz : ∀ o, w3.cell? ⟨W.heap.size, o, none⟩ = (#[.int .i64 0, .int .i64 0, .int .i64 0, .int .i64 0, .int .i64 0, .slice none 0 0] : Array Value)[o]? := fun o => by rw [cell_of_block H3.out.2.2.1]
  have hfRz := fun o => frozen_of_block H3.out.2.2.1 o
  have hdone := putS_facts H3.out.1 H3.out.2.1 H3.out.2.2.1 (by omega) (Nat.le_refl _) (by omega) (.int .i64 m.c) (.int .i64 m.d) (.int .i64 m.s) (.int .i64 m.e) (.int .i64 m.l) (.slice ta T.length tc)
  obtain ⟨wz, hwz⟩ : ∃ wz, wz = putS w3 W.heap.size (.int .i64 m.c) (.int .i64 m.d) (.int .i64 m.s) (.int .i64 m.e) (.int .i64 m.l) (.slice ta T.length tc) := ⟨_, rfl⟩
  rw [← hwz] at hdone
  obtain ⟨hd1, hd2, hd3, hd4⟩ := hdone
  have hFz : V2 (fun b => W.heap.size ≤ b) wz (.slice ta T.length tc) T := V2.mono (S := fun b => W1.heap.size ≤ b) (H3.out.2.2.2.1.mono (fun b hb _ => by have hb : w2.heap.size ≤ b := hb; omega) (fun _ _ _ => rfl)) (fun b hb _ => by have hb : W1.heap.size ≤ b := hb; omega) (fun b hb _ => hd4 b (by have hb : W1.heap.size ≤ b := hb; omega))
  have hcz : V2 (fun b => W.heap.size ≤ b) wz (.slice ca cuts.length cc) cuts := V2.mono (S := fun b => W1.heap.size ≤ b) (H3.out.2.2.2.2.1.mono (fun b hb _ => by have hb : w2.heap.size ≤ b := hb; omega) (fun _ _ _ => rfl)) (fun b hb _ => by have hb : W1.heap.size ≤ b := hb; omega) (fun b hb _ => hd4 b (by have hb : W1.heap.size ≤ b := hb; omega))
  have hz0 : wz.cell? ⟨W.heap.size, 0, none⟩ = some (.int .i64 m.c) := by rw [cell_of_block hd3]; rfl
  have hz1 : wz.cell? ⟨W.heap.size, 1, none⟩ = some (.int .i64 m.d) := by rw [cell_of_block hd3]; rfl
  have hz2 : wz.cell? ⟨W.heap.size, 2, none⟩ = some (.int .i64 m.s) := by rw [cell_of_block hd3]; rfl
  have hz3 : wz.cell? ⟨W.heap.size, 3, none⟩ = some (.int .i64 m.e) := by rw [cell_of_block hd3]; rfl
  have hz4 : wz.cell? ⟨W.heap.size, 4, none⟩ = some (.int .i64 m.l) := by rw [cell_of_block hd3]; rfl
  have hz5 : wz.cell? ⟨W.heap.size, 5, none⟩ = some (.slice ta T.length tc) := by rw [cell_of_block hd3]; rfl
  have HZ := Lib.hid (And.intro hd1 (And.intro hd2 (And.intro hFz (And.intro hcz (And.intro hwz (And.intro hz0 (And.intro hz1 (And.intro hz2 (And.intro hz3 (And.intro hz4 hz5)))))))))); clear hd1 hd2 hd3 hd4 hFz hcz hwz hz0 hz1 hz2 hz3 hz4 hz5
  go_wp2_with fail
  have hwz := HZ.out.2.2.2.2.1
  unfold putS putR at hwz
  rw [← hwz]
  clear hwz
  obtain ⟨hd1, hd2, hFz, hcz, _, hz0, hz1, hz2, hz3, hz4, hz5⟩ := HZ.out
  exact bodyPost_ret (v := .tuple #[.agg #[.int .i64 m.c, .int .i64 m.d, .int .i64 m.s, .int .i64 m.e, .int .i64 m.l, (.slice ta T.length tc)], (.slice ca cuts.length cc)]) (by simp [results, Tryz.results106, go_sem, hz0, hz1, hz2, hz3, hz4, hz5]) rfl ⟨m, _, _, T, cuts, rfl, H3.out.2.2.2.2.2, hFz, hcz, hd1, hd2⟩
 ·have hx0d : (x == 0) = false := by simp [hx]
  clear hx hx0 hx1
  go_wp2_with fail
  refine (l15Valid_any B0 SB _ H2.out.1).mono ?_
  rintro e' w3 ⟨m, u, T, C, rfl, hmk, ⟨hF, hTl, hC, hsh⟩, hs3, ho3⟩
  have hz3 := ho3.size
  obtain ⟨ta, tc, rfl, _⟩ := hF.v2.form
  obtain ⟨w4, hw4⟩ : ∃ w4, w4 = w3.alloc (.cells #[.int .i64 m.c, .int .i64 m.d, .int .i64 m.s, .int .i64 m.e, .int .i64 m.l, .slice ta T.length tc] 33) := ⟨_, rfl⟩
  have hb34 : Below w3.heap.size w3 w4 := by rw [hw4]; exact (Below.refl _ _).alloc (Nat.le_refl _) _
  have hM4 : w4.heap[w3.heap.size]? = some (.cells #[.int .i64 m.c, .int .i64 m.d, .int .i64 m.s, .int .i64 m.e, .int .i64 m.l, .slice ta T.length tc] 33 (0, 0)) := by rw [hw4]; exact heap_alloc_self _ _
  have hR4 := (hb34.block _ (by omega)).trans (ho3.heap H2.out.2.2 (fun e => by omega))
  have hfit0 : Fits m T [] := ⟨hmk.1, by omega, fun k hk => by rw [hsh.1 k hk, hsh.1 0 (by omega)], by rw [hsh.1 0 (by omega)]; omega, fun k hk => hsh.2 k hk, Nat.zero_le _, fun k hk => by simp at hk, fun k hk => by simp at hk, fun k hk => by simp at hk⟩
  have hz4 : w3.heap.size < w4.heap.size := lt_of_heap hM4
  have H4 := Lib.hid (And.intro (hs3.below hb34) (And.intro ((H2.out.2.1.trans ho3).then_below hb34) (And.intro hM4 (And.intro hR4 (And.intro ((hF.mono (show W1.heap.size ≤ w2.heap.size by omega)).below hb34) (And.intro hmk.1 hfit0)))))); clear hs3 ho3 hb34 hM4 hR4 hF hmk hsh hfit0 hC
  obtain ⟨w5, hw5⟩ : ∃ w5, w5 = w4.alloc (.cells #[] 44) := ⟨_, rfl⟩
  have hb45 : Below w4.heap.size w4 w5 := by rw [hw5]; exact (Below.refl _ _).alloc (Nat.le_refl _) _
  have he4 : w3.heap.size + 1 = w4.heap.size := by rw [hw4]; simp
  have hO5 : OV w4.heap.size w5 (.slice (some ⟨w3.heap.size + 1, 0, none⟩) 0 0) [] := by rw [he4]; exact OV.nil (by rw [hw5]; exact own_lit0 w4 w4.heap.size 44 1 (Nat.le_refl _))
  clear he4
  have H5 := Lib.hid (And.intro (H4.out.1.below hb45) (And.intro hO5 (And.intro (Only.of_below (SB := SB) hb45) (And.intro hw4 hw5)))); clear hw4 hw5 hb45 hO5
  go_wp2_with fail
  rw [← H5.out.2.2.2.1]
  go_wp2_with fail
  rw [← H5.out.2.2.2.2]
  go_loopw [5, 6] (fun pv _ wr => ∃ part : List (List Int), lenV pv = part.length ∧ OV w4.heap.size wr pv part ∧ Fits m T part ∧ Src B0 SB wr ∧ Only SB w4 wr) (fun pv _ _ => T.length - lenV pv)
  case atStart => exact ⟨[], rfl, H5.out.2.1, H4.out.2.2.2.2.2.2, H5.out.1, H5.out.2.2.1⟩
  case round =>
   obtain ⟨part, hlv, hO, hfit, hsr, hor⟩ := hrel
   clear hlv
   have hzr := hor.size
   obtain ⟨oa, oc, rfl, _, _⟩ := hO.form
   obtain ⟨wo, rfl⟩ : ∃ x, x = wr := ⟨_, rfl⟩
   have hM := hor.heap H4.out.2.2.1 (fun e => by omega)
   have hcM : ∀ o, wo.cell? ⟨w3.heap.size, o, none⟩ = (#[.int .i64 m.c, .int .i64 m.d, .int .i64 m.s, .int .i64 m.e, .int .i64 m.l, .slice ta T.length tc] : Array Value)[o]? := fun o => by rw [cell_of_block hM]
   by_cases hpl0 : part.length < T.length
   ·have hpd0 : decide (part.length < T.length) = true := decide_eq_true hpl0
    have hpd20 : decide ((part.length : Int) < (T.length : Int)) = true := decide_eq_true (by omega)
    have hpv : PV (.slice oa part.length oc) := by obtain ⟨vs, h1, _⟩ := hO; exact own_PV h1
    have hTr := H4.out.2.2.2.2.1.only hor (by omega)
    have HR := Lib.hid (And.intro hO (And.intro hfit (And.intro hsr (And.intro hor (And.intro hpv (And.intro hTr hM)))))); clear hO hfit hsr hor hpv hTr hM
    go_wp2_with fail
    refine (l16Candidates_any m _ _ T part 8 wo HR.out.2.1 hpl0 (by omega) HR.out.2.2.2.2.2.1.v2 HR.out.1.v2 (fun _ => HR.out.2.2.2.2.1)).mono ?_
    rintro e' w6 ⟨lv, ls, rfl, ⟨hL, hL8, hLk⟩, hb6⟩
    have hz6 := hb6.size
    obtain ⟨la, lc, rfl, _, _⟩ := hL.form
    have hM6 := (hb6.block _ (by omega)).trans HR.out.2.2.2.2.2.2
    have hcM6 : ∀ o, w6.cell? ⟨w3.heap.size, o, none⟩ = (#[.int .i64 m.c, .int .i64 m.d, .int .i64 m.s, .int .i64 m.e, .int .i64 m.l, .slice ta T.length tc] : Array Value)[o]? := fun o => by rw [cell_of_block hM6]
    have H6 := Lib.hid (And.intro (HR.out.2.2.1.below hb6) (And.intro (HR.out.2.2.2.1.then_below hb6) (And.intro hL (And.intro hLk (And.intro (HR.out.1.below hb6) hb6))))); clear hL hLk hb6 hM6 hcM
    by_cases hl0 : ls.length = 0
    ·have hl0d : ((ls.length : Int) == 0) = true := by simp [hl0]
     have hO := H6.out.2.2.2.2.1
     have hsr := H6.out.1
     have hor := H6.out.2.1
     have hzr6 := hor.size
     clear hpd0 hpd20
     obtain ⟨lsl, hlsl⟩ : ∃ q, ls.length = q := ⟨_, rfl⟩
     rw [hlsl] at hl0 hl0d ⊢
     subst hl0
     clear hlsl
     have hpd : decide (part.length < T.length) = true := decide_eq_true hpl0
     have hpd2 : decide ((part.length : Int) < (T.length : Int)) = true := decide_eq_true (by omega)
     have HE := Lib.hid (And.intro hO (And.intro hsr hor)); clear hO hsr hor
     go_wp2_with fail
     refine (FindDesignR_any m _ T 300 w6 (H4.out.2.2.2.2.1.only HE.out.2.2 (by omega)).v2).mono ?_
     rintro e' wq ⟨fv, rfl, hF, hbq⟩
     have hzq := hbq.size
     obtain ⟨fd, hfd⟩ : ∃ fd, findAns m T [] 300 = fd := ⟨_, rfl⟩
     rw [hfd] at hF ⊢
     obtain ⟨f1, f2, f3⟩ := fd
     have hF : F2 w6.heap.size wq fv f1 := hF
     dsimp only
     obtain ⟨fa, fc, rfl, _⟩ := hF.v2.form
     have hbqO : Only SB w4 wq := HE.out.2.2.then_below hbq
     have hMq := hbqO.heap H4.out.2.2.1 (fun e => by omega)
     have hRq := hbqO.heap H4.out.2.2.2.1 (fun e => by omega)
     have hcMq : ∀ o, wq.cell? ⟨w3.heap.size, o, none⟩ = (#[.int .i64 m.c, .int .i64 m.d, .int .i64 m.s, .int .i64 m.e, .int .i64 m.l, .slice ta T.length tc] : Array Value)[o]? := fun o => by rw [cell_of_block hMq]
     have hTq := H4.out.2.2.2.2.1.only hbqO (by omega)
     have hzwq := hbqO.size
     have HQ := Lib.hid (And.intro (HE.out.2.1.below hbq) (And.intro (H4.out.2.1.trans hbqO) (And.intro hRq (And.intro hTq (And.intro hF.v2 (And.intro (HE.out.1.below hbq).v2 hfd)))))); clear hbq hbqO hMq hRq hTq hF hfd hcM6
     by_cases hf3 : f3 = 0
     ·subst hf3
      have hcRz : ∀ o, wq.cell? ⟨W.heap.size, o, none⟩ = (#[.int .i64 0, .int .i64 0, .int .i64 0, .int .i64 0, .int .i64 0, .slice none 0 0] : Array Value)[o]? := fun o => by rw [cell_of_block HQ.out.2.2.1]
      have hfRz := fun o => frozen_of_block HQ.out.2.2.1 o
      have hdone := putS_facts HQ.out.1 HQ.out.2.1 HQ.out.2.2.1 (by omega) (Nat.le_refl _) (by omega) (.int .i64 m.c) (.int .i64 m.d) (.int .i64 m.s) (.int .i64 m.e) (.int .i64 m.l) (.slice ta T.length tc)
      obtain ⟨wz, hwz⟩ : ∃ wz, wz = putS wq W.heap.size (.int .i64 m.c) (.int .i64 m.d) (.int .i64 m.s) (.int .i64 m.e) (.int .i64 m.l) (.slice ta T.length tc) := ⟨_, rfl⟩
      rw [← hwz] at hdone
      obtain ⟨hd1, hd2, hd3, hd4⟩ := hdone
      have hFz : V2 (fun b => W.heap.size ≤ b) wz (.slice ta T.length tc) T := V2.mono (S := fun b => W1.heap.size ≤ b) (HQ.out.2.2.2.1.v2) (fun b hb _ => by have hb : W1.heap.size ≤ b := hb; omega) (fun b hb _ => hd4 b (by have hb : W1.heap.size ≤ b := hb; omega))
      have hcz : V2 (fun b => W.heap.size ≤ b) wz (.slice fa f1.length fc) f1 := V2.mono (S := fun b => W1.heap.size ≤ b) (HQ.out.2.2.2.2.1.mono (fun b hb _ => by have hb : w6.heap.size ≤ b := hb; omega) (fun _ _ _ => rfl)) (fun b hb _ => by have hb : W1.heap.size ≤ b := hb; omega) (fun b hb _ => hd4 b (by have hb : W1.heap.size ≤ b := hb; omega))
      have hz0 : wz.cell? ⟨W.heap.size, 0, none⟩ = some (.int .i64 m.c) := by rw [cell_of_block hd3]; rfl
      have hz1 : wz.cell? ⟨W.heap.size, 1, none⟩ = some (.int .i64 m.d) := by rw [cell_of_block hd3]; rfl
      have hz2 : wz.cell? ⟨W.heap.size, 2, none⟩ = some (.int .i64 m.s) := by rw [cell_of_block hd3]; rfl
      have hz3 : wz.cell? ⟨W.heap.size, 3, none⟩ = some (.int .i64 m.e) := by rw [cell_of_block hd3]; rfl
      have hz4 : wz.cell? ⟨W.heap.size, 4, none⟩ = some (.int .i64 m.l) := by rw [cell_of_block hd3]; rfl
      have hz5 : wz.cell? ⟨W.heap.size, 5, none⟩ = some (.slice ta T.length tc) := by rw [cell_of_block hd3]; rfl
      have HZ := Lib.hid (And.intro hd1 (And.intro hd2 (And.intro hFz (And.intro hcz (And.intro hwz (And.intro hz0 (And.intro hz1 (And.intro hz2 (And.intro hz3 (And.intro hz4 hz5)))))))))); clear hd1 hd2 hd3 hd4 hFz hcz hwz hz0 hz1 hz2 hz3 hz4 hz5
      go_wp2_with fail
      have hwz := HZ.out.2.2.2.2.1
      unfold putS putR at hwz
      rw [← hwz]
      clear hwz
      obtain ⟨hd1, hd2, hFz, hcz, _, hz0, hz1, hz2, hz3, hz4, hz5⟩ := HZ.out
      exact bodyPost_ret (v := .tuple #[.agg #[.int .i64 m.c, .int .i64 m.d, .int .i64 m.s, .int .i64 m.e, .int .i64 m.l, (.slice ta T.length tc)], (.slice fa f1.length fc)]) (by simp [results, Tryz.results106, go_sem, hz0, hz1, hz2, hz3, hz4, hz5]) rfl ⟨m, _, _, T, f1, rfl, (smallM_ok H4.out.2.2.2.2.2.1), hFz, hcz, hd1, hd2⟩
     ·have hf3d : (f3 == 0) = false := by simp [hf3]
      clear hf3
      have hcRz : ∀ o, wq.cell? ⟨W.heap.size, o, none⟩ = (#[.int .i64 0, .int .i64 0, .int .i64 0, .int .i64 0, .int .i64 0, .slice none 0 0] : Array Value)[o]? := fun o => by rw [cell_of_block HQ.out.2.2.1]
      have hfRz := fun o => frozen_of_block HQ.out.2.2.1 o
      have hdone := putS_facts HQ.out.1 HQ.out.2.1 HQ.out.2.2.1 (by omega) (Nat.le_refl _) (by omega) (.int .i64 m.c) (.int .i64 m.d) (.int .i64 m.s) (.int .i64 m.e) (.int .i64 m.l) (.slice ta T.length tc)
      obtain ⟨wz, hwz⟩ : ∃ wz, wz = putS wq W.heap.size (.int .i64 m.c) (.int .i64 m.d) (.int .i64 m.s) (.int .i64 m.e) (.int .i64 m.l) (.slice ta T.length tc) := ⟨_, rfl⟩
      rw [← hwz] at hdone
      obtain ⟨hd1, hd2, hd3, hd4⟩ := hdone
      have hFz : V2 (fun b => W.heap.size ≤ b) wz (.slice ta T.length tc) T := V2.mono (S := fun b => W1.heap.size ≤ b) (HQ.out.2.2.2.1.v2) (fun b hb _ => by have hb : W1.heap.size ≤ b := hb; omega) (fun b hb _ => hd4 b (by have hb : W1.heap.size ≤ b := hb; omega))
      have hcz : V2 (fun b => W.heap.size ≤ b) wz (.slice oa part.length oc) part := V2.mono (S := fun b => W1.heap.size ≤ b) (HQ.out.2.2.2.2.2.1.mono (fun b hb _ => by have hb : w4.heap.size ≤ b := hb; omega) (fun _ _ _ => rfl)) (fun b hb _ => by have hb : W1.heap.size ≤ b := hb; omega) (fun b hb _ => hd4 b (by have hb : W1.heap.size ≤ b := hb; omega))
      have hz0 : wz.cell? ⟨W.heap.size, 0, none⟩ = some (.int .i64 m.c) := by rw [cell_of_block hd3]; rfl
      have hz1 : wz.cell? ⟨W.heap.size, 1, none⟩ = some (.int .i64 m.d) := by rw [cell_of_block hd3]; rfl
      have hz2 : wz.cell? ⟨W.heap.size, 2, none⟩ = some (.int .i64 m.s) := by rw [cell_of_block hd3]; rfl
      have hz3 : wz.cell? ⟨W.heap.size, 3, none⟩ = some (.int .i64 m.e) := by rw [cell_of_block hd3]; rfl
      have hz4 : wz.cell? ⟨W.heap.size, 4, none⟩ = some (.int .i64 m.l) := by rw [cell_of_block hd3]; rfl
      have hz5 : wz.cell? ⟨W.heap.size, 5, none⟩ = some (.slice ta T.length tc) := by rw [cell_of_block hd3]; rfl
      have HZ := Lib.hid (And.intro hd1 (And.intro hd2 (And.intro hFz (And.intro hcz (And.intro hwz (And.intro hz0 (And.intro hz1 (And.intro hz2 (And.intro hz3 (And.intro hz4 hz5)))))))))); clear hd1 hd2 hd3 hd4 hFz hcz hwz hz0 hz1 hz2 hz3 hz4 hz5
      go_wp2_with fail
      have hwz := HZ.out.2.2.2.2.1
      unfold putS putR at hwz
      rw [← hwz]
      clear hwz
      obtain ⟨hd1, hd2, hFz, hcz, _, hz0, hz1, hz2, hz3, hz4, hz5⟩ := HZ.out
      exact bodyPost_ret (v := .tuple #[.agg #[.int .i64 m.c, .int .i64 m.d, .int .i64 m.s, .int .i64 m.e, .int .i64 m.l, (.slice ta T.length tc)], (.slice oa part.length oc)]) (by simp [results, Tryz.results106, go_sem, hz0, hz1, hz2, hz3, hz4, hz5]) rfl ⟨m, _, _, T, part, rfl, (smallM_ok H4.out.2.2.2.2.2.1), hFz, hcz, hd1, hd2⟩
    ·have hl0d : ((ls.length : Int) == 0) = false := beq_eq_false_iff_ne.2 (by omega)
     have hl00 : ¬ (ls.length : Int) = 0 := by omega
     go_wp2_with fail
     refine (l01Next_any B0 SB _ _ H6.out.1).mono ?_
     rintro e' w7 ⟨y, rfl, ⟨hy0, hy1⟩, hs7, ho7⟩
     have hz7 := ho7.size
     obtain ⟨k, rfl⟩ : ∃ k : Nat, y = (k : Int) := ⟨y.toNat, by omega⟩
     have hk : k < ls.length := by omega
     have hk1 : ¬ ls.length ≤ k := by omega
     have hL7 := H6.out.2.2.1.only ho7 (by omega)
     obtain ⟨lvs, hlv1, hlv2⟩ := hL7
     obtain ⟨g, cap, ra, rc, e, hcc, hV⟩ := OV.row hlv1 hlv2 hk
     simp only [Value.slice.injEq] at e
     obtain ⟨rfl, _, rfl⟩ := e
     have hO7 := H6.out.2.2.2.2.1.only ho7 (by omega)
     obtain ⟨vs, hvs, hrv⟩ := hO7
     have hpl9 : part.length ≤ 1000 := by omega
     have hor7 := H6.out.2.1.trans ho7
     have hkey : isKeyB m (getl ls k) = true := H6.out.2.2.2.1 _ (getl_mem hk)
     have hVk : V1 (fun b => w4.heap.size ≤ b ∧ (Value.slice oa part.length oc).ownBlock ≠ some b) w7 (.slice ra (getl ls k).length rc) (getl ls k) := hV.mono (fun b hb _ => ⟨by have := hb.1; omega, fun e => by
      obtain ⟨vs', g1, _⟩ := HR.out.1
      have := (g1.lt b e).2
      have := hb.1
      omega⟩) (fun _ _ _ => rfl)
     have H7 := Lib.hid (And.intro hvs (And.intro hrv (And.intro hVk (And.intro hs7 (And.intro hor7 hkey))))); clear hvs hrv hVk hs7 hor7 hkey hlv1 hlv2 hV ho7 hy0 hy1 hcM6
     have hvs7 := H7.out.1
     have hccz : w7.cell? ⟨g, k, none⟩ = some (.slice ra (getl ls k).length rc) := hcc
     go_wp2_with (at_builtin; refine wp_app1 _ rfl _ _ 24 rfl w4.heap.size 44 (.slice none 0 0) 24 Tryz.underlying24 inf_ints rfl _ _ _ rfl hvs7 (.slice ra (getl ls k).length rc) _ rfl rfl (by omega) (by omega) (by omega) ?_; intro v1 w1 hown1 hgrow1 hblk1 hB1)
     have hP := OV.push2 H7.out.1 H7.out.2.1 H7.out.2.2.1 hown1 hgrow1 hblk1
     have hg1 : Chg (fun i => w4.heap.size ≤ i) w7 w1 := (Chg.refl _ _).grown hgrow1 (fun g hg => .inl (hvs7.lt g hg).1)
     have hs1 := H7.out.2.2.2.1.keep hg1 (fun b hb => ⟨by omega, by omega⟩)
     have hoW1 : Only SB w4 w1 := Chg.trans H7.out.2.2.2.2.1 (G := fun i => w4.heap.size ≤ i) hg1 (fun i hi => .inr hi)
     obtain ⟨na, nc, rfl, _, _⟩ := own_form hown1
     have H8 := Lib.hid (And.intro hP (And.intro hs1 (And.intro hoW1 (HR.out.2.1.snoc hpl0 H7.out.2.2.2.2.2)))); clear hP hg1 hs1 hoW1 hgrow1 hblk1 hB1 hown1 hvs7
     go_roundw
     case rel => exact ⟨part ++ [getl ls k], by simp [lenV], H8.out.1, H8.out.2.2.2, H8.out.2.1, H8.out.2.2.1⟩
     case measure => simp [lenV]; omega
   ·have hpd0 : decide (part.length < T.length) = false := decide_eq_false hpl0
    have hpd20 : decide ((part.length : Int) < (T.length : Int)) = false := decide_eq_false (by omega)
    clear hfit hM
    have hpd : decide (part.length < T.length) = false := decide_eq_false hpl0
    have hpd2 : decide ((part.length : Int) < (T.length : Int)) = false := decide_eq_false (by omega)
    have hRq := hor.heap H4.out.2.2.2.1 (fun e => by omega)
    have HQ := Lib.hid (And.intro hsr (And.intro (H4.out.2.1.trans hor) (And.intro hRq (And.intro (H4.out.2.2.2.2.1.only hor (by omega)) hO.v2)))); clear hO hsr hor hRq
    have hcRz : ∀ o, wo.cell? ⟨W.heap.size, o, none⟩ = (#[.int .i64 0, .int .i64 0, .int .i64 0, .int .i64 0, .int .i64 0, .slice none 0 0] : Array Value)[o]? := fun o => by rw [cell_of_block HQ.out.2.2.1]
    have hfRz := fun o => frozen_of_block HQ.out.2.2.1 o
    have hdone := putS_facts HQ.out.1 HQ.out.2.1 HQ.out.2.2.1 (by omega) (Nat.le_refl _) (by omega) (.int .i64 m.c) (.int .i64 m.d) (.int .i64 m.s) (.int .i64 m.e) (.int .i64 m.l) (.slice ta T.length tc)
    obtain ⟨wz, hwz⟩ : ∃ wz, wz = putS wo W.heap.size (.int .i64 m.c) (.int .i64 m.d) (.int .i64 m.s) (.int .i64 m.e) (.int .i64 m.l) (.slice ta T.length tc) := ⟨_, rfl⟩
    rw [← hwz] at hdone
    obtain ⟨hd1, hd2, hd3, hd4⟩ := hdone
    have hFz : V2 (fun b => W.heap.size ≤ b) wz (.slice ta T.length tc) T := V2.mono (S := fun b => W1.heap.size ≤ b) (HQ.out.2.2.2.1.v2) (fun b hb _ => by have hb : W1.heap.size ≤ b := hb; omega) (fun b hb _ => hd4 b (by have hb : W1.heap.size ≤ b := hb; omega))
    have hcz : V2 (fun b => W.heap.size ≤ b) wz (.slice oa part.length oc) part := V2.mono (S := fun b => W1.heap.size ≤ b) (HQ.out.2.2.2.2.mono (fun b hb _ => by have hb : w4.heap.size ≤ b := hb; omega) (fun _ _ _ => rfl)) (fun b hb _ => by have hb : W1.heap.size ≤ b := hb; omega) (fun b hb _ => hd4 b (by have hb : W1.heap.size ≤ b := hb; omega))
    have hz0 : wz.cell? ⟨W.heap.size, 0, none⟩ = some (.int .i64 m.c) := by rw [cell_of_block hd3]; rfl
    have hz1 : wz.cell? ⟨W.heap.size, 1, none⟩ = some (.int .i64 m.d) := by rw [cell_of_block hd3]; rfl
    have hz2 : wz.cell? ⟨W.heap.size, 2, none⟩ = some (.int .i64 m.s) := by rw [cell_of_block hd3]; rfl
    have hz3 : wz.cell? ⟨W.heap.size, 3, none⟩ = some (.int .i64 m.e) := by rw [cell_of_block hd3]; rfl
    have hz4 : wz.cell? ⟨W.heap.size, 4, none⟩ = some (.int .i64 m.l) := by rw [cell_of_block hd3]; rfl
    have hz5 : wz.cell? ⟨W.heap.size, 5, none⟩ = some (.slice ta T.length tc) := by rw [cell_of_block hd3]; rfl
    have HZ := Lib.hid (And.intro hd1 (And.intro hd2 (And.intro hFz (And.intro hcz (And.intro hwz (And.intro hz0 (And.intro hz1 (And.intro hz2 (And.intro hz3 (And.intro hz4 hz5)))))))))); clear hd1 hd2 hd3 hd4 hFz hcz hwz hz0 hz1 hz2 hz3 hz4 hz5
    go_wp2_with fail
    have hwz := HZ.out.2.2.2.2.1
    unfold putS putR at hwz
    rw [← hwz]
    clear hwz
    obtain ⟨hd1, hd2, hFz, hcz, _, hz0, hz1, hz2, hz3, hz4, hz5⟩ := HZ.out
    exact bodyPost_ret (v := .tuple #[.agg #[.int .i64 m.c, .int .i64 m.d, .int .i64 m.s, .int .i64 m.e, .int .i64 m.l, (.slice ta T.length tc)], (.slice oa part.length oc)]) (by simp [results, Tryz.results106, go_sem, hz0, hz1, hz2, hz3, hz4, hz5]) rfl ⟨m, _, _, T, part, rfl, (smallM_ok H4.out.2.2.2.2.2.1), hFz, hcz, hd1, hd2⟩
theorem putS_new {W w : World} {c0 c1 c2 c3 c4 c5 : Value} (hB : Below W.heap.size W w) (h : w.heap[W.heap.size]? = some (.cells #[c0, c1, c2, c3, c4, c5] 33 (0, 0))) (v0 v1 v2 v3 v4 v5 : Value) :
  Below W.heap.size W (putS w W.heap.size v0 v1 v2 v3 v4 v5) ∧ (putS w W.heap.size v0 v1 v2 v3 v4 v5).heap[W.heap.size]? = some (.cells #[v0, v1, v2, v3, v4, v5] 33 (0, 0)) ∧ ∀ b, b ≠ W.heap.size → (putS w W.heap.size v0 v1 v2 v3 v4 v5).heap[b]? = w.heap[b]? := by
 refine ⟨?_, ?_, fun b hb => ?_⟩
 ·unfold putS putR
  exact ((((((hB.setCell (Nat.le_refl _) _).setCell (Nat.le_refl _) _).setCell (Nat.le_refl _) _).setCell (Nat.le_refl _) _).setCell (Nat.le_refl _) _).setCell (Nat.le_refl _) _)
 ·unfold putS putR
  rw [heap_setCell_self (heap_setCell_self (heap_setCell_self (heap_setCell_self (heap_setCell_self (heap_setCell_self h _) _) _) _) _) _]
  simp
 ·unfold putS putR
  (repeat rw [heap_setCell_other _ hb])
theorem VB.below {S : Nat → Prop} {w w' : World} {v : Value} {l : List Int} (h : VB S w v l) (hb : Below w.heap.size w w') : VB S w' v l :=
 h.mono (fun _ h _ => h) (Below.keep hb fun _ _ h => h)
theorem Only.to_below {SB B : Nat} {a b : World} (h : Only SB a b) (hS : B ≤ SB) (hB : B ≤ a.heap.size) : Below B a b := Chg.to_below h (fun i hi => by omega) hB
/-- What a draw of a system and cuts from a code answers; X: what stands beside them. -/
def DrawC (W : World) (X : Mk → List (List Int) → List (List Int) → World → List Value → Prop) (e : Ending) (w' : World) : Prop :=
 ∃ (m : Mk) (u cv : Value) (T cuts : List (List Int)) (vs : List Value), e = .returned (.tuple (#[.agg #[.int .i64 m.c, .int .i64 m.d, .int .i64 m.s, .int .i64 m.e, .int .i64 m.l, u], cv] ++ vs.toArray)) ∧ X m T cuts w' vs ∧ V2 (fun b => W.heap.size ≤ b) w' u T ∧ V2 (fun b => W.heap.size ≤ b) w' cv cuts ∧ Below W.heap.size W w'
def DrawC2 (W : World) : Ending → World → Prop := DrawC W fun _ _ _ _ vs => vs = []
theorem DrawC2.open {W w' : World} {e : Ending} (h : DrawC2 W e w') : ∃ (m : Mk) (u cv : Value) (T cuts : List (List Int)), e = .returned (.tuple #[.agg #[.int .i64 m.c, .int .i64 m.d, .int .i64 m.s, .int .i64 m.e, .int .i64 m.l, u], cv]) ∧ V2 (fun b => W.heap.size ≤ b) w' u T ∧ V2 (fun b => W.heap.size ≤ b) w' cv cuts ∧ Below W.heap.size W w' := by
 obtain ⟨m, u, cv, T, cuts, vs, rfl, rfl, h1, h2, h3⟩ := h
 exact ⟨m, u, cv, T, cuts, rfl, h1, h2, h3⟩
def DrawCi (W : World) : Ending → World → Prop := DrawC W fun _ _ _ _ vs => ∃ n : Int, vs = [.int .i64 n]
def DrawCk (W : World) : Ending → World → Prop := DrawC W fun _ _ _ w' vs => ∃ kv key, vs = [kv] ∧ V1 (fun b => W.heap.size ≤ b) w' kv key
def DrawCkw (W : World) : Ending → World → Prop := DrawC W fun _ _ _ w' vs => ∃ kv key x y, vs = [kv, .int .i64 x, .int .i64 y] ∧ V1 (fun b => W.heap.size ≤ b) w' kv key
theorem DrawCi.open {W w' : World} {e : Ending} (h : DrawCi W e w') : ∃ (m : Mk) (u cv : Value) (T cuts : List (List Int)) (n : Int), e = .returned (.tuple #[.agg #[.int .i64 m.c, .int .i64 m.d, .int .i64 m.s, .int .i64 m.e, .int .i64 m.l, u], cv, .int .i64 n]) ∧ V2 (fun b => W.heap.size ≤ b) w' u T ∧ V2 (fun b => W.heap.size ≤ b) w' cv cuts ∧ Below W.heap.size W w' := by
 obtain ⟨m, u, cv, T, cuts, vs, rfl, ⟨n, rfl⟩, h1, h2, h3⟩ := h
 exact ⟨m, u, cv, T, cuts, n, rfl, h1, h2, h3⟩
theorem DrawCk.open {W w' : World} {e : Ending} (h : DrawCk W e w') : ∃ (m : Mk) (u cv : Value) (T cuts : List (List Int)) (kv : Value) (key : List Int), e = .returned (.tuple #[.agg #[.int .i64 m.c, .int .i64 m.d, .int .i64 m.s, .int .i64 m.e, .int .i64 m.l, u], cv, kv]) ∧ V1 (fun b => W.heap.size ≤ b) w' kv key ∧ V2 (fun b => W.heap.size ≤ b) w' u T ∧ V2 (fun b => W.heap.size ≤ b) w' cv cuts ∧ Below W.heap.size W w' := by
 obtain ⟨m, u, cv, T, cuts, vs, rfl, ⟨kv, key, rfl, h0⟩, h1, h2, h3⟩ := h
 exact ⟨m, u, cv, T, cuts, kv, key, rfl, h0, h1, h2, h3⟩
theorem DrawCkw.open {W w' : World} {e : Ending} (h : DrawCkw W e w') : ∃ (m : Mk) (u cv : Value) (T cuts : List (List Int)) (kv : Value) (key : List Int) (x y : Int), e = .returned (.tuple #[.agg #[.int .i64 m.c, .int .i64 m.d, .int .i64 m.s, .int .i64 m.e, .int .i64 m.l, u], cv, kv, .int .i64 x, .int .i64 y]) ∧ V1 (fun b => W.heap.size ≤ b) w' kv key ∧ V2 (fun b => W.heap.size ≤ b) w' u T ∧ V2 (fun b => W.heap.size ≤ b) w' cv cuts ∧ Below W.heap.size W w' := by
 obtain ⟨m, u, cv, T, cuts, vs, rfl, ⟨kv, key, x, y, rfl, h0⟩, h1, h2, h3⟩ := h
 exact ⟨m, u, cv, T, cuts, kv, key, x, y, rfl, h0, h1, h2, h3⟩
set_option maxRecDepth 100000 in
set_option maxHeartbeats 2000000 in
theorem DrawSystemGhosts_any {S : Nat → Prop} (v : Value) (l : List Int) (W : World) (h : VB S W v l) :
  Calls Tryz.prog 105 #[v] W (DrawCi W) := by
 obtain ⟨a, c, rfl, hm⟩ := h.form
 obtain ⟨W1, hW1, hB01, hz01, HZ01, _, hh01⟩ := box_facts W #[.int .i64 0, .int .i64 0, .int .i64 0, .int .i64 0, .int .i64 0, .slice none 0 0] 33
 have hz1e := HZ01.out
 have hz1l : W1.heap.size ≤ W.heap.size + 1 := by omega
 have HL := Lib.hid (And.intro (h.below hB01) (And.intro hB01 (And.intro hh01 hW1))); clear h hh01 hB01 hz1e
 go_enter Tryz.func105, Tryz.ntmps105
 go_wp2_with fail
 rw [← HL.out.2.2.2]
 clear hW1
 refine (l01From_any _ l W1 HL.out.1).mono ?_
 rintro e' w2 ⟨rfl, hs2, hb2⟩
 have hz2 := hb2.size
 have H2 := Lib.hid (And.intro hs2 (And.intro hb2 ((hb2.block _ hz01).trans HL.out.2.2.1))); clear hs2 hb2
 go_wp2_with fail
 refine (l21Draw_any W1.heap.size W1.heap.size w2 H2.out.1).mono ?_
 rintro e' w3 ⟨m, u, cv, T, cuts, rfl, hsm, hu, hcv, hs3, ho3⟩
 have hz3 := ho3.size
 have hz23 : W1.heap.size < w2.heap.size := H2.out.1.lt
 obtain ⟨ta, tc, rfl, _⟩ := hu.form
 obtain ⟨ca, cc, rfl, _⟩ := hcv.form
 have hRw := ho3.heap H2.out.2.2 (fun e => by omega)
 have hBw : Below W.heap.size W w3 := HL.out.2.1.trans ((H2.out.2.1.trans (ho3.to_below (Nat.le_refl _) (by omega))).mono (by omega))
 obtain ⟨w4, hw4⟩ : ∃ w4, w4 = w3.alloc (.cells #[.int .i64 m.c, .int .i64 m.d, .int .i64 m.s, .int .i64 m.e, .int .i64 m.l, .slice ta T.length tc] 33) := ⟨_, rfl⟩
 have hb34 : Below w3.heap.size w3 w4 := by rw [hw4]; exact (Below.refl _ _).alloc (Nat.le_refl _) _
 have hM4 : w4.heap[w3.heap.size]? = some (.cells #[.int .i64 m.c, .int .i64 m.d, .int .i64 m.s, .int .i64 m.e, .int .i64 m.l, .slice ta T.length tc] 33 (0, 0)) := by rw [hw4]; exact heap_alloc_self _ _
 have hz4 : w3.heap.size < w4.heap.size := lt_of_heap hM4
 have H4 := Lib.hid (And.intro (hs3.below hb34) (And.intro (hBw.trans (hb34.mono (by omega))) (And.intro hM4 (And.intro ((hb34.block _ (by omega)).trans hRw) (And.intro (hu.below hb34) (And.intro (hcv.below hb34) (And.intro hsm hw4))))))); clear hs3 ho3 hRw hBw hb34 hM4 hu hcv hsm hw4
 have hcM : ∀ o, w4.cell? ⟨w3.heap.size, o, none⟩ = (#[.int .i64 m.c, .int .i64 m.d, .int .i64 m.s, .int .i64 m.e, .int .i64 m.l, .slice ta T.length tc] : Array Value)[o]? := fun o => by rw [cell_of_block H4.out.2.2.1]
 have hSk : ∀ w' : World, w'.heap[w3.heap.size]? = w4.heap[w3.heap.size]? → w'.cell? ⟨w3.heap.size, 0, none⟩ = some (.int .i64 m.c) ∧ w'.cell? ⟨w3.heap.size, 1, none⟩ = some (.int .i64 m.d) ∧ w'.cell? ⟨w3.heap.size, 2, none⟩ = some (.int .i64 m.s) ∧ w'.cell? ⟨w3.heap.size, 3, none⟩ = some (.int .i64 m.e) ∧ w'.cell? ⟨w3.heap.size, 4, none⟩ = some (.int .i64 m.l) ∧ w'.cell? ⟨w3.heap.size, 5, none⟩ = some (.slice ta T.length tc) := fun w' hw => by
  refine ⟨?_, ?_, ?_, ?_, ?_, ?_⟩ <;> exact cell_keep (hcM _) hw
 go_wp2_with fail
 rw [← H4.out.2.2.2.2.2.2.2]
 go_wp2_with fail
 refine wp_region_noPanic ?_
 refine wp_region_held_drew (S := fun w' => w'.cell? ⟨w3.heap.size, 0, none⟩ = some (.int .i64 m.c) ∧ w'.cell? ⟨w3.heap.size, 1, none⟩ = some (.int .i64 m.d) ∧ w'.cell? ⟨w3.heap.size, 2, none⟩ = some (.int .i64 m.s) ∧ w'.cell? ⟨w3.heap.size, 3, none⟩ = some (.int .i64 m.e) ∧ w'.cell? ⟨w3.heap.size, 4, none⟩ = some (.int .i64 m.l) ∧ w'.cell? ⟨w3.heap.size, 5, none⟩ = some (.slice ta T.length tc)) (by kernel_rfl) (hSk w4.drew rfl) (fun hHeld => ?_)
 (refine wpAnyH_take (i := 0) (v := .agg #[.int .i64 m.c, .int .i64 m.d, .int .i64 m.s, .int .i64 m.e, .int .i64 m.l, .slice ta T.length tc]) rfl (by kernel_rfl) (by kernel_rfl) (by kernel_rfl) (fun _ _ _ h => h) (Or.inl ⟨by kernel_rfl, fun w hSw => by (try dsimp only at hSw); go_split_ands; go_simp⟩) (by assumption) ?_; simp only [Act.put, List.setIfInBounds_toArray, List.set_cons_zero, List.set_cons_succ])
 (refine wpAnyH_take (i := 1) (v := .slice ca cuts.length cc) rfl (by kernel_rfl) (by kernel_rfl) (by kernel_rfl) (fun _ _ _ h => h) (Or.inl ⟨by kernel_rfl, fun w hSw => by (try dsimp only at hSw); go_split_ands; go_simp⟩) (by assumption) ?_; simp only [Act.put, List.setIfInBounds_toArray, List.set_cons_zero, List.set_cons_succ])
 (refine wpAnyH_take (i := 2) (v := .pointer (some ⟨W1.heap.size, 0, none⟩)) rfl (by kernel_rfl) (by kernel_rfl) (by kernel_rfl) (fun _ _ _ h => h) (Or.inl ⟨by kernel_rfl, fun w hSw => by (try dsimp only at hSw); go_split_ands; go_simp⟩) (by assumption) ?_; simp only [Act.put, List.setIfInBounds_toArray, List.set_cons_zero, List.set_cons_succ])
 have hL := lit_V1 w4 2 [0, 1, 3, 20, 300, 301, -1] (by simp)
 have hbi : Below w4.heap.size w4 (w4.alloc (.cells #[.int .i64 0, .int .i64 1, .int .i64 3, .int .i64 20, .int .i64 300, .int .i64 301, .int .i64 (-1)] 2)).drew := ((Below.refl w4.heap.size w4).alloc (Nat.le_refl _) _).drew
 obtain ⟨wa, hwa⟩ : ∃ wa, wa = (w4.alloc (.cells #[.int .i64 0, .int .i64 1, .int .i64 3, .int .i64 20, .int .i64 300, .int .i64 301, .int .i64 (-1)] 2)).drew := ⟨_, rfl⟩
 have hL : V1 (fun b => b = w4.heap.size) wa (.slice (some ⟨w4.heap.size, 0, none⟩) 7 7) [0, 1, 3, 20, 300, 301, -1] := by rw [hwa]; exact hL
 rw [← hwa] at hbi
 have hMa := hbi.block _ hz4
 have HA := Lib.hid (And.intro hL (And.intro hbi (And.intro (H4.out.1.below hbi) hwa))); clear hL hbi hwa
 refine wpAnyH_ready (rs := [3]) (by kernel_rfl) (by simp) (AllReadyH.cons rfl (fun K hK => ?_) AllReadyH.nil)
 go_simp
 rw [← HA.out.2.2.2]
 (refine hK.out _ _ (hSk wa hMa) (fun hHeld => ?_); clear hK K; (try simp only [Act.put, List.setIfInBounds_toArray, List.set_cons_zero, List.set_cons_succ]))
 refine wpAnyH_ready (rs := [4]) (by kernel_rfl) (by simp) (AllReadyH.cons rfl (fun K hK => ?_) AllReadyH.nil)
 go_simp
 go_at_call 129
 refine (l01Pick_any W1.heap.size W1.heap.size _ [0, 1, 3, 20, 300, 301, -1] wa HA.out.2.2.1 HA.out.1 (fun b hb => by omega) (by simp)).mono ?_
 rintro e' wb ⟨y, rfl, hy, hsb, hob⟩
 have hob4 : Only W1.heap.size w4 wb := (Only.of_below HA.out.2.1).trans hob
 clear hy hsb hob hMa hcM
 have hzb := hob4.size
 have hMb : wb.heap[w3.heap.size]? = w4.heap[w3.heap.size]? := hob4.block _ (by omega) (fun e => by omega)
 have hBb : Below W.heap.size W wb := H4.out.2.1.trans ((hob4.to_below (B := W1.heap.size) (Nat.le_refl _) (by omega)).mono (by omega))
 have hRb := hob4.heap H4.out.2.2.2.1 (fun e => by omega)
 have hub := H4.out.2.2.2.2.1.mono (S' := fun b => W1.heap.size ≤ b) (fun b hb _ => by have hb : w2.heap.size ≤ b := hb; omega) (hob4.keep fun b hb e => by have hb : w2.heap.size ≤ b := hb; omega)
 have hcb := H4.out.2.2.2.2.2.1.mono (S' := fun b => W1.heap.size ≤ b) (fun b hb _ => by have hb : w2.heap.size ≤ b := hb; omega) (hob4.keep fun b hb e => by have hb : w2.heap.size ≤ b := hb; omega)
 have hC := Lib.hid (And.intro hBb (And.intro hRb (And.intro hub (And.intro hcb hMb)))); clear hBb hRb hub hcb
 dsimp only
 (refine hK.out _ _ (hSk wb hMb) (fun hHeld => ?_); clear hK K; (try simp only [Act.put, List.setIfInBounds_toArray, List.set_cons_zero, List.set_cons_succ]))
 have hcRz : ∀ o, wb.cell? ⟨W.heap.size, o, none⟩ = (#[.int .i64 0, .int .i64 0, .int .i64 0, .int .i64 0, .int .i64 0, .slice none 0 0] : Array Value)[o]? := fun o => by rw [cell_of_block hC.out.2.1]
 have hfRz := fun o => frozen_of_block hC.out.2.1 o
 (refine wpAnyH_ready (rs := [5]) (by kernel_rfl) (by simp) (AllReadyH.cons rfl (fun K hK => ?_) AllReadyH.nil); go_simp)
 have hdone := putS_new hC.out.1 hC.out.2.1 (.int .i64 m.c) (.int .i64 m.d) (.int .i64 m.s) (.int .i64 m.e) (.int .i64 m.l) (.slice ta T.length tc)
 obtain ⟨wz, hwz⟩ : ∃ wz, wz = putS wb W.heap.size (.int .i64 m.c) (.int .i64 m.d) (.int .i64 m.s) (.int .i64 m.e) (.int .i64 m.l) (.slice ta T.length tc) := ⟨_, rfl⟩
 rw [← hwz] at hdone
 obtain ⟨hd2, hd3, hd4⟩ := hdone
 have hFz : V2 (fun b => W.heap.size ≤ b) wz (.slice ta T.length tc) T := V2.mono (S := fun b => W1.heap.size ≤ b) hC.out.2.2.1 (fun b hb _ => by have hb : W1.heap.size ≤ b := hb; omega) (fun b hb _ => hd4 b (by have hb : W1.heap.size ≤ b := hb; omega))
 have hcz : V2 (fun b => W.heap.size ≤ b) wz (.slice ca cuts.length cc) cuts := V2.mono (S := fun b => W1.heap.size ≤ b) hC.out.2.2.2.1 (fun b hb _ => by have hb : W1.heap.size ≤ b := hb; omega) (fun b hb _ => hd4 b (by have hb : W1.heap.size ≤ b := hb; omega))
 have hz0 : wz.cell? ⟨W.heap.size, 0, none⟩ = some (.int .i64 m.c) := by rw [cell_of_block hd3]; rfl
 have hz1 : wz.cell? ⟨W.heap.size, 1, none⟩ = some (.int .i64 m.d) := by rw [cell_of_block hd3]; rfl
 have hz2 : wz.cell? ⟨W.heap.size, 2, none⟩ = some (.int .i64 m.s) := by rw [cell_of_block hd3]; rfl
 have hz3 : wz.cell? ⟨W.heap.size, 3, none⟩ = some (.int .i64 m.e) := by rw [cell_of_block hd3]; rfl
 have hz4 : wz.cell? ⟨W.heap.size, 4, none⟩ = some (.int .i64 m.l) := by rw [cell_of_block hd3]; rfl
 have hz5 : wz.cell? ⟨W.heap.size, 5, none⟩ = some (.slice ta T.length tc) := by rw [cell_of_block hd3]; rfl
 have HZ := Lib.hid (And.intro hd2 (And.intro hFz (And.intro hcz (And.intro hwz (And.intro hz0 (And.intro hz1 (And.intro hz2 (And.intro hz3 (And.intro hz4 (And.intro hz5 hd4)))))))))); clear hd2 hd3 hd4 hFz hcz hwz hz0 hz1 hz2 hz3 hz4 hz5
 skip
 have hwz := HZ.out.2.2.2.1
 unfold putS putR at hwz
 rw [← hwz]
 clear hwz
 obtain ⟨hd2, hFz, hcz, hwzz, hz0, hz1, hz2, hz3, hz4, hz5, hd4⟩ := HZ.out
 clear hwzz
 have hSz := hSk wz ((hd4 _ (by omega)).trans hMb)
 (refine hK.out _ _ hSz (fun hHeld => ?_); clear hK K; (try simp only [Act.put, List.setIfInBounds_toArray, List.set_cons_zero, List.set_cons_succ]))
 (refine wpAnyH_ready (rs := [6]) (by kernel_rfl) (by simp) (AllReadyH.cons rfl (fun K hK => ?_) AllReadyH.nil); go_simp)
 (refine hK.out _ _ hSz (fun hHeld => ?_); clear hK K; (try simp only [Act.put, List.setIfInBounds_toArray, List.set_cons_zero, List.set_cons_succ]))
 (refine wpAnyH_ready (rs := [7]) (by kernel_rfl) (by simp) (AllReadyH.cons rfl (fun K hK => ?_) AllReadyH.nil); go_simp)
 (refine hK.out _ _ hSz (fun hHeld => ?_); clear hK K; (try simp only [Act.put, List.setIfInBounds_toArray, List.set_cons_zero, List.set_cons_succ]))
 refine wpAnyH_done (by kernel_rfl) (NoPanic.normal ?_) _
 go_wp2_with fail
 exact bodyPost_ret (v := .tuple #[.agg #[.int .i64 m.c, .int .i64 m.d, .int .i64 m.s, .int .i64 m.e, .int .i64 m.l, .slice ta T.length tc], .slice ca cuts.length cc, .int .i64 (y)]) (by simp [results, Tryz.results105, go_sem, hz0, hz1, hz2, hz3, hz4, hz5]) rfl ⟨m, _, _, T, cuts, [.int .i64 (y)], rfl, ⟨_, rfl⟩, hFz, hcz, hd2⟩
theorem isMakerR_b (m : Mk) (W : World) (r : Bool) (hr : m.ok = r) :
  Calls Tryz.prog 152 #[.agg #[.int .i64 m.c, .int .i64 m.d, .int .i64 m.s, .int .i64 m.e, .int .i64 m.l]] W fun e' w' => e' = .returned (.bool r) ∧ Below W.heap.size W w' := by subst hr; exact isMakerR_any m.c m.d m.s m.e m.l W
set_option maxRecDepth 100000 in
set_option maxHeartbeats 1000000 in
theorem l02DrawKey_any (B0 SB : Nat) (m : Mk) (hm : SmallM m) (W : World) (h : Src B0 SB W) :
  Calls Tryz.prog 108 #[.pointer (some ⟨SB, 0, none⟩), .agg #[.int .i64 m.c, .int .i64 m.d, .int .i64 m.s, .int .i64 m.e, .int .i64 m.l]] W fun e w' => ∃ v l, e = .returned v ∧ V1 (fun b => W.heap.size ≤ b) w' v l ∧ Src B0 SB w' ∧ Only SB W w' := by
 have hSl := h.lt
 have hB0 : B0 ≤ SB := h.1
 obtain ⟨W1, hW1, hB01, hz01, HZ01, hc01, hh01⟩ := box_facts W #[.int .i64 m.c, .int .i64 m.d, .int .i64 m.s, .int .i64 m.e, .int .i64 m.l] 31
 have HL := Lib.hid (And.intro (h.below hB01) (And.intro hm (And.intro hh01 (And.intro (Only.of_below (SB := SB) hB01) hW1)))); clear h hm hh01 hB01
 have hc01' := hc01
 go_enter Tryz.func108, Tryz.ntmps108
 go_wp2_with fail
 rw [← HL.out.2.2.2.2]
 clear hW1
 refine (l02DrawCuts_any B0 SB m HL.out.2.1 _ HL.out.1).mono ?_
 rintro e' w2 ⟨rv, l, rfl, ⟨hrv, hl9⟩, hs2, ho2⟩
 have hz2 := ho2.size
 have hh2 := ho2.heap HL.out.2.2.1 (fun e => by omega)
 have hc2 : ∀ o, w2.cell? ⟨W.heap.size, o, none⟩ = (#[.int .i64 m.c, .int .i64 m.d, .int .i64 m.s, .int .i64 m.e, .int .i64 m.l] : Array Value)[o]? := fun o => by rw [cell_of_block hh2]
 obtain ⟨ra, rc, rfl, _⟩ := hrv.v1.form
 have H2 := Lib.hid (And.intro hs2 (And.intro (HL.out.2.2.2.1.trans ho2) (And.intro hh2 hrv.v1))); clear hs2 ho2 hh2 hrv hc01 hc01'
 go_wp2_with fail
 cases hok : m.ok
 ·have Hok := Lib.hid hok; clear hok
  refine (isMakerR_b m _ false Hok.out).mono ?_
  rintro e' w3 ⟨rfl, hb3⟩
  have H3 := Lib.hid (And.intro (H2.out.1.below hb3) (And.intro (H2.out.2.1.then_below hb3) ((H2.out.2.2.2.below hb3).mono (S' := fun b => W.heap.size ≤ b) (fun b hb _ => by have hb : W1.heap.size ≤ b := hb; omega) (fun _ _ _ => rfl)))); clear hb3 hc2
  go_wp2_with fail
  go_ret
  exact ⟨_, l, rfl, H3.out.2.2, H3.out.1, H3.out.2.1⟩
 ·have Hok := Lib.hid hok; clear hok
  refine (isMakerR_b m _ true Hok.out).mono ?_
  rintro e' w3 ⟨rfl, hb3⟩
  have hz3 := hb3.size
  have hh3 := heap_below H2.out.2.2.1 hb3 (by omega)
  have H3 := Lib.hid (And.intro (H2.out.1.below hb3) (And.intro (H2.out.2.1.then_below hb3) (And.intro (H2.out.2.2.2.below hb3) hh3))); clear hb3 hc2 hh3
  go_wp2_with fail
  refine (l01Next_any B0 SB 12 _ H3.out.1).mono ?_
  rintro e' w4 ⟨x, rfl, _, hs4, ho4⟩
  have hz4 := ho4.size
  have hh4 := ho4.heap H3.out.2.2.2 (fun e => by omega)
  have hc4 : ∀ o, w4.cell? ⟨W.heap.size, o, none⟩ = (#[.int .i64 m.c, .int .i64 m.d, .int .i64 m.s, .int .i64 m.e, .int .i64 m.l] : Array Value)[o]? := fun o => by rw [cell_of_block hh4]
  have hV4 : V1 (fun b => W.heap.size ≤ b) w4 (.slice ra l.length rc) l := H3.out.2.2.1.mono (fun b hb _ => by have hb : W1.heap.size ≤ b := hb; omega) (ho4.keep fun b hb e => by have hb : W1.heap.size ≤ b := hb; omega)
  have H4 := Lib.hid (And.intro hs4 (And.intro (H3.out.2.1.trans ho4) hV4)); clear hs4 ho4 hh4 hV4
  by_cases hx : x = 0
  ·subst hx
   clear hc4
   go_wp2_with fail
   go_ret
   exact ⟨_, l, rfl, H4.out.2.2, H4.out.1, H4.out.2.1⟩
  ·have hxd : (x == 0) = false := by simp [hx]
   clear hx
   go_wp2_with fail
   refine (l02Some_any B0 SB m Hok.out _ H4.out.1).mono ?_
   rintro e' w5 ⟨kv, key, rfl, ⟨hkv, _⟩, hs5, ho5⟩
   have H5 := Lib.hid (And.intro (hkv.mono (S' := fun b => W.heap.size ≤ b) (fun b hb _ => by have hb : w4.heap.size ≤ b := hb; omega) (fun _ _ _ => rfl)) (And.intro hs5 (H4.out.2.1.trans ho5))); clear hkv hs5 ho5 hc4
   go_wp2_with fail
   go_ret
   exact ⟨_, key, rfl, H5.out.1, H5.out.2.1, H5.out.2.2⟩
theorem PartOk.take {m : Mk} {t cuts : List (List Int)} (h : PartOk m t cuts) (r : Nat) : PartOk m t (cuts.take r) := by
 have hf := h.few
 refine ⟨h.sys, by rw [List.length_take]; omega, allKeys_iff.2 fun k hk => ?_⟩
 rw [List.length_take] at hk
 rw [getl_take (by omega)]
 exact allKeys_iff.1 h.keys k (by omega)
/-- Going back row by row: where the walk stands. -/
def NextAt (m : Mk) (n : Nat) (t cuts : List (List Int)) (limit : Nat) (res : DSt) (r : Nat) (s : DSt) : Prop :=
 (actK s ∧ res = nextF m n t cuts limit r s) ∨ (¬ actK s ∧ res = s)
theorem NextAt.step {m : Mk} {n : Nat} {t cuts : List (List Int)} {limit : Nat} {res : DSt} {r : Nat} {s : DSt} (h : NextAt m n t cuts limit res (r + 1) s) (ha : actK s) : NextAt m n t cuts limit res r (backF m n t cuts limit r s).1 := by
 rcases h with ⟨_, h⟩ | ⟨h, _⟩
 ·have h1 := backF_actK (m := m) (n := n) (t := t) (cuts := cuts) (limit := limit) (row := r) ha
  unfold nextF at h
  by_cases hb : (backF m n t cuts limit r s).2 = true
  ·rw [if_pos hb] at h
   exact .inl ⟨h1.1 hb, h⟩
  ·rw [if_neg hb] at h
   exact .inr ⟨fun hh => hb (h1.2 hh), h⟩
 ·exact absurd ha h
theorem NextAt.last {m : Mk} {n : Nat} {t cuts : List (List Int)} {limit : Nat} {res : DSt} {s : DSt} (h : NextAt m n t cuts limit res 0 s) : res = s := by
 rcases h with ⟨_, h⟩ | ⟨_, h⟩ <;> exact h
theorem NextAt.stop {m : Mk} {n : Nat} {t cuts : List (List Int)} {limit : Nat} {res : DSt} {r : Nat} {s : DSt} (h : NextAt m n t cuts limit res r s) (hn : ¬ actK s) : res = s := by
 rcases h with ⟨h, _⟩ | ⟨_, h⟩
 ·exact absurd h hn
 ·exact h
def DrawCc (W : World) : Ending → World → Prop := DrawC W fun _ _ _ w' vs => ∃ dv dd, vs = [dv] ∧ V2 (fun b => W.heap.size ≤ b) w' dv dd
theorem DrawCc.open {W w' : World} {e : Ending} (h : DrawCc W e w') : ∃ (m : Mk) (u cv : Value) (T cuts : List (List Int)) (dv : Value) (dd : List (List Int)), e = .returned (.tuple #[.agg #[.int .i64 m.c, .int .i64 m.d, .int .i64 m.s, .int .i64 m.e, .int .i64 m.l, u], cv, dv]) ∧ V2 (fun b => W.heap.size ≤ b) w' dv dd ∧ V2 (fun b => W.heap.size ≤ b) w' u T ∧ V2 (fun b => W.heap.size ≤ b) w' cv cuts ∧ Below W.heap.size W w' := by
 obtain ⟨m, u, cv, T, cuts, vs, rfl, ⟨dv, dd, rfl, h0⟩, h1, h2, h3⟩ := h
 exact ⟨m, u, cv, T, cuts, dv, dd, rfl, h0, h1, h2, h3⟩
end Go.Proofs.YtmjplkbmhdkggaaGreat
