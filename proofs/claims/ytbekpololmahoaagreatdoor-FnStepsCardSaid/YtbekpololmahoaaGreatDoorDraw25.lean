/- The reference's draw of a system and steps. No conditions. -/
import Derived.Test.YtbekpololmahoaaGreatDoorDraw24
namespace Go.Proofs.YtbekpololmahoaaGreatDoor
open Go.RowKit
set_option linter.unusedVariables false
set_option linter.unusedSimpArgs false
def DrawSt (B0 SB : Nat) (W : World) (e : Ending) (w' : World) : Prop :=
 ∃ (m : Mk) (u sv : Value) (T : List (List Int)) (st : List (Int × Int)), e = .returned (.tuple #[.agg #[.int .i64 m.c, .int .i64 m.d, .int .i64 m.s, .int .i64 m.e, .int .i64 m.l, u], sv]) ∧ SmallM m ∧ V2 (fun b => W.heap.size ≤ b) w' u T ∧ VS (fun b => W.heap.size ≤ b) w' sv st ∧ Src B0 SB w' ∧ Only SB W w' ∧ st.length ≤ 1048577
/-- What lies ready before the steps are changed. -/
structure StAt (B0 SB : Nat) (W W1 w2 : World) (m : Mk) (tv : Value) (T : List (List Int)) (w : World) (sv : Value) (st : List (Int × Int)) : Prop where
 src : Src B0 SB w
 only : Only SB W w
 hm : w.heap[w2.heap.size]? = some (.cells #[.int .i64 m.c, .int .i64 m.d, .int .i64 m.s, .int .i64 m.e, .int .i64 m.l, tv] 35 (0, 0))
 hr : w.heap[W.heap.size]? = some (.cells #[.int .i64 0, .int .i64 0, .int .i64 0, .int .i64 0, .int .i64 0, .slice none 0 0] 35 (0, 0))
 tab : V2 (fun b => W1.heap.size ≤ b ∧ b < w2.heap.size) w tv T
 own : OS (w2.heap.size + 1) w sv st
theorem StAt.step {B0 SB : Nat} {W W1 w2 w w' : World} {m : Mk} {tv sv : Value} {T : List (List Int)} {st : List (Int × Int)} (h : StAt B0 SB W W1 w2 m tv T w sv st) (hs : Src B0 SB w') (ho : Only SB w w') (h1 : SB < W.heap.size) (h2 : SB < W1.heap.size) (h3 : SB < w2.heap.size) : StAt B0 SB W W1 w2 m tv T w' sv st :=
 ⟨hs, h.only.trans ho, ho.heap h.hm (fun e => by omega), ho.heap h.hr (fun e => by omega), h.tab.mono (fun _ h _ => h) (fun b hb hlt => ho.block b hlt (fun e => by have := hb.1; omega)), h.own.only ho (by omega)⟩
theorem zero_steps {w : World} {b n B : Nat} {cs : Array Value} {E : TypeId} (h : w.heap[b]? = some (.cells cs E (0, 0))) (hc : cs.toList = (madeCells (Value.agg #[.int .i64 0, .int .i64 0]).cells (n * 2)).toList) (hn : n ≤ maxLen) (hB : B ≤ b) :
  VS (fun b => B ≤ b) w (.slice (some ⟨b, 0, none⟩) n n) (List.replicate n (0, 0)) := by
 have hg : ∀ j, j < n * 2 → cs[j]? = some (.int .i64 0) := fun j hj => by
  have e : (Value.agg #[.int .i64 0, .int .i64 0]).cells = #[.int .i64 0, .int .i64 0] := by kernel_rfl
  rw [← Array.getElem?_toList, hc, e, Array.getElem?_toList]
  unfold madeCells
  rw [Array.getElem?_map]
  rcases Nat.mod_two_eq_zero_or_one j with h | h <;> simp [hj, h]
 refine ⟨_, n, by rw [List.length_replicate], by rw [List.length_replicate]; exact Nat.le_refl _, hn, fun k hk => ?_⟩
 rw [List.length_replicate] at hk
 have e : gets (List.replicate n ((0 : Int), (0 : Int))) k = (0, 0) := by
  rw [gets_eq (by simpa using hk), List.getElem_replicate]
 rw [e]
 exact ⟨b, 0, rfl, hB, by rw [cell_of_block h, Nat.zero_add]; exact hg _ (by omega), by rw [cell_of_block h, Nat.zero_add]; exact hg _ (by omega)⟩
set_option maxRecDepth 100000 in
set_option maxHeartbeats 4000000 in
theorem l19Draw_any (B0 SB : Nat) (W : World) (h : Src B0 SB W) :
  Calls Tryz.prog 19 #[.pointer (some ⟨SB, 0, none⟩)] W (DrawSt B0 SB W) := by
 have hSl := h.lt
 have hB0 : B0 ≤ SB := h.1
 obtain ⟨W1, hW1, hB01, hz01, HZ01, _, hh01⟩ := box_facts W #[.int .i64 0, .int .i64 0, .int .i64 0, .int .i64 0, .int .i64 0, .slice none 0 0] 35
 have hz1e := HZ01.out
 have hz1l : W1.heap.size ≤ W.heap.size + 1 := by omega
 have hs1' := h.below hB01
 have HL := Lib.hid (And.intro hs1' (And.intro hB01 (And.intro hh01 hW1))); clear hs1' h hh01 hB01 hz1e
 go_enter Tryz.func19, Tryz.ntmps19
 go_wp2_with fail
 rw [← HL.out.2.2.2]
 clear hW1
 refine (l19DrawSystem_any B0 SB _ HL.out.1).mono ?_
 rintro e' w2 ⟨m, u, T, rfl, hsm, hu, hT12, hs2, ho2⟩
 have hz2 := ho2.size
 obtain ⟨ta, tc, rfl, _⟩ := hu.form
 obtain ⟨w3, hw3⟩ : ∃ w3, w3 = w2.alloc (.cells #[.int .i64 m.c, .int .i64 m.d, .int .i64 m.s, .int .i64 m.e, .int .i64 m.l, .slice ta T.length tc] 35) := ⟨_, rfl⟩
 have hb23 : Below w2.heap.size w2 w3 := by rw [hw3]; exact (Below.refl _ _).alloc (Nat.le_refl _) _
 have hM3 : w3.heap[w2.heap.size]? = some (.cells #[.int .i64 m.c, .int .i64 m.d, .int .i64 m.s, .int .i64 m.e, .int .i64 m.l, .slice ta T.length tc] 35 (0, 0)) := by rw [hw3]; exact heap_alloc_self _ _
 have hz3 : w3.heap.size = w2.heap.size + 1 := by rw [hw3]; simp
 have hR3 : w3.heap[W.heap.size]? = some (.cells #[.int .i64 0, .int .i64 0, .int .i64 0, .int .i64 0, .int .i64 0, .slice none 0 0] 35 (0, 0)) := (hb23.block _ (by omega)).trans (ho2.heap HL.out.2.2.1 (fun e => by omega))
 have hc3 : ∀ o, w3.cell? ⟨w2.heap.size, o, none⟩ = (#[.int .i64 m.c, .int .i64 m.d, .int .i64 m.s, .int .i64 m.e, .int .i64 m.l, .slice ta T.length tc] : Array Value)[o]? := fun o => by rw [cell_of_block hM3]
 have HM := Lib.hid hsm; clear hsm
 have H3 := Lib.hid (And.intro (hs2.below hb23) (And.intro (((Only.of_below HL.out.2.1).trans ho2).then_below hb23) (And.intro hM3 (And.intro hR3 (And.intro ((hu.mono (S' := fun b => W1.heap.size ≤ b ∧ b < w2.heap.size) (fun b hb hlt => ⟨hb, hlt⟩) (fun _ _ _ => rfl)).below hb23) hw3))))); clear hs2 ho2 hb23 hM3 hR3 hu hw3 hT12
 go_wp2_with fail
 rw [← H3.out.2.2.2.2.2]
 refine (RefuteRf_any m _ T w3 H3.out.2.2.2.2.1).mono ?_
 rintro e' w4 ⟨sv0, rfl, hO, hb4⟩
 have hz4 := hb4.size
 obtain ⟨ra, rcd, hra⟩ : ∃ a b, refuteAns m T = (a, b) := ⟨_, _, rfl⟩
 rw [hra] at hO ⊢
 dsimp only at hO ⊢
 have hO : OS (w2.heap.size + 1) w4 sv0 ra := own_basez hO (by omega)
 have H4 := Lib.hid (StAt.mk (B0 := B0) (SB := SB) (W := W) (W1 := W1) (w2 := w2) (m := m) (tv := .slice ta T.length tc) (T := T) (H3.out.1.below hb4) (H3.out.2.1.then_below hb4) (heap_below H3.out.2.2.1 hb4 (by omega)) (heap_below H3.out.2.2.2.1 hb4 (by omega)) (H3.out.2.2.2.2.1.below hb4) hO); clear hc3 hb4
 obtain ⟨sa, sc, rfl, hslc, hscm⟩ := own_formz hO
 clear hO
 by_cases hc : rcd = 0
 ·subst hc
  obtain ⟨hne, hmx⟩ := refute_ne hra
  have HS0 := H4; clear H4 hra
  go_wp2_with fail
  refine (l01Next_any B0 SB _ _ HS0.out.src).mono ?_
  rintro e' w6 ⟨k0, rfl, ⟨hk0, hk1⟩, hs6, ho6⟩
  obtain ⟨k, rfl⟩ : ∃ q : Nat, k0 = (q : Int) := ⟨k0.toNat, by omega⟩
  have hk : k < ra.length := by omega
  have hz6 := ho6.size
  have HS6 := Lib.hid (HS0.out.step hs6 ho6 (by omega) (by omega) (by omega)); clear hs6 ho6 hk0 hk1
  go_wp2_with fail
  refine (l01Next_any B0 SB 12 _ HS6.out.src).mono ?_
  rintro e' w7 ⟨x, rfl, ⟨hx0, hx1⟩, hs7, ho7⟩
  have hz7 := ho7.size
  have HS7 := Lib.hid (HS6.out.step hs7 ho7 (by omega) (by omega) (by omega)); clear hs7 ho7
  by_cases hx : x = 0
  ·subst hx
   clear hx0 hx1
   have hbi : Below w7.heap.size w7 (w7.alloc (.cells #[.int .i64 (-1), .int .i64 0, .int .i64 1, .int .i64 2, .int .i64 10] 2)) := (Below.refl w7.heap.size w7).alloc (Nat.le_refl _) _
   obtain ⟨wa, hwa⟩ : ∃ wa, wa = w7.alloc (.cells #[.int .i64 (-1), .int .i64 0, .int .i64 1, .int .i64 2, .int .i64 10] 2) := ⟨_, rfl⟩
   have hL : V1 (fun b => b = w7.heap.size) wa (.slice (some ⟨w7.heap.size, 0, none⟩) 5 5) [-1, 0, 1, 2, 10] := by rw [hwa]; exact lit_V1 w7 2 [-1, 0, 1, 2, 10] (by simp)
   rw [← hwa] at hbi
   have hza := hbi.size
   have HA := Lib.hid (And.intro (HS7.out.step (HS7.out.src.below hbi) (Only.of_below hbi) (by omega) (by omega) (by omega)) (And.intro hL hwa)); clear hbi hwa hL
   go_wp2_with fail
   rw [← HA.out.2.2]
   refine (l01Pick_any B0 SB _ [-1, 0, 1, 2, 10] wa HA.out.1.src HA.out.2.1 (fun b hb => by omega) (by simp)).mono ?_
   rintro e' wb ⟨y1, rfl, _, hsb, hob⟩
   have hzb := hob.size
   have hbi : Below wb.heap.size wb (wb.alloc (.cells #[.int .i64 0, .int .i64 0, .int .i64 1, .int .i64 2, .int .i64 12] 2)) := (Below.refl wb.heap.size wb).alloc (Nat.le_refl _) _
   obtain ⟨wc, hwc⟩ : ∃ wc, wc = wb.alloc (.cells #[.int .i64 0, .int .i64 0, .int .i64 1, .int .i64 2, .int .i64 12] 2) := ⟨_, rfl⟩
   have hL : V1 (fun b => b = wb.heap.size) wc (.slice (some ⟨wb.heap.size, 0, none⟩) 5 5) [0, 0, 1, 2, 12] := by rw [hwc]; exact lit_V1 wb 2 [0, 0, 1, 2, 12] (by simp)
   rw [← hwc] at hbi
   have hzc := hbi.size
   have HB := Lib.hid (HA.out.1.step hsb hob (by omega) (by omega) (by omega)); clear hsb hob
   have HC := Lib.hid (And.intro (HB.out.step (HB.out.src.below hbi) (Only.of_below hbi) (by omega) (by omega) (by omega)) (And.intro hL hwc)); clear hbi hwc hL
   go_wp2_with fail
   rw [← HC.out.2.2]
   refine (l01Pick_any B0 SB _ [0, 0, 1, 2, 12] wc HC.out.1.src HC.out.2.1 (fun b hb => by omega) (by simp)).mono ?_
   rintro e' wd ⟨y2, rfl, _, hsd, hod⟩
   have hzd := hod.size
   have HD := Lib.hid (HC.out.1.step hsd hod (by omega) (by omega) (by omega)); clear hsd hod
   have hO := HD.out.own
   obtain ⟨gs, hgs, hgB, hgl, ⟨u1, hu1⟩, ⟨u2, hu2⟩, hfg, hput⟩ := OS.put (k := k) (l := ra) hO (show k < ra.length by omega)
   have hget := hput y1 y2
   obtain ⟨we, hwe⟩ : ∃ we, we = (wd.setCell ⟨gs, k * 2, none⟩ (.int .i64 y1)).setCell ⟨gs, k * 2 + 1, none⟩ (.int .i64 y2) := ⟨_, rfl⟩
   rw [← hwe] at hget
   have hse : Src B0 SB we := Src.only (Src.only HD.out.src (b := gs) (off := k * 2) (by omega) (by omega) (.int .i64 y1) rfl) (b := gs) (off := k * 2 + 1) (by omega) (by omega) (.int .i64 y2) hwe
   have hoe : Only SB W we := by rw [hwe]; exact (HD.out.only.setNew (by omega) _).setNew (by omega) _
   have hkeep : ∀ b, b ≠ gs → we.heap[b]? = wd.heap[b]? := fun b hb => by rw [hwe]; exact (heap_setCell_other _ hb).trans (heap_setCell_other _ hb)
   have hMe := (hkeep w2.heap.size (by omega)).trans HD.out.hm
   have hRe := (hkeep W.heap.size (by omega)).trans HD.out.hr
   have hTe : V2 (fun b => W1.heap.size ≤ b ∧ b < w2.heap.size) we (.slice ta T.length tc) T := HD.out.tab.mono (fun _ h _ => h) (fun b hb _ => hkeep b (by have := hb.2; omega))
   have HE := Lib.hid (And.intro hse (And.intro hoe (And.intro hMe (And.intro hRe (And.intro hTe (And.intro hget hwe)))))); clear hse hoe hkeep hMe hRe hTe hget hwe hput hO
   first | subst hgs | (simp only [Option.some.injEq, Addr.mk.injEq, and_true] at hgs; subst hgs)
   have hcM : ∀ o, ((wd.setCell ⟨gs, k * 2, none⟩ (.int .i64 y1)).setCell ⟨gs, k * 2 + 1, none⟩ (.int .i64 y2)).cell? ⟨w2.heap.size, o, none⟩ = (#[.int .i64 m.c, .int .i64 m.d, .int .i64 m.s, .int .i64 m.e, .int .i64 m.l, .slice ta T.length tc] : Array Value)[o]? := fun o => by rw [← HE.out.2.2.2.2.2.2, cell_of_block HE.out.2.2.1]
   have hcRz : ∀ o, ((wd.setCell ⟨gs, k * 2, none⟩ (.int .i64 y1)).setCell ⟨gs, k * 2 + 1, none⟩ (.int .i64 y2)).cell? ⟨W.heap.size, o, none⟩ = (#[.int .i64 0, .int .i64 0, .int .i64 0, .int .i64 0, .int .i64 0, .slice none 0 0] : Array Value)[o]? := fun o => by rw [← HE.out.2.2.2.2.2.2, cell_of_block HE.out.2.2.2.1]
   have hfRz : ∀ o, ((wd.setCell ⟨gs, k * 2, none⟩ (.int .i64 y1)).setCell ⟨gs, k * 2 + 1, none⟩ (.int .i64 y2)).frozen? ⟨W.heap.size, o, none⟩ = false := fun o => by rw [← HE.out.2.2.2.2.2.2]; exact frozen_of_block HE.out.2.2.2.1 o
   have hkn : ¬ ra.length ≤ k := by omega
   have hlst : ((ra.set k (y1, y2))).length ≤ 1048577 := by first | omega | (simp; done) | (simp; omega)
   have hdone := putS_facts HE.out.1 HE.out.2.1 HE.out.2.2.2.1 (by omega) (Nat.le_refl _) (by omega) (.int .i64 m.c) (.int .i64 m.d) (.int .i64 m.s) (.int .i64 m.e) (.int .i64 m.l) (.slice ta T.length tc)
   obtain ⟨wz, hwz⟩ : ∃ wz, wz = putS we W.heap.size (.int .i64 m.c) (.int .i64 m.d) (.int .i64 m.s) (.int .i64 m.e) (.int .i64 m.l) (.slice ta T.length tc) := ⟨_, rfl⟩
   rw [← hwz] at hdone
   obtain ⟨hd1, hd2, hd3, hd4⟩ := hdone
   have hFz : V2 (fun b => W.heap.size ≤ b) wz (.slice ta T.length tc) T := V2.mono (S := fun b => W1.heap.size ≤ b ∧ b < w2.heap.size) HE.out.2.2.2.2.1 (fun b hb _ => by have hb := hb.1; omega) (fun b hb _ => hd4 b (by have hb := hb.1; omega))
   have hQz : VS (fun b => W.heap.size ≤ b) wz (.slice (some ⟨gs, 0, none⟩) ra.length sc) (ra.set k (y1, y2)) := VS.mono (S := fun b => w2.heap.size + 1 ≤ b) HE.out.2.2.2.2.2.1 (fun b hb _ => by have hb : w2.heap.size + 1 ≤ b := hb; omega) (fun b hb _ => hd4 b (by have hb : w2.heap.size + 1 ≤ b := hb; omega))
   have hz0 : wz.cell? ⟨W.heap.size, 0, none⟩ = some (.int .i64 m.c) := by rw [cell_of_block hd3]; rfl
   have hz1 : wz.cell? ⟨W.heap.size, 1, none⟩ = some (.int .i64 m.d) := by rw [cell_of_block hd3]; rfl
   have hz2 : wz.cell? ⟨W.heap.size, 2, none⟩ = some (.int .i64 m.s) := by rw [cell_of_block hd3]; rfl
   have hz3 : wz.cell? ⟨W.heap.size, 3, none⟩ = some (.int .i64 m.e) := by rw [cell_of_block hd3]; rfl
   have hz4 : wz.cell? ⟨W.heap.size, 4, none⟩ = some (.int .i64 m.l) := by rw [cell_of_block hd3]; rfl
   have hz5 : wz.cell? ⟨W.heap.size, 5, none⟩ = some (.slice ta T.length tc) := by rw [cell_of_block hd3]; rfl
   have HZ := Lib.hid (And.intro hd1 (And.intro hd2 (And.intro hFz (And.intro hwz (And.intro hz0 (And.intro hz1 (And.intro hz2 (And.intro hz3 (And.intro hz4 (And.intro hz5 hQz)))))))))); clear hd1 hd2 hd3 hd4 hFz hwz hz0 hz1 hz2 hz3 hz4 hz5 hQz
   go_wp2_with fail
   have hwz := HZ.out.2.2.2.1
   unfold putS putR at hwz
   rw [HE.out.2.2.2.2.2.2] at hwz
   rw [← hwz]
   clear hwz
   obtain ⟨hd1, hd2, hFz, hwzz, hz0, hz1, hz2, hz3, hz4, hz5, hQz⟩ := HZ.out
   clear hwzz
   exact bodyPost_ret (v := .tuple #[.agg #[.int .i64 m.c, .int .i64 m.d, .int .i64 m.s, .int .i64 m.e, .int .i64 m.l, .slice ta T.length tc], (.slice (some ⟨gs, 0, none⟩) ra.length sc)]) (by simp [results, Tryz.results19, go_sem, hz0, hz1, hz2, hz3, hz4, hz5]) rfl ⟨m, _, _, T, (ra.set k (y1, y2)), rfl, HM.out, hFz, hQz, hd1, hd2, hlst⟩
  ·have hxa : (x == 0) = false := by simp [hx]
   by_cases hx' : x = 1
   ·subst hx'
    clear hx0 hx1 hxa hx
    have hcM : ∀ o, w7.cell? ⟨w2.heap.size, o, none⟩ = (#[.int .i64 m.c, .int .i64 m.d, .int .i64 m.s, .int .i64 m.e, .int .i64 m.l, .slice ta T.length tc] : Array Value)[o]? := fun o => by rw [cell_of_block HS7.out.hm]
    have hcRz : ∀ o, w7.cell? ⟨W.heap.size, o, none⟩ = (#[.int .i64 0, .int .i64 0, .int .i64 0, .int .i64 0, .int .i64 0, .slice none 0 0] : Array Value)[o]? := fun o => by rw [cell_of_block HS7.out.hr]
    have hfRz := fun o => frozen_of_block HS7.out.hr o
    have hkc : k ≤ sc := by omega
    have hkc2 : ¬ sc < k := by omega
    have hlst : ((ra.take k)).length ≤ 1048577 := by first | omega | (simp; done) | (simp; omega)
    have hdone := putS_facts HS7.out.src HS7.out.only HS7.out.hr (by omega) (Nat.le_refl _) (by omega) (.int .i64 m.c) (.int .i64 m.d) (.int .i64 m.s) (.int .i64 m.e) (.int .i64 m.l) (.slice ta T.length tc)
    obtain ⟨wz, hwz⟩ : ∃ wz, wz = putS w7 W.heap.size (.int .i64 m.c) (.int .i64 m.d) (.int .i64 m.s) (.int .i64 m.e) (.int .i64 m.l) (.slice ta T.length tc) := ⟨_, rfl⟩
    rw [← hwz] at hdone
    obtain ⟨hd1, hd2, hd3, hd4⟩ := hdone
    have hFz : V2 (fun b => W.heap.size ≤ b) wz (.slice ta T.length tc) T := V2.mono (S := fun b => W1.heap.size ≤ b ∧ b < w2.heap.size) HS7.out.tab (fun b hb _ => by have hb := hb.1; omega) (fun b hb _ => hd4 b (by have hb := hb.1; omega))
    have hQz : VS (fun b => W.heap.size ≤ b) wz (.slice sa k sc) (ra.take k) := VS.mono (S := fun b => w2.heap.size + 1 ≤ b) (VS.take HS7.out.own.vs (show k ≤ ra.length by omega)) (fun b hb _ => by have hb : w2.heap.size + 1 ≤ b := hb; omega) (fun b hb _ => hd4 b (by have hb : w2.heap.size + 1 ≤ b := hb; omega))
    have hz0 : wz.cell? ⟨W.heap.size, 0, none⟩ = some (.int .i64 m.c) := by rw [cell_of_block hd3]; rfl
    have hz1 : wz.cell? ⟨W.heap.size, 1, none⟩ = some (.int .i64 m.d) := by rw [cell_of_block hd3]; rfl
    have hz2 : wz.cell? ⟨W.heap.size, 2, none⟩ = some (.int .i64 m.s) := by rw [cell_of_block hd3]; rfl
    have hz3 : wz.cell? ⟨W.heap.size, 3, none⟩ = some (.int .i64 m.e) := by rw [cell_of_block hd3]; rfl
    have hz4 : wz.cell? ⟨W.heap.size, 4, none⟩ = some (.int .i64 m.l) := by rw [cell_of_block hd3]; rfl
    have hz5 : wz.cell? ⟨W.heap.size, 5, none⟩ = some (.slice ta T.length tc) := by rw [cell_of_block hd3]; rfl
    have HZ := Lib.hid (And.intro hd1 (And.intro hd2 (And.intro hFz (And.intro hwz (And.intro hz0 (And.intro hz1 (And.intro hz2 (And.intro hz3 (And.intro hz4 (And.intro hz5 hQz)))))))))); clear hd1 hd2 hd3 hd4 hFz hwz hz0 hz1 hz2 hz3 hz4 hz5 hQz
    go_wp2_with fail
    have hwz := HZ.out.2.2.2.1
    unfold putS putR at hwz
    skip
    rw [← hwz]
    clear hwz
    obtain ⟨hd1, hd2, hFz, hwzz, hz0, hz1, hz2, hz3, hz4, hz5, hQz⟩ := HZ.out
    clear hwzz
    exact bodyPost_ret (v := .tuple #[.agg #[.int .i64 m.c, .int .i64 m.d, .int .i64 m.s, .int .i64 m.e, .int .i64 m.l, .slice ta T.length tc], (.slice sa k sc)]) (by simp [results, Tryz.results19, go_sem, hz0, hz1, hz2, hz3, hz4, hz5]) rfl ⟨m, _, _, T, (ra.take k), rfl, HM.out, hFz, hQz, hd1, hd2, hlst⟩
   ·have hxb : (x == 1) = false := by simp [hx']
    by_cases hx2 : x = 2
    ·subst hx2
     clear hx0 hx1 hxa hxb hx hx'
     have hbA : Below w7.heap.size w7 (w7.alloc (.cells #[.int .i64 (-1), .int .i64 0] 48)) := (Below.refl w7.heap.size w7).alloc (Nat.le_refl _) _
     have hown7 := HS7.out.own
     unfold OS at hown7
     skip
     go_wp2_with (at_builtin; refine wp_app rfl _ _ 24 rfl (w2.heap.size + 1) 48 (.agg #[.int .i64 0, .int .i64 0]) 2 16 Tryz.underlying24 inf_step rfl (by omega) _ _ _ rfl (hown7.alloc _) ⟨_, 0, none⟩ 1 1 [.int .i64 (-1), .int .i64 0] rfl rfl (World.news_of_block (heap_alloc_new _ _)) (by simp [Value.oneCell']) (by unfold maxLen; omega) (by omega) (by first | omega | (simp; omega)) ?_; intro v8 w8 hown8 hgrow8 hblk8; have hg8 : Chg (fun i => w2.heap.size + 1 ≤ i) w7 w8 := (Chg.of_below hbA).grown hgrow8 (fun g hg => .inl (hown7.lt g hg).1); obtain ⟨gg, cap, rfl, hglt⟩ := own_some2 hown8; have hs8 : Src B0 SB w8 := HS7.out.src.keep hg8 (fun b hb => ⟨by have hb : w2.heap.size + 1 ≤ b := hb; omega, by have hb : w2.heap.size + 1 ≤ b := hb; omega⟩); have ho8 : Only SB W w8 := Chg.trans HS7.out.only (G := fun i => w2.heap.size + 1 ≤ i) hg8 (fun i hi => .inr (by have hi : w2.heap.size + 1 ≤ i := hi; omega)); have hM8 := (hg8.block w2.heap.size (lt_of_heap HS7.out.hm) (fun e => by have e : w2.heap.size + 1 ≤ w2.heap.size := e; omega)).trans HS7.out.hm; have hR8 := (hg8.block W.heap.size (lt_of_heap HS7.out.hr) (fun e => by have e : w2.heap.size + 1 ≤ W.heap.size := e; omega)).trans HS7.out.hr; have hT8 := HS7.out.tab.mono (fun _ h _ => h) (fun b hb hlt => hg8.block b hlt (fun e => by have e : w2.heap.size + 1 ≤ b := e; have := hb.2; omega)); have hO8 : OS (w2.heap.size + 1) w8 (.slice (some ⟨gg, 0, none⟩) (ra.length + 1) cap) (ra ++ [(-1, 0)]) := (by unfold OS; rw [flatS_snoc, List.length_append]; skip; exact hown8); have HS8 := Lib.hid (StAt.mk hs8 ho8 hM8 hR8 hT8 hO8); clear hs8 ho8 hM8 hR8 hT8 hO8 hown8 hgrow8 hblk8 hg8 hown7; have hcM : ∀ o, w8.cell? ⟨w2.heap.size, o, none⟩ = (#[.int .i64 m.c, .int .i64 m.d, .int .i64 m.s, .int .i64 m.e, .int .i64 m.l, .slice ta T.length tc] : Array Value)[o]? := (fun o => by rw [cell_of_block HS8.out.hm]); have hcRz : ∀ o, w8.cell? ⟨W.heap.size, o, none⟩ = (#[.int .i64 0, .int .i64 0, .int .i64 0, .int .i64 0, .int .i64 0, .slice none 0 0] : Array Value)[o]? := (fun o => by rw [cell_of_block HS8.out.hr]); have hfRz := fun o => frozen_of_block HS8.out.hr o)
     have hlst : ((ra ++ [(-1, 0)])).length ≤ 1048577 := by first | omega | (simp; done) | (simp; omega)
     have hdone := putS_facts HS8.out.src HS8.out.only HS8.out.hr (by omega) (Nat.le_refl _) (by omega) (.int .i64 m.c) (.int .i64 m.d) (.int .i64 m.s) (.int .i64 m.e) (.int .i64 m.l) (.slice ta T.length tc)
     obtain ⟨wz, hwz⟩ : ∃ wz, wz = putS w8 W.heap.size (.int .i64 m.c) (.int .i64 m.d) (.int .i64 m.s) (.int .i64 m.e) (.int .i64 m.l) (.slice ta T.length tc) := ⟨_, rfl⟩
     rw [← hwz] at hdone
     obtain ⟨hd1, hd2, hd3, hd4⟩ := hdone
     have hFz : V2 (fun b => W.heap.size ≤ b) wz (.slice ta T.length tc) T := V2.mono (S := fun b => W1.heap.size ≤ b ∧ b < w2.heap.size) HS8.out.tab (fun b hb _ => by have hb := hb.1; omega) (fun b hb _ => hd4 b (by have hb := hb.1; omega))
     have hQz : VS (fun b => W.heap.size ≤ b) wz (.slice (some ⟨gg, 0, none⟩) (ra.length + 1) cap) (ra ++ [(-1, 0)]) := VS.mono (S := fun b => w2.heap.size + 1 ≤ b) HS8.out.own.vs (fun b hb _ => by have hb : w2.heap.size + 1 ≤ b := hb; omega) (fun b hb _ => hd4 b (by have hb : w2.heap.size + 1 ≤ b := hb; omega))
     have hz0 : wz.cell? ⟨W.heap.size, 0, none⟩ = some (.int .i64 m.c) := by rw [cell_of_block hd3]; rfl
     have hz1 : wz.cell? ⟨W.heap.size, 1, none⟩ = some (.int .i64 m.d) := by rw [cell_of_block hd3]; rfl
     have hz2 : wz.cell? ⟨W.heap.size, 2, none⟩ = some (.int .i64 m.s) := by rw [cell_of_block hd3]; rfl
     have hz3 : wz.cell? ⟨W.heap.size, 3, none⟩ = some (.int .i64 m.e) := by rw [cell_of_block hd3]; rfl
     have hz4 : wz.cell? ⟨W.heap.size, 4, none⟩ = some (.int .i64 m.l) := by rw [cell_of_block hd3]; rfl
     have hz5 : wz.cell? ⟨W.heap.size, 5, none⟩ = some (.slice ta T.length tc) := by rw [cell_of_block hd3]; rfl
     have HZ := Lib.hid (And.intro hd1 (And.intro hd2 (And.intro hFz (And.intro hwz (And.intro hz0 (And.intro hz1 (And.intro hz2 (And.intro hz3 (And.intro hz4 (And.intro hz5 hQz)))))))))); clear hd1 hd2 hd3 hd4 hFz hwz hz0 hz1 hz2 hz3 hz4 hz5 hQz
     skip
     have hwz := HZ.out.2.2.2.1
     unfold putS putR at hwz
     skip
     rw [← hwz]
     clear hwz
     obtain ⟨hd1, hd2, hFz, hwzz, hz0, hz1, hz2, hz3, hz4, hz5, hQz⟩ := HZ.out
     clear hwzz
     exact bodyPost_ret (v := .tuple #[.agg #[.int .i64 m.c, .int .i64 m.d, .int .i64 m.s, .int .i64 m.e, .int .i64 m.l, .slice ta T.length tc], (.slice (some ⟨gg, 0, none⟩) (ra.length + 1) cap)]) (by simp [results, Tryz.results19, go_sem, hz0, hz1, hz2, hz3, hz4, hz5]) rfl ⟨m, _, _, T, (ra ++ [(-1, 0)]), rfl, HM.out, hFz, hQz, hd1, hd2, hlst⟩
    ·have hxc : (x == 2) = false := by simp [hx2]
     by_cases hx3 : x = 3
     ·subst hx3
      clear hx0 hx1 hxa hxb hxc hx hx' hx2
      go_wp2_with fail
      refine (l01Next_any B0 SB 4 _ HS7.out.src).mono ?_
      rintro e' w8 ⟨q, rfl, ⟨hq0, hq1⟩, hs8, ho8⟩
      have hz8 := ho8.size
      have HS8 := Lib.hid (HS7.out.step hs8 ho8 (by omega) (by omega) (by omega)); clear hs8 ho8
      by_cases hq : q = 0
      ·subst hq
       clear hq0 hq1
       go_wp2_with fail
       refine (l01Next_any B0 SB 2 _ HS8.out.src).mono ?_
       rintro e' w9 ⟨r, rfl, ⟨hr0, hr1⟩, hs9, ho9⟩
       have hz9 := ho9.size
       have HS9 := Lib.hid (HS8.out.step hs9 ho9 (by omega) (by omega) (by omega)); clear hs9 ho9
       have hr01 : r = 0 ∨ r = 1 := by omega
       clear hr0 hr1
       rcases hr01 with rfl | rfl
       ·skip
        go_wp2_with (at_make; refine wp_mk _ rfl _ _ 24 rfl 48 (.agg #[.int .i64 0, .int .i64 0]) 2 16 Tryz.underlying24 inf_step 1200 rfl rfl (by omega) (by omega) ?_; intro wA cs0 hh0 hs0 ht0 hB0 hsz0; have hVA : VS (fun b => w2.heap.size + 1 ≤ b) wA (.slice (some ⟨w9.heap.size, 0, none⟩) 1200 1200) (List.replicate 1200 (0, 0)) := (zero_steps hh0 ht0 (by unfold maxLen; omega) (by omega)); have HSA := Lib.hid (And.intro (HS9.out.step (HS9.out.src.below hB0) (Only.of_below hB0) (by omega) (by omega) (by omega)) hVA); clear hh0 hs0 ht0 hB0 hVA; have hcM : ∀ o, wA.cell? ⟨w2.heap.size, o, none⟩ = (#[.int .i64 m.c, .int .i64 m.d, .int .i64 m.s, .int .i64 m.e, .int .i64 m.l, .slice ta T.length tc] : Array Value)[o]? := (fun o => by rw [cell_of_block HSA.out.1.hm]); have hcRz : ∀ o, wA.cell? ⟨W.heap.size, o, none⟩ = (#[.int .i64 0, .int .i64 0, .int .i64 0, .int .i64 0, .int .i64 0, .slice none 0 0] : Array Value)[o]? := (fun o => by rw [cell_of_block HSA.out.1.hr]); have hfRz := fun o => frozen_of_block HSA.out.1.hr o)
        have hlst : ((List.replicate 1200 (0, 0))).length ≤ 1048577 := by first | omega | (simp; done) | (simp; omega)
        have hdone := putS_facts HSA.out.1.src HSA.out.1.only HSA.out.1.hr (by omega) (Nat.le_refl _) (by omega) (.int .i64 m.c) (.int .i64 m.d) (.int .i64 m.s) (.int .i64 m.e) (.int .i64 m.l) (.slice ta T.length tc)
        obtain ⟨wz, hwz⟩ : ∃ wz, wz = putS wA W.heap.size (.int .i64 m.c) (.int .i64 m.d) (.int .i64 m.s) (.int .i64 m.e) (.int .i64 m.l) (.slice ta T.length tc) := ⟨_, rfl⟩
        rw [← hwz] at hdone
        obtain ⟨hd1, hd2, hd3, hd4⟩ := hdone
        have hFz : V2 (fun b => W.heap.size ≤ b) wz (.slice ta T.length tc) T := V2.mono (S := fun b => W1.heap.size ≤ b ∧ b < w2.heap.size) HSA.out.1.tab (fun b hb _ => by have hb := hb.1; omega) (fun b hb _ => hd4 b (by have hb := hb.1; omega))
        have hQz : VS (fun b => W.heap.size ≤ b) wz (.slice (some ⟨w9.heap.size, 0, none⟩) 1200 1200) (List.replicate 1200 (0, 0)) := VS.mono (S := fun b => w2.heap.size + 1 ≤ b) HSA.out.2 (fun b hb _ => by have hb : w2.heap.size + 1 ≤ b := hb; omega) (fun b hb _ => hd4 b (by have hb : w2.heap.size + 1 ≤ b := hb; omega))
        have hz0 : wz.cell? ⟨W.heap.size, 0, none⟩ = some (.int .i64 m.c) := by rw [cell_of_block hd3]; rfl
        have hz1 : wz.cell? ⟨W.heap.size, 1, none⟩ = some (.int .i64 m.d) := by rw [cell_of_block hd3]; rfl
        have hz2 : wz.cell? ⟨W.heap.size, 2, none⟩ = some (.int .i64 m.s) := by rw [cell_of_block hd3]; rfl
        have hz3 : wz.cell? ⟨W.heap.size, 3, none⟩ = some (.int .i64 m.e) := by rw [cell_of_block hd3]; rfl
        have hz4 : wz.cell? ⟨W.heap.size, 4, none⟩ = some (.int .i64 m.l) := by rw [cell_of_block hd3]; rfl
        have hz5 : wz.cell? ⟨W.heap.size, 5, none⟩ = some (.slice ta T.length tc) := by rw [cell_of_block hd3]; rfl
        have HZ := Lib.hid (And.intro hd1 (And.intro hd2 (And.intro hFz (And.intro hwz (And.intro hz0 (And.intro hz1 (And.intro hz2 (And.intro hz3 (And.intro hz4 (And.intro hz5 hQz)))))))))); clear hd1 hd2 hd3 hd4 hFz hwz hz0 hz1 hz2 hz3 hz4 hz5 hQz
        skip
        have hwz := HZ.out.2.2.2.1
        unfold putS putR at hwz
        skip
        rw [← hwz]
        clear hwz
        obtain ⟨hd1, hd2, hFz, hwzz, hz0, hz1, hz2, hz3, hz4, hz5, hQz⟩ := HZ.out
        clear hwzz
        exact bodyPost_ret (v := .tuple #[.agg #[.int .i64 m.c, .int .i64 m.d, .int .i64 m.s, .int .i64 m.e, .int .i64 m.l, .slice ta T.length tc], (.slice (some ⟨w9.heap.size, 0, none⟩) 1200 1200)]) (by simp [results, Tryz.results19, go_sem, hz0, hz1, hz2, hz3, hz4, hz5]) rfl ⟨m, _, _, T, (List.replicate 1200 (0, 0)), rfl, HM.out, hFz, hQz, hd1, hd2, hlst⟩
       ·skip
        go_wp2_with (at_make; refine wp_mk _ rfl _ _ 24 rfl 48 (.agg #[.int .i64 0, .int .i64 0]) 2 16 Tryz.underlying24 inf_step 1201 rfl rfl (by omega) (by omega) ?_; intro wA cs0 hh0 hs0 ht0 hB0 hsz0; have hVA : VS (fun b => w2.heap.size + 1 ≤ b) wA (.slice (some ⟨w9.heap.size, 0, none⟩) 1201 1201) (List.replicate 1201 (0, 0)) := (zero_steps hh0 ht0 (by unfold maxLen; omega) (by omega)); have HSA := Lib.hid (And.intro (HS9.out.step (HS9.out.src.below hB0) (Only.of_below hB0) (by omega) (by omega) (by omega)) hVA); clear hh0 hs0 ht0 hB0 hVA; have hcM : ∀ o, wA.cell? ⟨w2.heap.size, o, none⟩ = (#[.int .i64 m.c, .int .i64 m.d, .int .i64 m.s, .int .i64 m.e, .int .i64 m.l, .slice ta T.length tc] : Array Value)[o]? := (fun o => by rw [cell_of_block HSA.out.1.hm]); have hcRz : ∀ o, wA.cell? ⟨W.heap.size, o, none⟩ = (#[.int .i64 0, .int .i64 0, .int .i64 0, .int .i64 0, .int .i64 0, .slice none 0 0] : Array Value)[o]? := (fun o => by rw [cell_of_block HSA.out.1.hr]); have hfRz := fun o => frozen_of_block HSA.out.1.hr o)
        have hlst : ((List.replicate 1201 (0, 0))).length ≤ 1048577 := by first | omega | (simp; done) | (simp; omega)
        have hdone := putS_facts HSA.out.1.src HSA.out.1.only HSA.out.1.hr (by omega) (Nat.le_refl _) (by omega) (.int .i64 m.c) (.int .i64 m.d) (.int .i64 m.s) (.int .i64 m.e) (.int .i64 m.l) (.slice ta T.length tc)
        obtain ⟨wz, hwz⟩ : ∃ wz, wz = putS wA W.heap.size (.int .i64 m.c) (.int .i64 m.d) (.int .i64 m.s) (.int .i64 m.e) (.int .i64 m.l) (.slice ta T.length tc) := ⟨_, rfl⟩
        rw [← hwz] at hdone
        obtain ⟨hd1, hd2, hd3, hd4⟩ := hdone
        have hFz : V2 (fun b => W.heap.size ≤ b) wz (.slice ta T.length tc) T := V2.mono (S := fun b => W1.heap.size ≤ b ∧ b < w2.heap.size) HSA.out.1.tab (fun b hb _ => by have hb := hb.1; omega) (fun b hb _ => hd4 b (by have hb := hb.1; omega))
        have hQz : VS (fun b => W.heap.size ≤ b) wz (.slice (some ⟨w9.heap.size, 0, none⟩) 1201 1201) (List.replicate 1201 (0, 0)) := VS.mono (S := fun b => w2.heap.size + 1 ≤ b) HSA.out.2 (fun b hb _ => by have hb : w2.heap.size + 1 ≤ b := hb; omega) (fun b hb _ => hd4 b (by have hb : w2.heap.size + 1 ≤ b := hb; omega))
        have hz0 : wz.cell? ⟨W.heap.size, 0, none⟩ = some (.int .i64 m.c) := by rw [cell_of_block hd3]; rfl
        have hz1 : wz.cell? ⟨W.heap.size, 1, none⟩ = some (.int .i64 m.d) := by rw [cell_of_block hd3]; rfl
        have hz2 : wz.cell? ⟨W.heap.size, 2, none⟩ = some (.int .i64 m.s) := by rw [cell_of_block hd3]; rfl
        have hz3 : wz.cell? ⟨W.heap.size, 3, none⟩ = some (.int .i64 m.e) := by rw [cell_of_block hd3]; rfl
        have hz4 : wz.cell? ⟨W.heap.size, 4, none⟩ = some (.int .i64 m.l) := by rw [cell_of_block hd3]; rfl
        have hz5 : wz.cell? ⟨W.heap.size, 5, none⟩ = some (.slice ta T.length tc) := by rw [cell_of_block hd3]; rfl
        have HZ := Lib.hid (And.intro hd1 (And.intro hd2 (And.intro hFz (And.intro hwz (And.intro hz0 (And.intro hz1 (And.intro hz2 (And.intro hz3 (And.intro hz4 (And.intro hz5 hQz)))))))))); clear hd1 hd2 hd3 hd4 hFz hwz hz0 hz1 hz2 hz3 hz4 hz5 hQz
        skip
        have hwz := HZ.out.2.2.2.1
        unfold putS putR at hwz
        skip
        rw [← hwz]
        clear hwz
        obtain ⟨hd1, hd2, hFz, hwzz, hz0, hz1, hz2, hz3, hz4, hz5, hQz⟩ := HZ.out
        clear hwzz
        exact bodyPost_ret (v := .tuple #[.agg #[.int .i64 m.c, .int .i64 m.d, .int .i64 m.s, .int .i64 m.e, .int .i64 m.l, .slice ta T.length tc], (.slice (some ⟨w9.heap.size, 0, none⟩) 1201 1201)]) (by simp [results, Tryz.results19, go_sem, hz0, hz1, hz2, hz3, hz4, hz5]) rfl ⟨m, _, _, T, (List.replicate 1201 (0, 0)), rfl, HM.out, hFz, hQz, hd1, hd2, hlst⟩
      ·have hqd : (q == 0) = false := by simp [hq]
       clear hq hq0 hq1
       have hcM : ∀ o, w8.cell? ⟨w2.heap.size, o, none⟩ = (#[.int .i64 m.c, .int .i64 m.d, .int .i64 m.s, .int .i64 m.e, .int .i64 m.l, .slice ta T.length tc] : Array Value)[o]? := fun o => by rw [cell_of_block HS8.out.hm]
       have hcRz : ∀ o, w8.cell? ⟨W.heap.size, o, none⟩ = (#[.int .i64 0, .int .i64 0, .int .i64 0, .int .i64 0, .int .i64 0, .slice none 0 0] : Array Value)[o]? := fun o => by rw [cell_of_block HS8.out.hr]
       have hfRz := fun o => frozen_of_block HS8.out.hr o
       have hlst : (ra).length ≤ 1048577 := by first | omega | (simp; done) | (simp; omega)
       have hdone := putS_facts HS8.out.src HS8.out.only HS8.out.hr (by omega) (Nat.le_refl _) (by omega) (.int .i64 m.c) (.int .i64 m.d) (.int .i64 m.s) (.int .i64 m.e) (.int .i64 m.l) (.slice ta T.length tc)
       obtain ⟨wz, hwz⟩ : ∃ wz, wz = putS w8 W.heap.size (.int .i64 m.c) (.int .i64 m.d) (.int .i64 m.s) (.int .i64 m.e) (.int .i64 m.l) (.slice ta T.length tc) := ⟨_, rfl⟩
       rw [← hwz] at hdone
       obtain ⟨hd1, hd2, hd3, hd4⟩ := hdone
       have hFz : V2 (fun b => W.heap.size ≤ b) wz (.slice ta T.length tc) T := V2.mono (S := fun b => W1.heap.size ≤ b ∧ b < w2.heap.size) HS8.out.tab (fun b hb _ => by have hb := hb.1; omega) (fun b hb _ => hd4 b (by have hb := hb.1; omega))
       have hQz : VS (fun b => W.heap.size ≤ b) wz (.slice sa ra.length sc) ra := VS.mono (S := fun b => w2.heap.size + 1 ≤ b) HS8.out.own.vs (fun b hb _ => by have hb : w2.heap.size + 1 ≤ b := hb; omega) (fun b hb _ => hd4 b (by have hb : w2.heap.size + 1 ≤ b := hb; omega))
       have hz0 : wz.cell? ⟨W.heap.size, 0, none⟩ = some (.int .i64 m.c) := by rw [cell_of_block hd3]; rfl
       have hz1 : wz.cell? ⟨W.heap.size, 1, none⟩ = some (.int .i64 m.d) := by rw [cell_of_block hd3]; rfl
       have hz2 : wz.cell? ⟨W.heap.size, 2, none⟩ = some (.int .i64 m.s) := by rw [cell_of_block hd3]; rfl
       have hz3 : wz.cell? ⟨W.heap.size, 3, none⟩ = some (.int .i64 m.e) := by rw [cell_of_block hd3]; rfl
       have hz4 : wz.cell? ⟨W.heap.size, 4, none⟩ = some (.int .i64 m.l) := by rw [cell_of_block hd3]; rfl
       have hz5 : wz.cell? ⟨W.heap.size, 5, none⟩ = some (.slice ta T.length tc) := by rw [cell_of_block hd3]; rfl
       have HZ := Lib.hid (And.intro hd1 (And.intro hd2 (And.intro hFz (And.intro hwz (And.intro hz0 (And.intro hz1 (And.intro hz2 (And.intro hz3 (And.intro hz4 (And.intro hz5 hQz)))))))))); clear hd1 hd2 hd3 hd4 hFz hwz hz0 hz1 hz2 hz3 hz4 hz5 hQz
       go_wp2_with fail
       have hwz := HZ.out.2.2.2.1
       unfold putS putR at hwz
       skip
       rw [← hwz]
       clear hwz
       obtain ⟨hd1, hd2, hFz, hwzz, hz0, hz1, hz2, hz3, hz4, hz5, hQz⟩ := HZ.out
       clear hwzz
       exact bodyPost_ret (v := .tuple #[.agg #[.int .i64 m.c, .int .i64 m.d, .int .i64 m.s, .int .i64 m.e, .int .i64 m.l, .slice ta T.length tc], (.slice sa ra.length sc)]) (by simp [results, Tryz.results19, go_sem, hz0, hz1, hz2, hz3, hz4, hz5]) rfl ⟨m, _, _, T, ra, rfl, HM.out, hFz, hQz, hd1, hd2, hlst⟩
     ·have hxd : (x == 3) = false := by simp [hx3]
      clear hx0 hx1 hx hx' hx2 hx3
      have hcM : ∀ o, w7.cell? ⟨w2.heap.size, o, none⟩ = (#[.int .i64 m.c, .int .i64 m.d, .int .i64 m.s, .int .i64 m.e, .int .i64 m.l, .slice ta T.length tc] : Array Value)[o]? := fun o => by rw [cell_of_block HS7.out.hm]
      have hcRz : ∀ o, w7.cell? ⟨W.heap.size, o, none⟩ = (#[.int .i64 0, .int .i64 0, .int .i64 0, .int .i64 0, .int .i64 0, .slice none 0 0] : Array Value)[o]? := fun o => by rw [cell_of_block HS7.out.hr]
      have hfRz := fun o => frozen_of_block HS7.out.hr o
      have hlst : (ra).length ≤ 1048577 := by first | omega | (simp; done) | (simp; omega)
      have hdone := putS_facts HS7.out.src HS7.out.only HS7.out.hr (by omega) (Nat.le_refl _) (by omega) (.int .i64 m.c) (.int .i64 m.d) (.int .i64 m.s) (.int .i64 m.e) (.int .i64 m.l) (.slice ta T.length tc)
      obtain ⟨wz, hwz⟩ : ∃ wz, wz = putS w7 W.heap.size (.int .i64 m.c) (.int .i64 m.d) (.int .i64 m.s) (.int .i64 m.e) (.int .i64 m.l) (.slice ta T.length tc) := ⟨_, rfl⟩
      rw [← hwz] at hdone
      obtain ⟨hd1, hd2, hd3, hd4⟩ := hdone
      have hFz : V2 (fun b => W.heap.size ≤ b) wz (.slice ta T.length tc) T := V2.mono (S := fun b => W1.heap.size ≤ b ∧ b < w2.heap.size) HS7.out.tab (fun b hb _ => by have hb := hb.1; omega) (fun b hb _ => hd4 b (by have hb := hb.1; omega))
      have hQz : VS (fun b => W.heap.size ≤ b) wz (.slice sa ra.length sc) ra := VS.mono (S := fun b => w2.heap.size + 1 ≤ b) HS7.out.own.vs (fun b hb _ => by have hb : w2.heap.size + 1 ≤ b := hb; omega) (fun b hb _ => hd4 b (by have hb : w2.heap.size + 1 ≤ b := hb; omega))
      have hz0 : wz.cell? ⟨W.heap.size, 0, none⟩ = some (.int .i64 m.c) := by rw [cell_of_block hd3]; rfl
      have hz1 : wz.cell? ⟨W.heap.size, 1, none⟩ = some (.int .i64 m.d) := by rw [cell_of_block hd3]; rfl
      have hz2 : wz.cell? ⟨W.heap.size, 2, none⟩ = some (.int .i64 m.s) := by rw [cell_of_block hd3]; rfl
      have hz3 : wz.cell? ⟨W.heap.size, 3, none⟩ = some (.int .i64 m.e) := by rw [cell_of_block hd3]; rfl
      have hz4 : wz.cell? ⟨W.heap.size, 4, none⟩ = some (.int .i64 m.l) := by rw [cell_of_block hd3]; rfl
      have hz5 : wz.cell? ⟨W.heap.size, 5, none⟩ = some (.slice ta T.length tc) := by rw [cell_of_block hd3]; rfl
      have HZ := Lib.hid (And.intro hd1 (And.intro hd2 (And.intro hFz (And.intro hwz (And.intro hz0 (And.intro hz1 (And.intro hz2 (And.intro hz3 (And.intro hz4 (And.intro hz5 hQz)))))))))); clear hd1 hd2 hd3 hd4 hFz hwz hz0 hz1 hz2 hz3 hz4 hz5 hQz
      go_wp2_with fail
      have hwz := HZ.out.2.2.2.1
      unfold putS putR at hwz
      skip
      rw [← hwz]
      clear hwz
      obtain ⟨hd1, hd2, hFz, hwzz, hz0, hz1, hz2, hz3, hz4, hz5, hQz⟩ := HZ.out
      clear hwzz
      exact bodyPost_ret (v := .tuple #[.agg #[.int .i64 m.c, .int .i64 m.d, .int .i64 m.s, .int .i64 m.e, .int .i64 m.l, .slice ta T.length tc], (.slice sa ra.length sc)]) (by simp [results, Tryz.results19, go_sem, hz0, hz1, hz2, hz3, hz4, hz5]) rfl ⟨m, _, _, T, ra, rfl, HM.out, hFz, hQz, hd1, hd2, hlst⟩
 ·have hcd : (rcd != 0) = true := by simp [hc]
  obtain ⟨w5, hw5⟩ : ∃ w5, w5 = w4.alloc (.cells #[.int .i64 (-1), .int .i64 0, .int .i64 0, .int .i64 1] 48) := ⟨_, rfl⟩
  have hb45 : Below w4.heap.size w4 w5 := by rw [hw5]; exact (Below.refl _ _).alloc (Nat.le_refl _) _
  have hOL : OS (w2.heap.size + 1) w5 (.slice (some ⟨w4.heap.size, 0, none⟩) 2 2) [(-1, 0), (0, 1)] := by rw [hw5]; exact OS.lit w4 _ (by omega)
  obtain ⟨sl, hsl⟩ : ∃ sl : List (Int × Int), [((-1 : Int), (0 : Int)), (0, 1)] = sl := ⟨_, rfl⟩
  rw [hsl] at hOL
  have hsl2 : sl.length = 2 := by rw [← hsl]; rfl
  have HS0 := Lib.hid (StAt.mk (H4.out.src.below hb45) (H4.out.only.then_below hb45) (heap_below H4.out.hm hb45 (by omega)) (heap_below H4.out.hr hb45 (by omega)) (H4.out.tab.below hb45) hOL)
  have HW5 := Lib.hid hw5
  have hz5 := hb45.size
  clear hw5 hb45 hOL hc H4 hra hsl
  go_wp2_with fail
  rw [← HW5.out]
  refine (l01Next_any B0 SB _ _ HS0.out.src).mono ?_
  rintro e' w6 ⟨k0, rfl, ⟨hk0, hk1⟩, hs6, ho6⟩
  obtain ⟨k, rfl⟩ : ∃ q : Nat, k0 = (q : Int) := ⟨k0.toNat, by omega⟩
  have hk : k < 2 := by omega
  have hz6 := ho6.size
  have HS6 := Lib.hid (HS0.out.step hs6 ho6 (by omega) (by omega) (by omega)); clear hs6 ho6 hk0 hk1
  go_wp2_with fail
  refine (l01Next_any B0 SB 12 _ HS6.out.src).mono ?_
  rintro e' w7 ⟨x, rfl, ⟨hx0, hx1⟩, hs7, ho7⟩
  have hz7 := ho7.size
  have HS7 := Lib.hid (HS6.out.step hs7 ho7 (by omega) (by omega) (by omega)); clear hs7 ho7
  by_cases hx : x = 0
  ·subst hx
   clear hx0 hx1
   have hbi : Below w7.heap.size w7 (w7.alloc (.cells #[.int .i64 (-1), .int .i64 0, .int .i64 1, .int .i64 2, .int .i64 10] 2)) := (Below.refl w7.heap.size w7).alloc (Nat.le_refl _) _
   obtain ⟨wa, hwa⟩ : ∃ wa, wa = w7.alloc (.cells #[.int .i64 (-1), .int .i64 0, .int .i64 1, .int .i64 2, .int .i64 10] 2) := ⟨_, rfl⟩
   have hL : V1 (fun b => b = w7.heap.size) wa (.slice (some ⟨w7.heap.size, 0, none⟩) 5 5) [-1, 0, 1, 2, 10] := by rw [hwa]; exact lit_V1 w7 2 [-1, 0, 1, 2, 10] (by simp)
   rw [← hwa] at hbi
   have hza := hbi.size
   have HA := Lib.hid (And.intro (HS7.out.step (HS7.out.src.below hbi) (Only.of_below hbi) (by omega) (by omega) (by omega)) (And.intro hL hwa)); clear hbi hwa hL
   go_wp2_with fail
   rw [← HA.out.2.2]
   refine (l01Pick_any B0 SB _ [-1, 0, 1, 2, 10] wa HA.out.1.src HA.out.2.1 (fun b hb => by omega) (by simp)).mono ?_
   rintro e' wb ⟨y1, rfl, _, hsb, hob⟩
   have hzb := hob.size
   have hbi : Below wb.heap.size wb (wb.alloc (.cells #[.int .i64 0, .int .i64 0, .int .i64 1, .int .i64 2, .int .i64 12] 2)) := (Below.refl wb.heap.size wb).alloc (Nat.le_refl _) _
   obtain ⟨wc, hwc⟩ : ∃ wc, wc = wb.alloc (.cells #[.int .i64 0, .int .i64 0, .int .i64 1, .int .i64 2, .int .i64 12] 2) := ⟨_, rfl⟩
   have hL : V1 (fun b => b = wb.heap.size) wc (.slice (some ⟨wb.heap.size, 0, none⟩) 5 5) [0, 0, 1, 2, 12] := by rw [hwc]; exact lit_V1 wb 2 [0, 0, 1, 2, 12] (by simp)
   rw [← hwc] at hbi
   have hzc := hbi.size
   have HB := Lib.hid (HA.out.1.step hsb hob (by omega) (by omega) (by omega)); clear hsb hob
   have HC := Lib.hid (And.intro (HB.out.step (HB.out.src.below hbi) (Only.of_below hbi) (by omega) (by omega) (by omega)) (And.intro hL hwc)); clear hbi hwc hL
   go_wp2_with fail
   rw [← HC.out.2.2]
   refine (l01Pick_any B0 SB _ [0, 0, 1, 2, 12] wc HC.out.1.src HC.out.2.1 (fun b hb => by omega) (by simp)).mono ?_
   rintro e' wd ⟨y2, rfl, _, hsd, hod⟩
   have hzd := hod.size
   have HD := Lib.hid (HC.out.1.step hsd hod (by omega) (by omega) (by omega)); clear hsd hod
   have hO := HD.out.own
   obtain ⟨gs, hgs, hgB, hgl, ⟨u1, hu1⟩, ⟨u2, hu2⟩, hfg, hput⟩ := OS.put (k := k) (l := sl) hO (show k < sl.length by omega)
   have hget := hput y1 y2
   obtain ⟨we, hwe⟩ : ∃ we, we = (wd.setCell ⟨gs, k * 2, none⟩ (.int .i64 y1)).setCell ⟨gs, k * 2 + 1, none⟩ (.int .i64 y2) := ⟨_, rfl⟩
   rw [← hwe] at hget
   have hse : Src B0 SB we := Src.only (Src.only HD.out.src (b := gs) (off := k * 2) (by omega) (by omega) (.int .i64 y1) rfl) (b := gs) (off := k * 2 + 1) (by omega) (by omega) (.int .i64 y2) hwe
   have hoe : Only SB W we := by rw [hwe]; exact (HD.out.only.setNew (by omega) _).setNew (by omega) _
   have hkeep : ∀ b, b ≠ gs → we.heap[b]? = wd.heap[b]? := fun b hb => by rw [hwe]; exact (heap_setCell_other _ hb).trans (heap_setCell_other _ hb)
   have hMe := (hkeep w2.heap.size (by omega)).trans HD.out.hm
   have hRe := (hkeep W.heap.size (by omega)).trans HD.out.hr
   have hTe : V2 (fun b => W1.heap.size ≤ b ∧ b < w2.heap.size) we (.slice ta T.length tc) T := HD.out.tab.mono (fun _ h _ => h) (fun b hb _ => hkeep b (by have := hb.2; omega))
   have HE := Lib.hid (And.intro hse (And.intro hoe (And.intro hMe (And.intro hRe (And.intro hTe (And.intro hget hwe)))))); clear hse hoe hkeep hMe hRe hTe hget hwe hput hO
   first | subst hgs | (simp only [Option.some.injEq, Addr.mk.injEq, and_true] at hgs; subst hgs)
   have hcM : ∀ o, ((wd.setCell ⟨w4.heap.size, k * 2, none⟩ (.int .i64 y1)).setCell ⟨w4.heap.size, k * 2 + 1, none⟩ (.int .i64 y2)).cell? ⟨w2.heap.size, o, none⟩ = (#[.int .i64 m.c, .int .i64 m.d, .int .i64 m.s, .int .i64 m.e, .int .i64 m.l, .slice ta T.length tc] : Array Value)[o]? := fun o => by rw [← HE.out.2.2.2.2.2.2, cell_of_block HE.out.2.2.1]
   have hcRz : ∀ o, ((wd.setCell ⟨w4.heap.size, k * 2, none⟩ (.int .i64 y1)).setCell ⟨w4.heap.size, k * 2 + 1, none⟩ (.int .i64 y2)).cell? ⟨W.heap.size, o, none⟩ = (#[.int .i64 0, .int .i64 0, .int .i64 0, .int .i64 0, .int .i64 0, .slice none 0 0] : Array Value)[o]? := fun o => by rw [← HE.out.2.2.2.2.2.2, cell_of_block HE.out.2.2.2.1]
   have hfRz : ∀ o, ((wd.setCell ⟨w4.heap.size, k * 2, none⟩ (.int .i64 y1)).setCell ⟨w4.heap.size, k * 2 + 1, none⟩ (.int .i64 y2)).frozen? ⟨W.heap.size, o, none⟩ = false := fun o => by rw [← HE.out.2.2.2.2.2.2]; exact frozen_of_block HE.out.2.2.2.1 o
   have hkn : ¬ 2 ≤ k := by omega
   have hlst : ((sl.set k (y1, y2))).length ≤ 1048577 := by first | omega | (simp; done) | (simp; omega)
   have hdone := putS_facts HE.out.1 HE.out.2.1 HE.out.2.2.2.1 (by omega) (Nat.le_refl _) (by omega) (.int .i64 m.c) (.int .i64 m.d) (.int .i64 m.s) (.int .i64 m.e) (.int .i64 m.l) (.slice ta T.length tc)
   obtain ⟨wz, hwz⟩ : ∃ wz, wz = putS we W.heap.size (.int .i64 m.c) (.int .i64 m.d) (.int .i64 m.s) (.int .i64 m.e) (.int .i64 m.l) (.slice ta T.length tc) := ⟨_, rfl⟩
   rw [← hwz] at hdone
   obtain ⟨hd1, hd2, hd3, hd4⟩ := hdone
   have hFz : V2 (fun b => W.heap.size ≤ b) wz (.slice ta T.length tc) T := V2.mono (S := fun b => W1.heap.size ≤ b ∧ b < w2.heap.size) HE.out.2.2.2.2.1 (fun b hb _ => by have hb := hb.1; omega) (fun b hb _ => hd4 b (by have hb := hb.1; omega))
   have hQz : VS (fun b => W.heap.size ≤ b) wz (.slice (some ⟨w4.heap.size, 0, none⟩) 2 2) (sl.set k (y1, y2)) := VS.mono (S := fun b => w2.heap.size + 1 ≤ b) HE.out.2.2.2.2.2.1 (fun b hb _ => by have hb : w2.heap.size + 1 ≤ b := hb; omega) (fun b hb _ => hd4 b (by have hb : w2.heap.size + 1 ≤ b := hb; omega))
   have hz0 : wz.cell? ⟨W.heap.size, 0, none⟩ = some (.int .i64 m.c) := by rw [cell_of_block hd3]; rfl
   have hz1 : wz.cell? ⟨W.heap.size, 1, none⟩ = some (.int .i64 m.d) := by rw [cell_of_block hd3]; rfl
   have hz2 : wz.cell? ⟨W.heap.size, 2, none⟩ = some (.int .i64 m.s) := by rw [cell_of_block hd3]; rfl
   have hz3 : wz.cell? ⟨W.heap.size, 3, none⟩ = some (.int .i64 m.e) := by rw [cell_of_block hd3]; rfl
   have hz4 : wz.cell? ⟨W.heap.size, 4, none⟩ = some (.int .i64 m.l) := by rw [cell_of_block hd3]; rfl
   have hz5 : wz.cell? ⟨W.heap.size, 5, none⟩ = some (.slice ta T.length tc) := by rw [cell_of_block hd3]; rfl
   have HZ := Lib.hid (And.intro hd1 (And.intro hd2 (And.intro hFz (And.intro hwz (And.intro hz0 (And.intro hz1 (And.intro hz2 (And.intro hz3 (And.intro hz4 (And.intro hz5 hQz)))))))))); clear hd1 hd2 hd3 hd4 hFz hwz hz0 hz1 hz2 hz3 hz4 hz5 hQz
   go_wp2_with fail
   have hwz := HZ.out.2.2.2.1
   unfold putS putR at hwz
   rw [HE.out.2.2.2.2.2.2] at hwz
   rw [← hwz]
   clear hwz
   obtain ⟨hd1, hd2, hFz, hwzz, hz0, hz1, hz2, hz3, hz4, hz5, hQz⟩ := HZ.out
   clear hwzz
   exact bodyPost_ret (v := .tuple #[.agg #[.int .i64 m.c, .int .i64 m.d, .int .i64 m.s, .int .i64 m.e, .int .i64 m.l, .slice ta T.length tc], (.slice (some ⟨w4.heap.size, 0, none⟩) 2 2)]) (by simp [results, Tryz.results19, go_sem, hz0, hz1, hz2, hz3, hz4, hz5]) rfl ⟨m, _, _, T, (sl.set k (y1, y2)), rfl, HM.out, hFz, hQz, hd1, hd2, hlst⟩
  ·have hxa : (x == 0) = false := by simp [hx]
   by_cases hx' : x = 1
   ·subst hx'
    clear hx0 hx1 hxa hx
    have hcM : ∀ o, w7.cell? ⟨w2.heap.size, o, none⟩ = (#[.int .i64 m.c, .int .i64 m.d, .int .i64 m.s, .int .i64 m.e, .int .i64 m.l, .slice ta T.length tc] : Array Value)[o]? := fun o => by rw [cell_of_block HS7.out.hm]
    have hcRz : ∀ o, w7.cell? ⟨W.heap.size, o, none⟩ = (#[.int .i64 0, .int .i64 0, .int .i64 0, .int .i64 0, .int .i64 0, .slice none 0 0] : Array Value)[o]? := fun o => by rw [cell_of_block HS7.out.hr]
    have hfRz := fun o => frozen_of_block HS7.out.hr o
    have hkc : k ≤ 2 := by omega
    have hkc2 : ¬ 2 < k := by omega
    have hlst : ((sl.take k)).length ≤ 1048577 := by first | omega | (simp; done) | (simp; omega)
    have hdone := putS_facts HS7.out.src HS7.out.only HS7.out.hr (by omega) (Nat.le_refl _) (by omega) (.int .i64 m.c) (.int .i64 m.d) (.int .i64 m.s) (.int .i64 m.e) (.int .i64 m.l) (.slice ta T.length tc)
    obtain ⟨wz, hwz⟩ : ∃ wz, wz = putS w7 W.heap.size (.int .i64 m.c) (.int .i64 m.d) (.int .i64 m.s) (.int .i64 m.e) (.int .i64 m.l) (.slice ta T.length tc) := ⟨_, rfl⟩
    rw [← hwz] at hdone
    obtain ⟨hd1, hd2, hd3, hd4⟩ := hdone
    have hFz : V2 (fun b => W.heap.size ≤ b) wz (.slice ta T.length tc) T := V2.mono (S := fun b => W1.heap.size ≤ b ∧ b < w2.heap.size) HS7.out.tab (fun b hb _ => by have hb := hb.1; omega) (fun b hb _ => hd4 b (by have hb := hb.1; omega))
    have hQz : VS (fun b => W.heap.size ≤ b) wz (.slice (some ⟨w4.heap.size, 0, none⟩) k 2) (sl.take k) := VS.mono (S := fun b => w2.heap.size + 1 ≤ b) (VS.take HS7.out.own.vs (show k ≤ sl.length by omega)) (fun b hb _ => by have hb : w2.heap.size + 1 ≤ b := hb; omega) (fun b hb _ => hd4 b (by have hb : w2.heap.size + 1 ≤ b := hb; omega))
    have hz0 : wz.cell? ⟨W.heap.size, 0, none⟩ = some (.int .i64 m.c) := by rw [cell_of_block hd3]; rfl
    have hz1 : wz.cell? ⟨W.heap.size, 1, none⟩ = some (.int .i64 m.d) := by rw [cell_of_block hd3]; rfl
    have hz2 : wz.cell? ⟨W.heap.size, 2, none⟩ = some (.int .i64 m.s) := by rw [cell_of_block hd3]; rfl
    have hz3 : wz.cell? ⟨W.heap.size, 3, none⟩ = some (.int .i64 m.e) := by rw [cell_of_block hd3]; rfl
    have hz4 : wz.cell? ⟨W.heap.size, 4, none⟩ = some (.int .i64 m.l) := by rw [cell_of_block hd3]; rfl
    have hz5 : wz.cell? ⟨W.heap.size, 5, none⟩ = some (.slice ta T.length tc) := by rw [cell_of_block hd3]; rfl
    have HZ := Lib.hid (And.intro hd1 (And.intro hd2 (And.intro hFz (And.intro hwz (And.intro hz0 (And.intro hz1 (And.intro hz2 (And.intro hz3 (And.intro hz4 (And.intro hz5 hQz)))))))))); clear hd1 hd2 hd3 hd4 hFz hwz hz0 hz1 hz2 hz3 hz4 hz5 hQz
    go_wp2_with fail
    have hwz := HZ.out.2.2.2.1
    unfold putS putR at hwz
    skip
    rw [← hwz]
    clear hwz
    obtain ⟨hd1, hd2, hFz, hwzz, hz0, hz1, hz2, hz3, hz4, hz5, hQz⟩ := HZ.out
    clear hwzz
    exact bodyPost_ret (v := .tuple #[.agg #[.int .i64 m.c, .int .i64 m.d, .int .i64 m.s, .int .i64 m.e, .int .i64 m.l, .slice ta T.length tc], (.slice (some ⟨w4.heap.size, 0, none⟩) k 2)]) (by simp [results, Tryz.results19, go_sem, hz0, hz1, hz2, hz3, hz4, hz5]) rfl ⟨m, _, _, T, (sl.take k), rfl, HM.out, hFz, hQz, hd1, hd2, hlst⟩
   ·have hxb : (x == 1) = false := by simp [hx']
    by_cases hx2 : x = 2
    ·subst hx2
     clear hx0 hx1 hxa hxb hx hx'
     have hbA : Below w7.heap.size w7 (w7.alloc (.cells #[.int .i64 (-1), .int .i64 0] 48)) := (Below.refl w7.heap.size w7).alloc (Nat.le_refl _) _
     have hown7 := HS7.out.own
     unfold OS at hown7
     rw [hsl2] at hown7
     go_wp2_with (at_builtin; refine wp_app rfl _ _ 24 rfl (w2.heap.size + 1) 48 (.agg #[.int .i64 0, .int .i64 0]) 2 16 Tryz.underlying24 inf_step rfl (by omega) _ _ _ rfl (hown7.alloc _) ⟨_, 0, none⟩ 1 1 [.int .i64 (-1), .int .i64 0] rfl rfl (World.news_of_block (heap_alloc_new _ _)) (by simp [Value.oneCell']) (by unfold maxLen; omega) (by omega) (by first | omega | (simp; omega)) ?_; intro v8 w8 hown8 hgrow8 hblk8; have hg8 : Chg (fun i => w2.heap.size + 1 ≤ i) w7 w8 := (Chg.of_below hbA).grown hgrow8 (fun g hg => .inl (hown7.lt g hg).1); obtain ⟨gg, cap, rfl, hglt⟩ := own_some2 hown8; have hs8 : Src B0 SB w8 := HS7.out.src.keep hg8 (fun b hb => ⟨by have hb : w2.heap.size + 1 ≤ b := hb; omega, by have hb : w2.heap.size + 1 ≤ b := hb; omega⟩); have ho8 : Only SB W w8 := Chg.trans HS7.out.only (G := fun i => w2.heap.size + 1 ≤ i) hg8 (fun i hi => .inr (by have hi : w2.heap.size + 1 ≤ i := hi; omega)); have hM8 := (hg8.block w2.heap.size (lt_of_heap HS7.out.hm) (fun e => by have e : w2.heap.size + 1 ≤ w2.heap.size := e; omega)).trans HS7.out.hm; have hR8 := (hg8.block W.heap.size (lt_of_heap HS7.out.hr) (fun e => by have e : w2.heap.size + 1 ≤ W.heap.size := e; omega)).trans HS7.out.hr; have hT8 := HS7.out.tab.mono (fun _ h _ => h) (fun b hb hlt => hg8.block b hlt (fun e => by have e : w2.heap.size + 1 ≤ b := e; have := hb.2; omega)); have hO8 : OS (w2.heap.size + 1) w8 (.slice (some ⟨gg, 0, none⟩) (2 + 1) cap) (sl ++ [(-1, 0)]) := (by unfold OS; rw [flatS_snoc, List.length_append]; rw [hsl2]; exact hown8); have HS8 := Lib.hid (StAt.mk hs8 ho8 hM8 hR8 hT8 hO8); clear hs8 ho8 hM8 hR8 hT8 hO8 hown8 hgrow8 hblk8 hg8 hown7; have hcM : ∀ o, w8.cell? ⟨w2.heap.size, o, none⟩ = (#[.int .i64 m.c, .int .i64 m.d, .int .i64 m.s, .int .i64 m.e, .int .i64 m.l, .slice ta T.length tc] : Array Value)[o]? := (fun o => by rw [cell_of_block HS8.out.hm]); have hcRz : ∀ o, w8.cell? ⟨W.heap.size, o, none⟩ = (#[.int .i64 0, .int .i64 0, .int .i64 0, .int .i64 0, .int .i64 0, .slice none 0 0] : Array Value)[o]? := (fun o => by rw [cell_of_block HS8.out.hr]); have hfRz := fun o => frozen_of_block HS8.out.hr o)
     have hlst : ((sl ++ [(-1, 0)])).length ≤ 1048577 := by first | omega | (simp; done) | (simp; omega)
     have hdone := putS_facts HS8.out.src HS8.out.only HS8.out.hr (by omega) (Nat.le_refl _) (by omega) (.int .i64 m.c) (.int .i64 m.d) (.int .i64 m.s) (.int .i64 m.e) (.int .i64 m.l) (.slice ta T.length tc)
     obtain ⟨wz, hwz⟩ : ∃ wz, wz = putS w8 W.heap.size (.int .i64 m.c) (.int .i64 m.d) (.int .i64 m.s) (.int .i64 m.e) (.int .i64 m.l) (.slice ta T.length tc) := ⟨_, rfl⟩
     rw [← hwz] at hdone
     obtain ⟨hd1, hd2, hd3, hd4⟩ := hdone
     have hFz : V2 (fun b => W.heap.size ≤ b) wz (.slice ta T.length tc) T := V2.mono (S := fun b => W1.heap.size ≤ b ∧ b < w2.heap.size) HS8.out.tab (fun b hb _ => by have hb := hb.1; omega) (fun b hb _ => hd4 b (by have hb := hb.1; omega))
     have hQz : VS (fun b => W.heap.size ≤ b) wz (.slice (some ⟨gg, 0, none⟩) (2 + 1) cap) (sl ++ [(-1, 0)]) := VS.mono (S := fun b => w2.heap.size + 1 ≤ b) HS8.out.own.vs (fun b hb _ => by have hb : w2.heap.size + 1 ≤ b := hb; omega) (fun b hb _ => hd4 b (by have hb : w2.heap.size + 1 ≤ b := hb; omega))
     have hz0 : wz.cell? ⟨W.heap.size, 0, none⟩ = some (.int .i64 m.c) := by rw [cell_of_block hd3]; rfl
     have hz1 : wz.cell? ⟨W.heap.size, 1, none⟩ = some (.int .i64 m.d) := by rw [cell_of_block hd3]; rfl
     have hz2 : wz.cell? ⟨W.heap.size, 2, none⟩ = some (.int .i64 m.s) := by rw [cell_of_block hd3]; rfl
     have hz3 : wz.cell? ⟨W.heap.size, 3, none⟩ = some (.int .i64 m.e) := by rw [cell_of_block hd3]; rfl
     have hz4 : wz.cell? ⟨W.heap.size, 4, none⟩ = some (.int .i64 m.l) := by rw [cell_of_block hd3]; rfl
     have hz5 : wz.cell? ⟨W.heap.size, 5, none⟩ = some (.slice ta T.length tc) := by rw [cell_of_block hd3]; rfl
     have HZ := Lib.hid (And.intro hd1 (And.intro hd2 (And.intro hFz (And.intro hwz (And.intro hz0 (And.intro hz1 (And.intro hz2 (And.intro hz3 (And.intro hz4 (And.intro hz5 hQz)))))))))); clear hd1 hd2 hd3 hd4 hFz hwz hz0 hz1 hz2 hz3 hz4 hz5 hQz
     skip
     have hwz := HZ.out.2.2.2.1
     unfold putS putR at hwz
     skip
     rw [← hwz]
     clear hwz
     obtain ⟨hd1, hd2, hFz, hwzz, hz0, hz1, hz2, hz3, hz4, hz5, hQz⟩ := HZ.out
     clear hwzz
     exact bodyPost_ret (v := .tuple #[.agg #[.int .i64 m.c, .int .i64 m.d, .int .i64 m.s, .int .i64 m.e, .int .i64 m.l, .slice ta T.length tc], (.slice (some ⟨gg, 0, none⟩) (2 + 1) cap)]) (by simp [results, Tryz.results19, go_sem, hz0, hz1, hz2, hz3, hz4, hz5]) rfl ⟨m, _, _, T, (sl ++ [(-1, 0)]), rfl, HM.out, hFz, hQz, hd1, hd2, hlst⟩
    ·have hxc : (x == 2) = false := by simp [hx2]
     by_cases hx3 : x = 3
     ·subst hx3
      clear hx0 hx1 hxa hxb hxc hx hx' hx2
      go_wp2_with fail
      refine (l01Next_any B0 SB 4 _ HS7.out.src).mono ?_
      rintro e' w8 ⟨q, rfl, ⟨hq0, hq1⟩, hs8, ho8⟩
      have hz8 := ho8.size
      have HS8 := Lib.hid (HS7.out.step hs8 ho8 (by omega) (by omega) (by omega)); clear hs8 ho8
      by_cases hq : q = 0
      ·subst hq
       clear hq0 hq1
       go_wp2_with fail
       refine (l01Next_any B0 SB 2 _ HS8.out.src).mono ?_
       rintro e' w9 ⟨r, rfl, ⟨hr0, hr1⟩, hs9, ho9⟩
       have hz9 := ho9.size
       have HS9 := Lib.hid (HS8.out.step hs9 ho9 (by omega) (by omega) (by omega)); clear hs9 ho9
       have hr01 : r = 0 ∨ r = 1 := by omega
       clear hr0 hr1
       rcases hr01 with rfl | rfl
       ·skip
        go_wp2_with (at_make; refine wp_mk _ rfl _ _ 24 rfl 48 (.agg #[.int .i64 0, .int .i64 0]) 2 16 Tryz.underlying24 inf_step 1200 rfl rfl (by omega) (by omega) ?_; intro wA cs0 hh0 hs0 ht0 hB0 hsz0; have hVA : VS (fun b => w2.heap.size + 1 ≤ b) wA (.slice (some ⟨w9.heap.size, 0, none⟩) 1200 1200) (List.replicate 1200 (0, 0)) := (zero_steps hh0 ht0 (by unfold maxLen; omega) (by omega)); have HSA := Lib.hid (And.intro (HS9.out.step (HS9.out.src.below hB0) (Only.of_below hB0) (by omega) (by omega) (by omega)) hVA); clear hh0 hs0 ht0 hB0 hVA; have hcM : ∀ o, wA.cell? ⟨w2.heap.size, o, none⟩ = (#[.int .i64 m.c, .int .i64 m.d, .int .i64 m.s, .int .i64 m.e, .int .i64 m.l, .slice ta T.length tc] : Array Value)[o]? := (fun o => by rw [cell_of_block HSA.out.1.hm]); have hcRz : ∀ o, wA.cell? ⟨W.heap.size, o, none⟩ = (#[.int .i64 0, .int .i64 0, .int .i64 0, .int .i64 0, .int .i64 0, .slice none 0 0] : Array Value)[o]? := (fun o => by rw [cell_of_block HSA.out.1.hr]); have hfRz := fun o => frozen_of_block HSA.out.1.hr o)
        have hlst : ((List.replicate 1200 (0, 0))).length ≤ 1048577 := by first | omega | (simp; done) | (simp; omega)
        have hdone := putS_facts HSA.out.1.src HSA.out.1.only HSA.out.1.hr (by omega) (Nat.le_refl _) (by omega) (.int .i64 m.c) (.int .i64 m.d) (.int .i64 m.s) (.int .i64 m.e) (.int .i64 m.l) (.slice ta T.length tc)
        obtain ⟨wz, hwz⟩ : ∃ wz, wz = putS wA W.heap.size (.int .i64 m.c) (.int .i64 m.d) (.int .i64 m.s) (.int .i64 m.e) (.int .i64 m.l) (.slice ta T.length tc) := ⟨_, rfl⟩
        rw [← hwz] at hdone
        obtain ⟨hd1, hd2, hd3, hd4⟩ := hdone
        have hFz : V2 (fun b => W.heap.size ≤ b) wz (.slice ta T.length tc) T := V2.mono (S := fun b => W1.heap.size ≤ b ∧ b < w2.heap.size) HSA.out.1.tab (fun b hb _ => by have hb := hb.1; omega) (fun b hb _ => hd4 b (by have hb := hb.1; omega))
        have hQz : VS (fun b => W.heap.size ≤ b) wz (.slice (some ⟨w9.heap.size, 0, none⟩) 1200 1200) (List.replicate 1200 (0, 0)) := VS.mono (S := fun b => w2.heap.size + 1 ≤ b) HSA.out.2 (fun b hb _ => by have hb : w2.heap.size + 1 ≤ b := hb; omega) (fun b hb _ => hd4 b (by have hb : w2.heap.size + 1 ≤ b := hb; omega))
        have hz0 : wz.cell? ⟨W.heap.size, 0, none⟩ = some (.int .i64 m.c) := by rw [cell_of_block hd3]; rfl
        have hz1 : wz.cell? ⟨W.heap.size, 1, none⟩ = some (.int .i64 m.d) := by rw [cell_of_block hd3]; rfl
        have hz2 : wz.cell? ⟨W.heap.size, 2, none⟩ = some (.int .i64 m.s) := by rw [cell_of_block hd3]; rfl
        have hz3 : wz.cell? ⟨W.heap.size, 3, none⟩ = some (.int .i64 m.e) := by rw [cell_of_block hd3]; rfl
        have hz4 : wz.cell? ⟨W.heap.size, 4, none⟩ = some (.int .i64 m.l) := by rw [cell_of_block hd3]; rfl
        have hz5 : wz.cell? ⟨W.heap.size, 5, none⟩ = some (.slice ta T.length tc) := by rw [cell_of_block hd3]; rfl
        have HZ := Lib.hid (And.intro hd1 (And.intro hd2 (And.intro hFz (And.intro hwz (And.intro hz0 (And.intro hz1 (And.intro hz2 (And.intro hz3 (And.intro hz4 (And.intro hz5 hQz)))))))))); clear hd1 hd2 hd3 hd4 hFz hwz hz0 hz1 hz2 hz3 hz4 hz5 hQz
        skip
        have hwz := HZ.out.2.2.2.1
        unfold putS putR at hwz
        skip
        rw [← hwz]
        clear hwz
        obtain ⟨hd1, hd2, hFz, hwzz, hz0, hz1, hz2, hz3, hz4, hz5, hQz⟩ := HZ.out
        clear hwzz
        exact bodyPost_ret (v := .tuple #[.agg #[.int .i64 m.c, .int .i64 m.d, .int .i64 m.s, .int .i64 m.e, .int .i64 m.l, .slice ta T.length tc], (.slice (some ⟨w9.heap.size, 0, none⟩) 1200 1200)]) (by simp [results, Tryz.results19, go_sem, hz0, hz1, hz2, hz3, hz4, hz5]) rfl ⟨m, _, _, T, (List.replicate 1200 (0, 0)), rfl, HM.out, hFz, hQz, hd1, hd2, hlst⟩
       ·skip
        go_wp2_with (at_make; refine wp_mk _ rfl _ _ 24 rfl 48 (.agg #[.int .i64 0, .int .i64 0]) 2 16 Tryz.underlying24 inf_step 1201 rfl rfl (by omega) (by omega) ?_; intro wA cs0 hh0 hs0 ht0 hB0 hsz0; have hVA : VS (fun b => w2.heap.size + 1 ≤ b) wA (.slice (some ⟨w9.heap.size, 0, none⟩) 1201 1201) (List.replicate 1201 (0, 0)) := (zero_steps hh0 ht0 (by unfold maxLen; omega) (by omega)); have HSA := Lib.hid (And.intro (HS9.out.step (HS9.out.src.below hB0) (Only.of_below hB0) (by omega) (by omega) (by omega)) hVA); clear hh0 hs0 ht0 hB0 hVA; have hcM : ∀ o, wA.cell? ⟨w2.heap.size, o, none⟩ = (#[.int .i64 m.c, .int .i64 m.d, .int .i64 m.s, .int .i64 m.e, .int .i64 m.l, .slice ta T.length tc] : Array Value)[o]? := (fun o => by rw [cell_of_block HSA.out.1.hm]); have hcRz : ∀ o, wA.cell? ⟨W.heap.size, o, none⟩ = (#[.int .i64 0, .int .i64 0, .int .i64 0, .int .i64 0, .int .i64 0, .slice none 0 0] : Array Value)[o]? := (fun o => by rw [cell_of_block HSA.out.1.hr]); have hfRz := fun o => frozen_of_block HSA.out.1.hr o)
        have hlst : ((List.replicate 1201 (0, 0))).length ≤ 1048577 := by first | omega | (simp; done) | (simp; omega)
        have hdone := putS_facts HSA.out.1.src HSA.out.1.only HSA.out.1.hr (by omega) (Nat.le_refl _) (by omega) (.int .i64 m.c) (.int .i64 m.d) (.int .i64 m.s) (.int .i64 m.e) (.int .i64 m.l) (.slice ta T.length tc)
        obtain ⟨wz, hwz⟩ : ∃ wz, wz = putS wA W.heap.size (.int .i64 m.c) (.int .i64 m.d) (.int .i64 m.s) (.int .i64 m.e) (.int .i64 m.l) (.slice ta T.length tc) := ⟨_, rfl⟩
        rw [← hwz] at hdone
        obtain ⟨hd1, hd2, hd3, hd4⟩ := hdone
        have hFz : V2 (fun b => W.heap.size ≤ b) wz (.slice ta T.length tc) T := V2.mono (S := fun b => W1.heap.size ≤ b ∧ b < w2.heap.size) HSA.out.1.tab (fun b hb _ => by have hb := hb.1; omega) (fun b hb _ => hd4 b (by have hb := hb.1; omega))
        have hQz : VS (fun b => W.heap.size ≤ b) wz (.slice (some ⟨w9.heap.size, 0, none⟩) 1201 1201) (List.replicate 1201 (0, 0)) := VS.mono (S := fun b => w2.heap.size + 1 ≤ b) HSA.out.2 (fun b hb _ => by have hb : w2.heap.size + 1 ≤ b := hb; omega) (fun b hb _ => hd4 b (by have hb : w2.heap.size + 1 ≤ b := hb; omega))
        have hz0 : wz.cell? ⟨W.heap.size, 0, none⟩ = some (.int .i64 m.c) := by rw [cell_of_block hd3]; rfl
        have hz1 : wz.cell? ⟨W.heap.size, 1, none⟩ = some (.int .i64 m.d) := by rw [cell_of_block hd3]; rfl
        have hz2 : wz.cell? ⟨W.heap.size, 2, none⟩ = some (.int .i64 m.s) := by rw [cell_of_block hd3]; rfl
        have hz3 : wz.cell? ⟨W.heap.size, 3, none⟩ = some (.int .i64 m.e) := by rw [cell_of_block hd3]; rfl
        have hz4 : wz.cell? ⟨W.heap.size, 4, none⟩ = some (.int .i64 m.l) := by rw [cell_of_block hd3]; rfl
        have hz5 : wz.cell? ⟨W.heap.size, 5, none⟩ = some (.slice ta T.length tc) := by rw [cell_of_block hd3]; rfl
        have HZ := Lib.hid (And.intro hd1 (And.intro hd2 (And.intro hFz (And.intro hwz (And.intro hz0 (And.intro hz1 (And.intro hz2 (And.intro hz3 (And.intro hz4 (And.intro hz5 hQz)))))))))); clear hd1 hd2 hd3 hd4 hFz hwz hz0 hz1 hz2 hz3 hz4 hz5 hQz
        skip
        have hwz := HZ.out.2.2.2.1
        unfold putS putR at hwz
        skip
        rw [← hwz]
        clear hwz
        obtain ⟨hd1, hd2, hFz, hwzz, hz0, hz1, hz2, hz3, hz4, hz5, hQz⟩ := HZ.out
        clear hwzz
        exact bodyPost_ret (v := .tuple #[.agg #[.int .i64 m.c, .int .i64 m.d, .int .i64 m.s, .int .i64 m.e, .int .i64 m.l, .slice ta T.length tc], (.slice (some ⟨w9.heap.size, 0, none⟩) 1201 1201)]) (by simp [results, Tryz.results19, go_sem, hz0, hz1, hz2, hz3, hz4, hz5]) rfl ⟨m, _, _, T, (List.replicate 1201 (0, 0)), rfl, HM.out, hFz, hQz, hd1, hd2, hlst⟩
      ·have hqd : (q == 0) = false := by simp [hq]
       clear hq hq0 hq1
       have hcM : ∀ o, w8.cell? ⟨w2.heap.size, o, none⟩ = (#[.int .i64 m.c, .int .i64 m.d, .int .i64 m.s, .int .i64 m.e, .int .i64 m.l, .slice ta T.length tc] : Array Value)[o]? := fun o => by rw [cell_of_block HS8.out.hm]
       have hcRz : ∀ o, w8.cell? ⟨W.heap.size, o, none⟩ = (#[.int .i64 0, .int .i64 0, .int .i64 0, .int .i64 0, .int .i64 0, .slice none 0 0] : Array Value)[o]? := fun o => by rw [cell_of_block HS8.out.hr]
       have hfRz := fun o => frozen_of_block HS8.out.hr o
       have hlst : (sl).length ≤ 1048577 := by first | omega | (simp; done) | (simp; omega)
       have hdone := putS_facts HS8.out.src HS8.out.only HS8.out.hr (by omega) (Nat.le_refl _) (by omega) (.int .i64 m.c) (.int .i64 m.d) (.int .i64 m.s) (.int .i64 m.e) (.int .i64 m.l) (.slice ta T.length tc)
       obtain ⟨wz, hwz⟩ : ∃ wz, wz = putS w8 W.heap.size (.int .i64 m.c) (.int .i64 m.d) (.int .i64 m.s) (.int .i64 m.e) (.int .i64 m.l) (.slice ta T.length tc) := ⟨_, rfl⟩
       rw [← hwz] at hdone
       obtain ⟨hd1, hd2, hd3, hd4⟩ := hdone
       have hFz : V2 (fun b => W.heap.size ≤ b) wz (.slice ta T.length tc) T := V2.mono (S := fun b => W1.heap.size ≤ b ∧ b < w2.heap.size) HS8.out.tab (fun b hb _ => by have hb := hb.1; omega) (fun b hb _ => hd4 b (by have hb := hb.1; omega))
       have hQz : VS (fun b => W.heap.size ≤ b) wz (.slice (some ⟨w4.heap.size, 0, none⟩) 2 2) sl := VS.mono (S := fun b => w2.heap.size + 1 ≤ b) HS8.out.own.vs (fun b hb _ => by have hb : w2.heap.size + 1 ≤ b := hb; omega) (fun b hb _ => hd4 b (by have hb : w2.heap.size + 1 ≤ b := hb; omega))
       have hz0 : wz.cell? ⟨W.heap.size, 0, none⟩ = some (.int .i64 m.c) := by rw [cell_of_block hd3]; rfl
       have hz1 : wz.cell? ⟨W.heap.size, 1, none⟩ = some (.int .i64 m.d) := by rw [cell_of_block hd3]; rfl
       have hz2 : wz.cell? ⟨W.heap.size, 2, none⟩ = some (.int .i64 m.s) := by rw [cell_of_block hd3]; rfl
       have hz3 : wz.cell? ⟨W.heap.size, 3, none⟩ = some (.int .i64 m.e) := by rw [cell_of_block hd3]; rfl
       have hz4 : wz.cell? ⟨W.heap.size, 4, none⟩ = some (.int .i64 m.l) := by rw [cell_of_block hd3]; rfl
       have hz5 : wz.cell? ⟨W.heap.size, 5, none⟩ = some (.slice ta T.length tc) := by rw [cell_of_block hd3]; rfl
       have HZ := Lib.hid (And.intro hd1 (And.intro hd2 (And.intro hFz (And.intro hwz (And.intro hz0 (And.intro hz1 (And.intro hz2 (And.intro hz3 (And.intro hz4 (And.intro hz5 hQz)))))))))); clear hd1 hd2 hd3 hd4 hFz hwz hz0 hz1 hz2 hz3 hz4 hz5 hQz
       go_wp2_with fail
       have hwz := HZ.out.2.2.2.1
       unfold putS putR at hwz
       skip
       rw [← hwz]
       clear hwz
       obtain ⟨hd1, hd2, hFz, hwzz, hz0, hz1, hz2, hz3, hz4, hz5, hQz⟩ := HZ.out
       clear hwzz
       exact bodyPost_ret (v := .tuple #[.agg #[.int .i64 m.c, .int .i64 m.d, .int .i64 m.s, .int .i64 m.e, .int .i64 m.l, .slice ta T.length tc], (.slice (some ⟨w4.heap.size, 0, none⟩) 2 2)]) (by simp [results, Tryz.results19, go_sem, hz0, hz1, hz2, hz3, hz4, hz5]) rfl ⟨m, _, _, T, sl, rfl, HM.out, hFz, hQz, hd1, hd2, hlst⟩
     ·have hxd : (x == 3) = false := by simp [hx3]
      clear hx0 hx1 hx hx' hx2 hx3
      have hcM : ∀ o, w7.cell? ⟨w2.heap.size, o, none⟩ = (#[.int .i64 m.c, .int .i64 m.d, .int .i64 m.s, .int .i64 m.e, .int .i64 m.l, .slice ta T.length tc] : Array Value)[o]? := fun o => by rw [cell_of_block HS7.out.hm]
      have hcRz : ∀ o, w7.cell? ⟨W.heap.size, o, none⟩ = (#[.int .i64 0, .int .i64 0, .int .i64 0, .int .i64 0, .int .i64 0, .slice none 0 0] : Array Value)[o]? := fun o => by rw [cell_of_block HS7.out.hr]
      have hfRz := fun o => frozen_of_block HS7.out.hr o
      have hlst : (sl).length ≤ 1048577 := by first | omega | (simp; done) | (simp; omega)
      have hdone := putS_facts HS7.out.src HS7.out.only HS7.out.hr (by omega) (Nat.le_refl _) (by omega) (.int .i64 m.c) (.int .i64 m.d) (.int .i64 m.s) (.int .i64 m.e) (.int .i64 m.l) (.slice ta T.length tc)
      obtain ⟨wz, hwz⟩ : ∃ wz, wz = putS w7 W.heap.size (.int .i64 m.c) (.int .i64 m.d) (.int .i64 m.s) (.int .i64 m.e) (.int .i64 m.l) (.slice ta T.length tc) := ⟨_, rfl⟩
      rw [← hwz] at hdone
      obtain ⟨hd1, hd2, hd3, hd4⟩ := hdone
      have hFz : V2 (fun b => W.heap.size ≤ b) wz (.slice ta T.length tc) T := V2.mono (S := fun b => W1.heap.size ≤ b ∧ b < w2.heap.size) HS7.out.tab (fun b hb _ => by have hb := hb.1; omega) (fun b hb _ => hd4 b (by have hb := hb.1; omega))
      have hQz : VS (fun b => W.heap.size ≤ b) wz (.slice (some ⟨w4.heap.size, 0, none⟩) 2 2) sl := VS.mono (S := fun b => w2.heap.size + 1 ≤ b) HS7.out.own.vs (fun b hb _ => by have hb : w2.heap.size + 1 ≤ b := hb; omega) (fun b hb _ => hd4 b (by have hb : w2.heap.size + 1 ≤ b := hb; omega))
      have hz0 : wz.cell? ⟨W.heap.size, 0, none⟩ = some (.int .i64 m.c) := by rw [cell_of_block hd3]; rfl
      have hz1 : wz.cell? ⟨W.heap.size, 1, none⟩ = some (.int .i64 m.d) := by rw [cell_of_block hd3]; rfl
      have hz2 : wz.cell? ⟨W.heap.size, 2, none⟩ = some (.int .i64 m.s) := by rw [cell_of_block hd3]; rfl
      have hz3 : wz.cell? ⟨W.heap.size, 3, none⟩ = some (.int .i64 m.e) := by rw [cell_of_block hd3]; rfl
      have hz4 : wz.cell? ⟨W.heap.size, 4, none⟩ = some (.int .i64 m.l) := by rw [cell_of_block hd3]; rfl
      have hz5 : wz.cell? ⟨W.heap.size, 5, none⟩ = some (.slice ta T.length tc) := by rw [cell_of_block hd3]; rfl
      have HZ := Lib.hid (And.intro hd1 (And.intro hd2 (And.intro hFz (And.intro hwz (And.intro hz0 (And.intro hz1 (And.intro hz2 (And.intro hz3 (And.intro hz4 (And.intro hz5 hQz)))))))))); clear hd1 hd2 hd3 hd4 hFz hwz hz0 hz1 hz2 hz3 hz4 hz5 hQz
      go_wp2_with fail
      have hwz := HZ.out.2.2.2.1
      unfold putS putR at hwz
      skip
      rw [← hwz]
      clear hwz
      obtain ⟨hd1, hd2, hFz, hwzz, hz0, hz1, hz2, hz3, hz4, hz5, hQz⟩ := HZ.out
      clear hwzz
      exact bodyPost_ret (v := .tuple #[.agg #[.int .i64 m.c, .int .i64 m.d, .int .i64 m.s, .int .i64 m.e, .int .i64 m.l, .slice ta T.length tc], (.slice (some ⟨w4.heap.size, 0, none⟩) 2 2)]) (by simp [results, Tryz.results19, go_sem, hz0, hz1, hz2, hz3, hz4, hz5]) rfl ⟨m, _, _, T, sl, rfl, HM.out, hFz, hQz, hd1, hd2, hlst⟩
end Go.Proofs.YtbekpololmahoaaGreatDoor
