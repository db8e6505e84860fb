/- A draw of a system, cuts, a row, a door and rows from a code. No conditions. -/
import Derived.Test.YtmaefilliggjiaaGreatDraw33
import Derived.Test.YtmaefilliggjiaaGreatMShortP
import Derived.Test.YtmaefilliggjiaaGreatMDraw27
import Derived.Test.YtmaefilliggjiaaGreatMBegins
import Derived.Test.YtmaefilliggjiaaGreatMDraw14
namespace Go.Proofs.YtmaefilliggjiaaGreat
open Go.RowKit
set_option linter.unusedVariables false
set_option linter.unusedSimpArgs false
theorem firstReas_ne {m : Mk} {t cuts : List (List Int)} {key door : Int} (h : (firstReasAns m t cuts key door).2 = 0) : (firstReasAns m t cuts key door).1 ≠ [] := by
 unfold firstReasAns at h ⊢
 split at h
 ·rename_i h0; exact absurd h h0
 ·rename_i h0
  rw [if_neg h0]
  have hp := (reasC_ok (Classical.not_not.1 h0)).1
  have hmk := Mk.ok_iff.1 (fits_of hp).ok
  obtain ⟨R, hR⟩ : ∃ R, reasRows t cuts key.toNat door.toNat m.c.toNat = R := ⟨_, rfl⟩
  have hlen : R.length = m.c.toNat := by rw [← hR]; exact reasRows_len _ _ _ _ _
  rw [hR] at h ⊢
  unfold firstReas at h ⊢
  split at h
  ·exact absurd h (by decide)
  ·rename_i h1
   rw [if_neg h1]
   intro e
   have := congrArg List.length e
   rw [List.length_map, List.length_range] at this
   simp only [List.length_nil] at this
   omega
/-- A system in a box, cuts beside it, the result's cell, while more is drawn. -/
structure IrAt (W W1 w2 w3 : World) (m : Mk) (tv : Value) (T : List (List Int)) (cv : Value) (cuts : List (List Int)) (w : World) : Prop where
 src : Src W1.heap.size W1.heap.size w
 below : Below W.heap.size W w
 hm : w.heap[w3.heap.size]? = some (.cells #[.int .i64 m.c, .int .i64 m.d, .int .i64 m.s, .int .i64 m.e, .int .i64 m.l, tv] 28 (0, 0))
 hr : w.heap[W.heap.size]? = some (.cells #[.int .i64 0, .int .i64 0, .int .i64 0, .int .i64 0, .int .i64 0, .slice none 0 0] 28 (0, 0))
 tab : V2 (fun b => W1.heap.size < b ∧ b < w3.heap.size) w tv T
 cut : V2 (fun b => W1.heap.size < b ∧ b < w3.heap.size) w cv cuts
theorem IrAt.step {W W1 w2 w3 w w' : World} {m : Mk} {tv cv : Value} {T cuts : List (List Int)} (h : IrAt W W1 w2 w3 m tv T cv cuts w) (hs : Src W1.heap.size W1.heap.size w') (ho : Chg (fun b => b = W1.heap.size ∨ w3.heap.size < b) w w') (h1 : W.heap.size < W1.heap.size) (h3 : W1.heap.size < w3.heap.size) : IrAt W W1 w2 w3 m tv T cv cuts w' :=
 ⟨hs, h.below.trans ((Chg.to_below (B := W1.heap.size) ho (fun b hb => by omega) (by have := h.src.lt; omega)).mono (by omega)), ho.heap h.hm (fun e => by omega), ho.heap h.hr (fun e => by omega), h.tab.mono (fun _ h _ => h) (fun b hb hlt => ho.block b hlt (fun e => by have := hb.1; have := hb.2; omega)), h.cut.mono (fun _ h _ => h) (fun b hb hlt => ho.block b hlt (fun e => by have := hb.1; have := hb.2; omega))⟩
theorem Only.toF {SB : Nat} {F : Nat → Prop} {a b : World} (h : Only SB a b) (hF : F SB) : Chg F a b := Chg.mono h (fun b hb => by rw [hb]; exact hF)
set_option maxRecDepth 100000 in
set_option maxHeartbeats 4000000 in
theorem DrawIsReason_any {S : Nat → Prop} (v : Value) (l : List Int) (W : World) (h : VB S W v l) :
  Calls Tryz.prog 27 #[v] W (DrawKdr W) := by
 obtain ⟨a, c, rfl, hm⟩ := h.form
 obtain ⟨W1, hW1, hB01, hz01, HZ01, _, hh01⟩ := box_facts W #[.int .i64 0, .int .i64 0, .int .i64 0, .int .i64 0, .int .i64 0, .slice none 0 0] 28
 have hz1e := HZ01.out
 have hz1l : W1.heap.size ≤ W.heap.size + 1 := by omega
 have HL := Lib.hid (And.intro (h.below hB01) (And.intro hB01 (And.intro hh01 hW1))); clear h hh01 hB01 hz1e
 go_enter Tryz.func27, Tryz.ntmps27
 go_wp2_with fail
 rw [← HL.out.2.2.2]
 clear hW1
 refine (l01From_any _ l W1 HL.out.1).mono ?_
 rintro e' w2 ⟨rfl, hs2, hb2⟩
 have hz2 := hb2.size
 have hz23 : W1.heap.size < w2.heap.size := hs2.lt
 have H2 := Lib.hid (And.intro hs2 (And.intro hb2 ((hb2.block _ hz01).trans HL.out.2.2.1))); clear hs2 hb2
 go_wp2_with fail
 refine (l18Draw_any W1.heap.size W1.heap.size w2 H2.out.1).mono ?_
 rintro e' w3 ⟨m, u, cv, T, cuts, key, door, rfl, hu, hcv, hs3, ho3⟩
 have hz3 := ho3.size
 obtain ⟨ta, tc, rfl, _⟩ := hu.form
 obtain ⟨ca, cc, rfl, _⟩ := hcv.form
 obtain ⟨w4, hw4⟩ : ∃ w4, w4 = w3.alloc (.cells #[.int .i64 m.c, .int .i64 m.d, .int .i64 m.s, .int .i64 m.e, .int .i64 m.l, .slice ta T.length tc] 28) := ⟨_, rfl⟩
 have hb34 : Below w3.heap.size w3 w4 := by rw [hw4]; exact (Below.refl _ _).alloc (Nat.le_refl _) _
 have hM4 : w4.heap[w3.heap.size]? = some (.cells #[.int .i64 m.c, .int .i64 m.d, .int .i64 m.s, .int .i64 m.e, .int .i64 m.l, .slice ta T.length tc] 28 (0, 0)) := by rw [hw4]; exact heap_alloc_self _ _
 have hz4 : w3.heap.size < w4.heap.size := lt_of_heap hM4
 have HD4 := Lib.hid (IrAt.mk (W := W) (W1 := W1) (w2 := w2) (w3 := w3) (hs3.below hb34) (HL.out.2.1.trans (((H2.out.2.1.trans (ho3.to_below (B := W1.heap.size) (Nat.le_refl _) (by omega))).trans (hb34.mono (by omega))).mono (by omega))) hM4 ((hb34.block _ (by omega)).trans (ho3.heap H2.out.2.2 (fun e => by omega)))
  ((hu.mono (S' := fun b => W1.heap.size < b ∧ b < w3.heap.size) (fun b hb hlt => by have hb : w2.heap.size < b := hb; exact ⟨by omega, hlt⟩) (fun _ _ _ => rfl)).below hb34)
  ((hcv.mono (S' := fun b => W1.heap.size < b ∧ b < w3.heap.size) (fun b hb hlt => by have hb : w2.heap.size < b := hb; exact ⟨by omega, hlt⟩) (fun _ _ _ => rfl)).below hb34))
 have HW4 := Lib.hid hw4
 clear hs3 ho3 hb34 hM4 hu hcv hw4
 have hcM4 : ∀ o, w4.cell? ⟨w3.heap.size, o, none⟩ = (#[.int .i64 m.c, .int .i64 m.d, .int .i64 m.s, .int .i64 m.e, .int .i64 m.l, .slice ta T.length tc] : Array Value)[o]? := fun o => by rw [cell_of_block HD4.out.hm]
 go_wp2_with fail
 rw [← HW4.out]
 refine (FirstReasonR_any m _ _ T cuts key door w4 HD4.out.tab HD4.out.cut).mono ?_
 rintro e' w5 ⟨rv, rfl, hR, hb5⟩
 have hne := firstReas_ne (m := m) (t := T) (cuts := cuts) (key := key) (door := door)
 obtain ⟨A, hA⟩ : ∃ A, firstReasAns m T cuts key door = A := ⟨_, rfl⟩
 rw [hA] at hR hne ⊢
 clear hA
 obtain ⟨ra, rc, rfl, hrm⟩ := hR.v1.form
 have hz5 := hb5.size
 have HD5 := Lib.hid (HD4.out.step (HD4.out.src.below hb5) (Chg.of_below hb5) (by omega) (by omega)); clear hb5 hcM4
 have HR5 := Lib.hid (And.intro hR hne); clear hR hne
 by_cases ha : A.2 = 0
 rotate_left
 ·have had : (A.2 == 0) = false := by simp [ha]
  clear ha
  go_wp2_with fail
  obtain ⟨w7, hw7⟩ : ∃ w7, w7 = w5.alloc (.cells #[] 2) := ⟨_, rfl⟩
  have hb67 : Below w5.heap.size w5 w7 := by rw [hw7]; exact (Below.refl _ _).alloc (Nat.le_refl _) _
  have hown7 := own_lit0 w5 w5.heap.size 2 1 (Nat.le_refl _)
  rw [← hw7] at hown7
  have hz7 := hb67.size
  have hmx := lt_of_heap HD5.out.hm
  have HD7 := Lib.hid (HD5.out.step (HD5.out.src.below hb67) (Chg.of_below hb67) (by omega) (by omega))
  have HO7 := Lib.hid (And.intro hown7 hw7); clear hown7 hw7 hb67
  go_wp2_with fail
  rw [← HO7.out.2]
  refine (l01Next_any W1.heap.size W1.heap.size 5 _ HD7.out.src).mono ?_
  rintro e' w8 ⟨n8, rfl, ⟨hn0, hn1⟩, hs8, ho8⟩
  obtain ⟨nn, rfl⟩ : ∃ q : Nat, n8 = (q : Int) := ⟨n8.toNat, by omega⟩
  have hnn : nn ≤ 5 := by omega
  have hz8 := ho8.size
  have HD8 := Lib.hid (HD7.out.step hs8 (ho8.toF (.inl rfl)) (by omega) (by omega))
  have HO8 := Lib.hid (own_only HO7.out.1 ho8 (by omega)); clear hs8 ho8 hn0 hn1
  go_wp2_with fail
  go_loopw [14, 15] (fun ov nv wr => ∃ (n : Nat) (rl : List Int), n + rl.length ≤ 5 ∧ nv = .int .i64 (n : Int) ∧ wr.ownsRow w5.heap.size 2 1 ov rl.length (rl.map (Value.int .i64)) ∧ IrAt W W1 w2 w3 m (.slice ta T.length tc) T (.slice ca cuts.length cc) cuts wr ∧ w5.heap.size ≤ wr.heap.size) (fun _ nv _ => (intOf nv).toNat)
  case atStart => exact ⟨nn, [], by simpa using hnn, rfl, HO8.out, HD8.out, by omega⟩
  case round =>
   obtain ⟨n, rl, hnl, rfl, hown, hD, hzo⟩ := hrel
   obtain ⟨wo, rfl⟩ : ∃ x, x = wr := ⟨_, rfl⟩
   have HDo := Lib.hid hD; clear hD
   by_cases hn : n = 0
   ·subst hn
    obtain ⟨oa, oc, rfl, _, _⟩ := own_form hown
    have HKo := Lib.hid ((own_F1 hown).v1.mono (S' := fun b => w3.heap.size ≤ b) (fun b hb _ => by have hb : w5.heap.size ≤ b := hb; omega) (fun _ _ _ => rfl)); clear hown hnl
    have hcMx : ∀ o, wo.cell? ⟨w3.heap.size, o, none⟩ = (#[.int .i64 m.c, .int .i64 m.d, .int .i64 m.s, .int .i64 m.e, .int .i64 m.l, .slice ta T.length tc] : Array Value)[o]? := fun o => by rw [cell_of_block HDo.out.hm]
    have hcRz : ∀ o, wo.cell? ⟨W.heap.size, o, none⟩ = (#[.int .i64 0, .int .i64 0, .int .i64 0, .int .i64 0, .int .i64 0, .slice none 0 0] : Array Value)[o]? := fun o => by rw [cell_of_block HDo.out.hr]
    have hfRz := fun o => frozen_of_block HDo.out.hr o
    have hdone := putS_new HDo.out.below HDo.out.hr (.int .i64 m.c) (.int .i64 m.d) (.int .i64 m.s) (.int .i64 m.e) (.int .i64 m.l) (.slice ta T.length tc)
    obtain ⟨wz, hwz⟩ : ∃ wz, wz = putS wo W.heap.size (.int .i64 m.c) (.int .i64 m.d) (.int .i64 m.s) (.int .i64 m.e) (.int .i64 m.l) (.slice ta T.length tc) := ⟨_, rfl⟩
    rw [← hwz] at hdone
    obtain ⟨hd2, hd3, hd4⟩ := hdone
    have hFz : V2 (fun b => W.heap.size ≤ b) wz (.slice ta T.length tc) T := V2.mono (S := fun b => W1.heap.size < b ∧ b < w3.heap.size) HDo.out.tab (fun b hb _ => by have hb := hb.1; omega) (fun b hb _ => hd4 b (by have hb := hb.1; omega))
    have hcz : V2 (fun b => W.heap.size ≤ b) wz (.slice ca cuts.length cc) cuts := V2.mono (S := fun b => W1.heap.size < b ∧ b < w3.heap.size) HDo.out.cut (fun b hb _ => by have hb := hb.1; omega) (fun b hb _ => hd4 b (by have hb := hb.1; omega))
    have hkz : V1 (fun b => W.heap.size ≤ b) wz (.slice oa rl.length oc) rl := V1.mono (S := fun b => w3.heap.size ≤ b) HKo.out (fun b hb _ => by have hb : w3.heap.size ≤ b := hb; omega) (fun b hb _ => hd4 b (by have hb : w3.heap.size ≤ b := hb; omega))
    have hz0 : wz.cell? ⟨W.heap.size, 0, none⟩ = some (.int .i64 m.c) := by rw [cell_of_block hd3]; rfl
    have hz1 : wz.cell? ⟨W.heap.size, 1, none⟩ = some (.int .i64 m.d) := by rw [cell_of_block hd3]; rfl
    have hz2 : wz.cell? ⟨W.heap.size, 2, none⟩ = some (.int .i64 m.s) := by rw [cell_of_block hd3]; rfl
    have hz3 : wz.cell? ⟨W.heap.size, 3, none⟩ = some (.int .i64 m.e) := by rw [cell_of_block hd3]; rfl
    have hz4 : wz.cell? ⟨W.heap.size, 4, none⟩ = some (.int .i64 m.l) := by rw [cell_of_block hd3]; rfl
    have hz5 : wz.cell? ⟨W.heap.size, 5, none⟩ = some (.slice ta T.length tc) := by rw [cell_of_block hd3]; rfl
    have HZ := Lib.hid (And.intro hd2 (And.intro hFz (And.intro hcz (And.intro hkz (And.intro hwz (And.intro hz0 (And.intro hz1 (And.intro hz2 (And.intro hz3 (And.intro hz4 hz5)))))))))); clear hd2 hd3 hd4 hFz hcz hkz hwz hz0 hz1 hz2 hz3 hz4 hz5
    go_wp2_with fail
    have hwz := HZ.out.2.2.2.2.1
    unfold putS putR at hwz
    rw [← hwz]
    clear hwz
    obtain ⟨hd2, hFz, hcz, hkz, hwzz, hz0, hz1, hz2, hz3, hz4, hz5⟩ := HZ.out
    clear hwzz
    exact bodyPost_ret (v := .tuple #[.agg #[.int .i64 m.c, .int .i64 m.d, .int .i64 m.s, .int .i64 m.e, .int .i64 m.l, .slice ta T.length tc], .slice ca cuts.length cc, .int .i64 key, .int .i64 door, (.slice oa rl.length oc)]) (by simp [results, Tryz.results27, go_sem, hz0, hz1, hz2, hz3, hz4, hz5]) rfl ⟨m, _, _, T, cuts, key, door, _, rl, rfl, hkz, hFz, hcz, hd2⟩
   ·obtain ⟨n, rfl⟩ : ∃ k, n = k + 1 := ⟨n - 1, by omega⟩
    have hnd : decide ((0 : Int) < ((n + 1 : Nat) : Int)) = true := decide_eq_true (by omega)
    have hnd2 : decide ((0 : Int) < (n : Int) + 1) = true := decide_eq_true (by omega)
    have hnd3 : decide (0 < n + 1) = true := decide_eq_true (by omega)
    obtain ⟨oa, oc, rfl, _, _⟩ := own_form hown
    have HR := Lib.hid (And.intro hown hnl); clear hown hn
    have hnT : n + 1 ≤ 5 := by omega
    go_wp2_with fail
    refine (l01Next_any W1.heap.size W1.heap.size 4 _ HDo.out.src).mono ?_
    rintro e' wb ⟨y, rfl, _, hsb, hob⟩
    have hzb := hob.size
    have HDb := Lib.hid (HDo.out.step hsb (hob.toF (.inl rfl)) (by omega) (by omega))
    have hownb := own_only HR.out.1 hob (by omega)
    have hrl : rl.length ≤ 5 := by omega
    clear hsb hob
    go_wp2_with (at_builtin; refine wp_app1 _ rfl _ _ 35 rfl w5.heap.size 2 (.int .i64 0) 8 Tryz.underlying35 inf_int rfl _ _ _ rfl hownb (.int .i64 y) _ rfl rfl (by omega) (by omega) (by omega) ?_; intro v1 w1 hown1 hgrow1 hblk1 hB1)
    have hg1 : Chg (fun i => w5.heap.size ≤ i) wb w1 := (Chg.refl _ _).grown hgrow1 (fun g hg => .inl (hownb.lt g hg).1)
    have HD1 := Lib.hid (HDb.out.step (HDb.out.src.keep hg1 (fun b hb => ⟨by omega, by omega⟩)) (hg1.mono (fun b hb => .inr (by omega))) (by omega) (by omega))
    have hz1w := hg1.size
    have hE : w1.ownsRow w5.heap.size 2 1 v1 (rl ++ [y]).length ((rl ++ [y]).map (Value.int .i64)) := by rw [List.map_append, List.length_append]; exact hown1
    obtain ⟨na, nc, rfl, _, _⟩ := own_form hown1
    have HE := Lib.hid hE; clear hg1 hgrow1 hblk1 hB1 hown1 hownb hE
    go_roundw
    case rel => exact ⟨n, rl ++ [y], by have := HR.out.2; simp; omega, by go_num, HE.out, HD1.out, by omega⟩
    case measure => simp [intOf]
 have had : (A.2 == 0) = true := by simp [ha]
 have hne := HR5.out.2 ha
 have hpos := List.length_pos_iff.2 hne
 clear ha hne
 go_wp2_with fail
 refine (l01Next_any W1.heap.size W1.heap.size 3 _ HD5.out.src).mono ?_
 rintro e' w6 ⟨x6, rfl, _, hs6, ho6⟩
 have hz6 := ho6.size
 have HD6 := Lib.hid (HD5.out.step hs6 (ho6.toF (.inl rfl)) (by omega) (by omega))
 have HR6 := Lib.hid (HR5.out.1.only ho6 (by omega)); clear hs6 ho6
 by_cases hx6 : 0 < x6
 rotate_left
 ·have hxd : decide (0 < x6) = false := decide_eq_false hx6
  clear hx6
  go_wp2_with fail
  obtain ⟨w7, hw7⟩ : ∃ w7, w7 = w6.alloc (.cells #[] 2) := ⟨_, rfl⟩
  have hb67 : Below w6.heap.size w6 w7 := by rw [hw7]; exact (Below.refl _ _).alloc (Nat.le_refl _) _
  have hown7 := own_lit0 w6 w6.heap.size 2 1 (Nat.le_refl _)
  rw [← hw7] at hown7
  have hz7 := hb67.size
  have hmx := lt_of_heap HD6.out.hm
  have HD7 := Lib.hid (HD6.out.step (HD6.out.src.below hb67) (Chg.of_below hb67) (by omega) (by omega))
  have HO7 := Lib.hid (And.intro hown7 hw7); clear hown7 hw7 hb67
  go_wp2_with fail
  rw [← HO7.out.2]
  refine (l01Next_any W1.heap.size W1.heap.size 5 _ HD7.out.src).mono ?_
  rintro e' w8 ⟨n8, rfl, ⟨hn0, hn1⟩, hs8, ho8⟩
  obtain ⟨nn, rfl⟩ : ∃ q : Nat, n8 = (q : Int) := ⟨n8.toNat, by omega⟩
  have hnn : nn ≤ 5 := by omega
  have hz8 := ho8.size
  have HD8 := Lib.hid (HD7.out.step hs8 (ho8.toF (.inl rfl)) (by omega) (by omega))
  have HO8 := Lib.hid (own_only HO7.out.1 ho8 (by omega)); clear hs8 ho8 hn0 hn1
  go_wp2_with fail
  go_loopw [14, 15] (fun ov nv wr => ∃ (n : Nat) (rl : List Int), n + rl.length ≤ 5 ∧ nv = .int .i64 (n : Int) ∧ wr.ownsRow w6.heap.size 2 1 ov rl.length (rl.map (Value.int .i64)) ∧ IrAt W W1 w2 w3 m (.slice ta T.length tc) T (.slice ca cuts.length cc) cuts wr ∧ w6.heap.size ≤ wr.heap.size) (fun _ nv _ => (intOf nv).toNat)
  case atStart => exact ⟨nn, [], by simpa using hnn, rfl, HO8.out, HD8.out, by omega⟩
  case round =>
   obtain ⟨n, rl, hnl, rfl, hown, hD, hzo⟩ := hrel
   obtain ⟨wo, rfl⟩ : ∃ x, x = wr := ⟨_, rfl⟩
   have HDo := Lib.hid hD; clear hD
   by_cases hn : n = 0
   ·subst hn
    obtain ⟨oa, oc, rfl, _, _⟩ := own_form hown
    have HKo := Lib.hid ((own_F1 hown).v1.mono (S' := fun b => w3.heap.size ≤ b) (fun b hb _ => by have hb : w6.heap.size ≤ b := hb; omega) (fun _ _ _ => rfl)); clear hown hnl
    have hcMx : ∀ o, wo.cell? ⟨w3.heap.size, o, none⟩ = (#[.int .i64 m.c, .int .i64 m.d, .int .i64 m.s, .int .i64 m.e, .int .i64 m.l, .slice ta T.length tc] : Array Value)[o]? := fun o => by rw [cell_of_block HDo.out.hm]
    have hcRz : ∀ o, wo.cell? ⟨W.heap.size, o, none⟩ = (#[.int .i64 0, .int .i64 0, .int .i64 0, .int .i64 0, .int .i64 0, .slice none 0 0] : Array Value)[o]? := fun o => by rw [cell_of_block HDo.out.hr]
    have hfRz := fun o => frozen_of_block HDo.out.hr o
    have hdone := putS_new HDo.out.below HDo.out.hr (.int .i64 m.c) (.int .i64 m.d) (.int .i64 m.s) (.int .i64 m.e) (.int .i64 m.l) (.slice ta T.length tc)
    obtain ⟨wz, hwz⟩ : ∃ wz, wz = putS wo W.heap.size (.int .i64 m.c) (.int .i64 m.d) (.int .i64 m.s) (.int .i64 m.e) (.int .i64 m.l) (.slice ta T.length tc) := ⟨_, rfl⟩
    rw [← hwz] at hdone
    obtain ⟨hd2, hd3, hd4⟩ := hdone
    have hFz : V2 (fun b => W.heap.size ≤ b) wz (.slice ta T.length tc) T := V2.mono (S := fun b => W1.heap.size < b ∧ b < w3.heap.size) HDo.out.tab (fun b hb _ => by have hb := hb.1; omega) (fun b hb _ => hd4 b (by have hb := hb.1; omega))
    have hcz : V2 (fun b => W.heap.size ≤ b) wz (.slice ca cuts.length cc) cuts := V2.mono (S := fun b => W1.heap.size < b ∧ b < w3.heap.size) HDo.out.cut (fun b hb _ => by have hb := hb.1; omega) (fun b hb _ => hd4 b (by have hb := hb.1; omega))
    have hkz : V1 (fun b => W.heap.size ≤ b) wz (.slice oa rl.length oc) rl := V1.mono (S := fun b => w3.heap.size ≤ b) HKo.out (fun b hb _ => by have hb : w3.heap.size ≤ b := hb; omega) (fun b hb _ => hd4 b (by have hb : w3.heap.size ≤ b := hb; omega))
    have hz0 : wz.cell? ⟨W.heap.size, 0, none⟩ = some (.int .i64 m.c) := by rw [cell_of_block hd3]; rfl
    have hz1 : wz.cell? ⟨W.heap.size, 1, none⟩ = some (.int .i64 m.d) := by rw [cell_of_block hd3]; rfl
    have hz2 : wz.cell? ⟨W.heap.size, 2, none⟩ = some (.int .i64 m.s) := by rw [cell_of_block hd3]; rfl
    have hz3 : wz.cell? ⟨W.heap.size, 3, none⟩ = some (.int .i64 m.e) := by rw [cell_of_block hd3]; rfl
    have hz4 : wz.cell? ⟨W.heap.size, 4, none⟩ = some (.int .i64 m.l) := by rw [cell_of_block hd3]; rfl
    have hz5 : wz.cell? ⟨W.heap.size, 5, none⟩ = some (.slice ta T.length tc) := by rw [cell_of_block hd3]; rfl
    have HZ := Lib.hid (And.intro hd2 (And.intro hFz (And.intro hcz (And.intro hkz (And.intro hwz (And.intro hz0 (And.intro hz1 (And.intro hz2 (And.intro hz3 (And.intro hz4 hz5)))))))))); clear hd2 hd3 hd4 hFz hcz hkz hwz hz0 hz1 hz2 hz3 hz4 hz5
    go_wp2_with fail
    have hwz := HZ.out.2.2.2.2.1
    unfold putS putR at hwz
    rw [← hwz]
    clear hwz
    obtain ⟨hd2, hFz, hcz, hkz, hwzz, hz0, hz1, hz2, hz3, hz4, hz5⟩ := HZ.out
    clear hwzz
    exact bodyPost_ret (v := .tuple #[.agg #[.int .i64 m.c, .int .i64 m.d, .int .i64 m.s, .int .i64 m.e, .int .i64 m.l, .slice ta T.length tc], .slice ca cuts.length cc, .int .i64 key, .int .i64 door, (.slice oa rl.length oc)]) (by simp [results, Tryz.results27, go_sem, hz0, hz1, hz2, hz3, hz4, hz5]) rfl ⟨m, _, _, T, cuts, key, door, _, rl, rfl, hkz, hFz, hcz, hd2⟩
   ·obtain ⟨n, rfl⟩ : ∃ k, n = k + 1 := ⟨n - 1, by omega⟩
    have hnd : decide ((0 : Int) < ((n + 1 : Nat) : Int)) = true := decide_eq_true (by omega)
    have hnd2 : decide ((0 : Int) < (n : Int) + 1) = true := decide_eq_true (by omega)
    have hnd3 : decide (0 < n + 1) = true := decide_eq_true (by omega)
    obtain ⟨oa, oc, rfl, _, _⟩ := own_form hown
    have HR := Lib.hid (And.intro hown hnl); clear hown hn
    have hnT : n + 1 ≤ 5 := by omega
    go_wp2_with fail
    refine (l01Next_any W1.heap.size W1.heap.size 4 _ HDo.out.src).mono ?_
    rintro e' wb ⟨y, rfl, _, hsb, hob⟩
    have hzb := hob.size
    have HDb := Lib.hid (HDo.out.step hsb (hob.toF (.inl rfl)) (by omega) (by omega))
    have hownb := own_only HR.out.1 hob (by omega)
    have hrl : rl.length ≤ 5 := by omega
    clear hsb hob
    go_wp2_with (at_builtin; refine wp_app1 _ rfl _ _ 35 rfl w6.heap.size 2 (.int .i64 0) 8 Tryz.underlying35 inf_int rfl _ _ _ rfl hownb (.int .i64 y) _ rfl rfl (by omega) (by omega) (by omega) ?_; intro v1 w1 hown1 hgrow1 hblk1 hB1)
    have hg1 : Chg (fun i => w6.heap.size ≤ i) wb w1 := (Chg.refl _ _).grown hgrow1 (fun g hg => .inl (hownb.lt g hg).1)
    have HD1 := Lib.hid (HDb.out.step (HDb.out.src.keep hg1 (fun b hb => ⟨by omega, by omega⟩)) (hg1.mono (fun b hb => .inr (by omega))) (by omega) (by omega))
    have hz1w := hg1.size
    have hE : w1.ownsRow w6.heap.size 2 1 v1 (rl ++ [y]).length ((rl ++ [y]).map (Value.int .i64)) := by rw [List.map_append, List.length_append]; exact hown1
    obtain ⟨na, nc, rfl, _, _⟩ := own_form hown1
    have HE := Lib.hid hE; clear hg1 hgrow1 hblk1 hB1 hown1 hownb hE
    go_roundw
    case rel => exact ⟨n, rl ++ [y], by have := HR.out.2; simp; omega, by go_num, HE.out, HD1.out, by omega⟩
    case measure => simp [intOf]
 have hxd : decide (0 < x6) = true := decide_eq_true hx6
 clear hx6
 go_wp2_with fail
 refine (l01Next_any W1.heap.size W1.heap.size 4 _ HD6.out.src).mono ?_
 rintro e' wa ⟨xa, rfl, _, hsa, hoa⟩
 have hza := hoa.size
 have HDa := Lib.hid (HD6.out.step hsa (hoa.toF (.inl rfl)) (by omega) (by omega))
 have HRa := Lib.hid (HR6.out.only hoa (by omega)); clear hsa hoa
 by_cases hxa : xa = 0
 rotate_left
 ·have hxad : (xa == 0) = false := by simp [hxa]
  clear hxa
  have HKa := Lib.hid (HRa.out.v1.mono (S' := fun b => w3.heap.size ≤ b) (fun b hb _ => by have hb : w4.heap.size ≤ b := hb; omega) (fun _ _ _ => rfl))
  have hcMx : ∀ o, wa.cell? ⟨w3.heap.size, o, none⟩ = (#[.int .i64 m.c, .int .i64 m.d, .int .i64 m.s, .int .i64 m.e, .int .i64 m.l, .slice ta T.length tc] : Array Value)[o]? := fun o => by rw [cell_of_block HDa.out.hm]
  have hcRz : ∀ o, wa.cell? ⟨W.heap.size, o, none⟩ = (#[.int .i64 0, .int .i64 0, .int .i64 0, .int .i64 0, .int .i64 0, .slice none 0 0] : Array Value)[o]? := fun o => by rw [cell_of_block HDa.out.hr]
  have hfRz := fun o => frozen_of_block HDa.out.hr o
  have hdone := putS_new HDa.out.below HDa.out.hr (.int .i64 m.c) (.int .i64 m.d) (.int .i64 m.s) (.int .i64 m.e) (.int .i64 m.l) (.slice ta T.length tc)
  obtain ⟨wz, hwz⟩ : ∃ wz, wz = putS wa W.heap.size (.int .i64 m.c) (.int .i64 m.d) (.int .i64 m.s) (.int .i64 m.e) (.int .i64 m.l) (.slice ta T.length tc) := ⟨_, rfl⟩
  rw [← hwz] at hdone
  obtain ⟨hd2, hd3, hd4⟩ := hdone
  have hFz : V2 (fun b => W.heap.size ≤ b) wz (.slice ta T.length tc) T := V2.mono (S := fun b => W1.heap.size < b ∧ b < w3.heap.size) HDa.out.tab (fun b hb _ => by have hb := hb.1; omega) (fun b hb _ => hd4 b (by have hb := hb.1; omega))
  have hcz : V2 (fun b => W.heap.size ≤ b) wz (.slice ca cuts.length cc) cuts := V2.mono (S := fun b => W1.heap.size < b ∧ b < w3.heap.size) HDa.out.cut (fun b hb _ => by have hb := hb.1; omega) (fun b hb _ => hd4 b (by have hb := hb.1; omega))
  have hkz : V1 (fun b => W.heap.size ≤ b) wz (.slice ra A.1.length rc) A.1 := V1.mono (S := fun b => w3.heap.size ≤ b) HKa.out (fun b hb _ => by have hb : w3.heap.size ≤ b := hb; omega) (fun b hb _ => hd4 b (by have hb : w3.heap.size ≤ b := hb; omega))
  have hz0 : wz.cell? ⟨W.heap.size, 0, none⟩ = some (.int .i64 m.c) := by rw [cell_of_block hd3]; rfl
  have hz1 : wz.cell? ⟨W.heap.size, 1, none⟩ = some (.int .i64 m.d) := by rw [cell_of_block hd3]; rfl
  have hz2 : wz.cell? ⟨W.heap.size, 2, none⟩ = some (.int .i64 m.s) := by rw [cell_of_block hd3]; rfl
  have hz3 : wz.cell? ⟨W.heap.size, 3, none⟩ = some (.int .i64 m.e) := by rw [cell_of_block hd3]; rfl
  have hz4 : wz.cell? ⟨W.heap.size, 4, none⟩ = some (.int .i64 m.l) := by rw [cell_of_block hd3]; rfl
  have hz5 : wz.cell? ⟨W.heap.size, 5, none⟩ = some (.slice ta T.length tc) := by rw [cell_of_block hd3]; rfl
  have HZ := Lib.hid (And.intro hd2 (And.intro hFz (And.intro hcz (And.intro hkz (And.intro hwz (And.intro hz0 (And.intro hz1 (And.intro hz2 (And.intro hz3 (And.intro hz4 hz5)))))))))); clear hd2 hd3 hd4 hFz hcz hkz hwz hz0 hz1 hz2 hz3 hz4 hz5
  go_wp2_with fail
  have hwz := HZ.out.2.2.2.2.1
  unfold putS putR at hwz
  rw [← hwz]
  clear hwz
  obtain ⟨hd2, hFz, hcz, hkz, hwzz, hz0, hz1, hz2, hz3, hz4, hz5⟩ := HZ.out
  clear hwzz
  exact bodyPost_ret (v := .tuple #[.agg #[.int .i64 m.c, .int .i64 m.d, .int .i64 m.s, .int .i64 m.e, .int .i64 m.l, .slice ta T.length tc], .slice ca cuts.length cc, .int .i64 key, .int .i64 door, (.slice ra A.1.length rc)]) (by simp [results, Tryz.results27, go_sem, hz0, hz1, hz2, hz3, hz4, hz5]) rfl ⟨m, _, _, T, cuts, key, door, _, A.1, rfl, hkz, hFz, hcz, hd2⟩
 subst hxa
 go_wp2_with fail
 refine (l01Next_any W1.heap.size W1.heap.size _ _ HDa.out.src).mono ?_
 rintro e' wb ⟨xb, rfl, ⟨hb0, hb1⟩, hsb, hob⟩
 obtain ⟨k, rfl⟩ : ∃ k : Nat, xb = (k : Int) := ⟨xb.toNat, by omega⟩
 have hk : k < A.1.length := by omega
 have hkn : ¬ A.1.length ≤ k := by omega
 have hzb := hob.size
 have HDb := Lib.hid (HDa.out.step hsb (hob.toF (.inl rfl)) (by omega) (by omega))
 have HRb := Lib.hid (HRa.out.only hob (by omega)); clear hsb hob hb0 hb1
 go_wp2_with fail
 refine (l01Next_any W1.heap.size W1.heap.size 5 _ HDb.out.src).mono ?_
 rintro e' wc ⟨xc, rfl, _, hsc, hoc⟩
 have hzc := hoc.size
 have HDc := Lib.hid (HDb.out.step hsc (hoc.toF (.inl rfl)) (by omega) (by omega))
 have hRc := HRb.out.only hoc (by omega); clear hsc hoc
 obtain ⟨bk, hX, hbk⟩ := hRc
 have hbk := hbk (by intro e; rw [e] at hpos; simp at hpos)
 obtain ⟨bk', ok, rfl, hbe, _⟩ := (hX.v1 (S := fun b => b = bk) (fun _ => rfl)).cell hk
 have hbe : bk' = bk := hbe
 subst hbe
 have hX2 := hX.put hk (xc - 1)
 obtain ⟨hcx, hfx⟩ := hX.get hk
 have hchg : Chg (fun b => w3.heap.size < b) wc (wc.setCell ⟨bk', ok + k, none⟩ (.int .i64 (xc - 1))) := (Chg.refl _ _).setCell (p := ⟨bk', ok + k, none⟩) (.inl (by show w3.heap.size < bk'; omega)) _
 obtain ⟨wd, hwd⟩ : ∃ x, x = wc.setCell ⟨bk', ok + k, none⟩ (.int .i64 (xc - 1)) := ⟨_, rfl⟩
 rw [← hwd] at hX2 hchg
 have HDd := Lib.hid (HDc.out.step (HDc.out.src.keep hchg (fun b hb => ⟨by omega, by omega⟩)) (hchg.mono (fun b hb => .inr hb)) (by omega) (by omega))
 have hsl : (A.1.set k (xc - 1)).length = A.1.length := List.length_set
 have HKd := Lib.hid (And.intro (hX2.v1 (S := fun b => w3.heap.size ≤ b) (fun _ => by show w3.heap.size ≤ bk'; omega)) (And.intro hsl hwd)); clear hX2 hchg hX hsl hwd
 have hcMs : ∀ o, (wc.setCell ⟨bk', ok + k, none⟩ (.int .i64 (xc - 1))).cell? ⟨w3.heap.size, o, none⟩ = (#[.int .i64 m.c, .int .i64 m.d, .int .i64 m.s, .int .i64 m.e, .int .i64 m.l, .slice ta T.length tc] : Array Value)[o]? := fun o => by rw [← HKd.out.2.2]; rw [cell_of_block HDd.out.hm]
 have hcRs : ∀ o, (wc.setCell ⟨bk', ok + k, none⟩ (.int .i64 (xc - 1))).cell? ⟨W.heap.size, o, none⟩ = (#[.int .i64 0, .int .i64 0, .int .i64 0, .int .i64 0, .int .i64 0, .slice none 0 0] : Array Value)[o]? := fun o => by rw [← HKd.out.2.2]; rw [cell_of_block HDd.out.hr]
 have hfRs : ∀ o, (wc.setCell ⟨bk', ok + k, none⟩ (.int .i64 (xc - 1))).frozen? ⟨W.heap.size, o, none⟩ = false := fun o => by rw [← HKd.out.2.2]; exact frozen_of_block HDd.out.hr o
 have hcMx : ∀ o, wd.cell? ⟨w3.heap.size, o, none⟩ = (#[.int .i64 m.c, .int .i64 m.d, .int .i64 m.s, .int .i64 m.e, .int .i64 m.l, .slice ta T.length tc] : Array Value)[o]? := fun o => by rw [cell_of_block HDd.out.hm]
 have hcRz : ∀ o, wd.cell? ⟨W.heap.size, o, none⟩ = (#[.int .i64 0, .int .i64 0, .int .i64 0, .int .i64 0, .int .i64 0, .slice none 0 0] : Array Value)[o]? := fun o => by rw [cell_of_block HDd.out.hr]
 have hfRz := fun o => frozen_of_block HDd.out.hr o
 have hdone := putS_new HDd.out.below HDd.out.hr (.int .i64 m.c) (.int .i64 m.d) (.int .i64 m.s) (.int .i64 m.e) (.int .i64 m.l) (.slice ta T.length tc)
 obtain ⟨wz, hwz⟩ : ∃ wz, wz = putS wd W.heap.size (.int .i64 m.c) (.int .i64 m.d) (.int .i64 m.s) (.int .i64 m.e) (.int .i64 m.l) (.slice ta T.length tc) := ⟨_, rfl⟩
 rw [← hwz] at hdone
 obtain ⟨hd2, hd3, hd4⟩ := hdone
 have hFz : V2 (fun b => W.heap.size ≤ b) wz (.slice ta T.length tc) T := V2.mono (S := fun b => W1.heap.size < b ∧ b < w3.heap.size) HDd.out.tab (fun b hb _ => by have hb := hb.1; omega) (fun b hb _ => hd4 b (by have hb := hb.1; omega))
 have hcz : V2 (fun b => W.heap.size ≤ b) wz (.slice ca cuts.length cc) cuts := V2.mono (S := fun b => W1.heap.size < b ∧ b < w3.heap.size) HDd.out.cut (fun b hb _ => by have hb := hb.1; omega) (fun b hb _ => hd4 b (by have hb := hb.1; omega))
 have hkz : V1 (fun b => W.heap.size ≤ b) wz (.slice (some ⟨bk', ok, none⟩) A.1.length rc) (A.1.set k (xc - 1)) := V1.mono (S := fun b => w3.heap.size ≤ b) HKd.out.1 (fun b hb _ => by have hb : w3.heap.size ≤ b := hb; omega) (fun b hb _ => hd4 b (by have hb : w3.heap.size ≤ b := hb; omega))
 have hz0 : wz.cell? ⟨W.heap.size, 0, none⟩ = some (.int .i64 m.c) := by rw [cell_of_block hd3]; rfl
 have hz1 : wz.cell? ⟨W.heap.size, 1, none⟩ = some (.int .i64 m.d) := by rw [cell_of_block hd3]; rfl
 have hz2 : wz.cell? ⟨W.heap.size, 2, none⟩ = some (.int .i64 m.s) := by rw [cell_of_block hd3]; rfl
 have hz3 : wz.cell? ⟨W.heap.size, 3, none⟩ = some (.int .i64 m.e) := by rw [cell_of_block hd3]; rfl
 have hz4 : wz.cell? ⟨W.heap.size, 4, none⟩ = some (.int .i64 m.l) := by rw [cell_of_block hd3]; rfl
 have hz5 : wz.cell? ⟨W.heap.size, 5, none⟩ = some (.slice ta T.length tc) := by rw [cell_of_block hd3]; rfl
 have HZ := Lib.hid (And.intro hd2 (And.intro hFz (And.intro hcz (And.intro hkz (And.intro hwz (And.intro hz0 (And.intro hz1 (And.intro hz2 (And.intro hz3 (And.intro hz4 hz5)))))))))); clear hd2 hd3 hd4 hFz hcz hkz hwz hz0 hz1 hz2 hz3 hz4 hz5
 (go_wp2_with fail; rw [← HKd.out.2.2])
 have hwz := HZ.out.2.2.2.2.1
 unfold putS putR at hwz
 rw [← hwz]
 clear hwz
 obtain ⟨hd2, hFz, hcz, hkz, hwzz, hz0, hz1, hz2, hz3, hz4, hz5⟩ := HZ.out
 clear hwzz
 exact bodyPost_ret (v := .tuple #[.agg #[.int .i64 m.c, .int .i64 m.d, .int .i64 m.s, .int .i64 m.e, .int .i64 m.l, .slice ta T.length tc], .slice ca cuts.length cc, .int .i64 key, .int .i64 door, (.slice (some ⟨bk', ok, none⟩) A.1.length rc)]) (by simp [results, Tryz.results27, go_sem, hz0, hz1, hz2, hz3, hz4, hz5]) rfl ⟨m, _, _, T, cuts, key, door, _, (A.1.set k (xc - 1)), rfl, hkz, hFz, hcz, hd2⟩
theorem prodTo_iff {ls : List (List Int)} {k : Nat} : 0 < prodTo ls k ↔ ∀ j, j < k → getl ls j ≠ [] := by
 constructor
 ·intro h j hj e
  exact prodTo_pos (k := k) (Nat.pos_iff_ne_zero.1 h) j hj (by rw [e]; rfl)
 ·intro h
  refine Nat.pos_of_ne_zero fun e => ?_
  obtain ⟨j, hj, hl⟩ := prodTo_zero e
  exact h j hj (List.eq_nil_of_length_eq_zero hl)
theorem allHas_iff {ls : List (List Int)} {rs : List Int} : ∀ {k : Nat}, allHas ls rs k = true ↔ ∀ j, j < k → geti rs j ∈ getl ls j
 | 0 => by simp [allHas]
 | k + 1 => by
   unfold allHas
   rw [Bool.and_eq_true, allHas_iff, hasI_iff]
   constructor
   ·rintro ⟨h1, h2⟩ j hj
    by_cases e : j = k
    ·subst e; exact h2
    ·exact h1 j (by omega)
   ·intro h
    exact ⟨fun j hj => h j (by omega), h k (by omega)⟩
/-- The key of row k opens the lock of door d exactly if there is a reason. -/
theorem open_reas {n : Nat} {t cuts : List (List Int)} {k d : Nat} (hk : k < cuts.length) (hlen : (getl cuts k).length = n) :
  opensB (lockR n t cuts d) (getl cuts k) = true ↔ 0 < prodTo (reasRows t cuts k d n) n := by
 rw [opensB_iff, prodTo_iff]
 constructor
 ·intro h c hc
  obtain ⟨x, hx, e⟩ := (mem_lock hc).1 (h c (by omega))
  obtain ⟨j, hj, rfl, h1⟩ := mem_doorCuts hx
  rw [reasRows_get hc]
  exact List.ne_nil_of_mem (mem_reasRow.2 ⟨j, hj, rfl, h1, e⟩)
 ·intro h c hc
  have h1 := h c (by omega)
  rw [reasRows_get (by omega)] at h1
  obtain ⟨x, hx⟩ := List.exists_mem_of_ne_nil _ h1
  obtain ⟨j, hj, rfl, h2, h3⟩ := mem_reasRow.1 hx
  refine (mem_lock (by omega)).2 ⟨getl cuts j, ?_, h3⟩
  rw [doorCuts_map, List.mem_map]
  exact ⟨_, mem_rowsF.2 ⟨j, hj, rfl, h2⟩, by simp⟩
theorem numB_of {l : List Int} (hl : l.length ≤ 100) (h : ∀ x ∈ l, 0 ≤ x ∧ x ≤ 1000000000000) : numB l = true := by
 unfold numB
 rw [Bool.and_eq_true, decide_eq_true_iff, List.all_eq_true]
 exact ⟨hl, fun x hx => inB_iff.2 (h x hx)⟩
theorem reas_law {m : Mk} {t cuts : List (List Int)} {key door : Int} {c : Int × Int} (hc : cntReasAns m t cuts key door = c) :
  (c.2 ≠ 0 → (firstReasAns m t cuts key door).2 = c.2 ∧ (shortAns m t cuts key door).2 = c.2) ∧
  (c.2 = 0 → ∃ k d : Nat, key = (k : Int) ∧ door = (d : Int) ∧ k < cuts.length ∧ d < (getl t 0).length ∧ partC m t cuts = 0 ∧ (opensB (lockR m.c.toNat t cuts d) (getl cuts k) = decide (0 < c.1)) ∧
   (c.1 = 0 → (firstReasAns m t cuts key door).2 ≠ 0 ∧ (shortAns m t cuts key door).2 ≠ 0) ∧
   (c.1 ≠ 0 → (firstReasAns m t cuts key door).2 = 0 ∧ (shortAns m t cuts key door).2 = 0 ∧ isReasAns m t cuts key door (firstReasAns m t cuts key door).1 = (true, 0) ∧ isReasAns m t cuts key door (shortAns m t cuts key door).1 = (true, 0) ∧
    rowsAns (firstReasAns m t cuts key door).1 = (diffI (firstReasAns m t cuts key door).1, 0) ∧ rowsAns (shortAns m t cuts key door).1 = (diffI (shortAns m t cuts key door).1, 0) ∧
    (diffI (shortAns m t cuts key door).1).length ≤ (diffI (firstReasAns m t cuts key door).1).length) ∧ 0 ≤ c.1) := by
 subst hc
 by_cases hp : reasC m t cuts key door ≠ 0
 ·have e1 : cntReasAns m t cuts key door = (0, reasC m t cuts key door) := by unfold cntReasAns; rw [if_pos hp]
  have e2 : firstReasAns m t cuts key door = ([], reasC m t cuts key door) := by unfold firstReasAns; rw [if_pos hp]
  have e3 : shortAns m t cuts key door = ([], reasC m t cuts key door) := by unfold shortAns; rw [if_pos hp]
  rw [e1, e2, e3]
  exact ⟨fun _ => ⟨rfl, rfl⟩, fun h => absurd h hp⟩
 ·have hp0 := Classical.not_not.1 hp
  obtain ⟨hpc, k, d, rfl, rfl, hk, hd, _⟩ := reasC_ok hp0
  have hf := fits_of hpc
  have hmk := Mk.ok_iff.1 hf.ok
  have hrow := hf.rows
  have hfew := hf.few
  have e1 : cntReasAns m t cuts (k : Int) (d : Int) = (((prodTo (reasRows t cuts k d m.c.toNat) m.c.toNat : Nat) : Int), 0) := by unfold cntReasAns; rw [if_neg hp]; rfl
  have e2 : firstReasAns m t cuts (k : Int) (d : Int) = firstReas (reasRows t cuts k d m.c.toNat) := by unfold firstReasAns; rw [if_neg hp]; rfl
  have e3 : shortAns m t cuts (k : Int) (d : Int) = shortOf (reasRows t cuts k d m.c.toNat) := by unfold shortAns; rw [if_neg hp]; rfl
  have e4 : ∀ rs, isReasAns m t cuts (k : Int) (d : Int) rs = (decide (rs.length = m.c.toNat) && allHas (reasRows t cuts k d m.c.toNat) rs rs.length, 0) := fun rs => by unfold isReasAns; rw [if_neg hp]; rfl
  have hlk : (getl cuts k).length = m.c.toNat := by have := hf.lens k hk; omega
  have hop := open_reas (t := t) (d := d) hk hlk
  have hR := reasRows_ok (t := t) (cuts := cuts) (key := k) (door := d) (n := m.c.toNat) (by omega)
  have hlr : (reasRows t cuts k d m.c.toNat).length = m.c.toNat := reasRows_len _ _ _ _ _
  obtain ⟨R, hRe⟩ : ∃ R, reasRows t cuts k d m.c.toNat = R := ⟨_, rfl⟩
  rw [hRe] at e1 e2 e3 e4 hop hR hlr
  rw [e1, e2, e3]
  refine ⟨fun h => absurd rfl h, fun _ => ⟨k, d, rfl, rfl, hk, hd, hpc, ?_, ?_, ?_, by show (0 : Int) ≤ ((prodTo R m.c.toNat : Nat) : Int); omega⟩⟩
  ·show _ = decide ((0 : Int) < ((prodTo R m.c.toNat : Nat) : Int))
   rw [Bool.eq_iff_iff, hop, decide_eq_true_iff]
   omega
  ·intro h
   have h0 : prodTo R R.length = 0 := by rw [hlr]; have h : ((prodTo R m.c.toNat : Nat) : Int) = 0 := h; omega
   refine ⟨?_, ?_⟩
   ·unfold firstReas; rw [if_pos h0]; decide
   ·unfold shortOf
    cases hb : bestW R.length (allR R) with
    | none => simp
    | some b =>
      exfalso
      obtain ⟨j, hj, hl⟩ := prodTo_zero h0
      have := (mem_allR.1 (bestW_some hb).1).2 j hj
      rw [List.eq_nil_of_length_eq_zero hl] at this
      cases this
  ·intro h
   have h0 : prodTo R R.length ≠ 0 := by rw [hlr]; have h : ((prodTo R m.c.toNat : Nat) : Int) ≠ 0 := h; omega
   have hne := prodTo_iff.1 (Nat.pos_of_ne_zero h0)
   have ef : firstReas R = ((List.range R.length).map (fun j => geti (getl R j) 0), 0) := by unfold firstReas; rw [if_neg h0]
   obtain ⟨P, hP⟩ : ∃ P, (List.range R.length).map (fun j => geti (getl R j) 0) = P := ⟨_, rfl⟩
   have hPa : P ∈ allR R := by
    rw [mem_allR, ← hP]
    refine ⟨by simp, fun j hj => ?_⟩
    have : geti ((List.range R.length).map (fun j => geti (getl R j) 0)) j = geti (getl R j) 0 := by unfold geti; simp [hj]
    rw [this]
    exact geti_mem (List.length_pos_iff.2 (hne j hj))
   obtain ⟨Q, hQ⟩ : ∃ Q, bestW R.length (allR R) = some Q := by
    cases hb : bestW R.length (allR R) with
    | none => rw [bestW_none.1 hb] at hPa; cases hPa
    | some b => exact ⟨b, rfl⟩
   have es : shortOf R = (Q, 0) := by unfold shortOf; rw [hQ]
   obtain ⟨hQa, hQb⟩ := bestW_some hQ
   have dP := allR_dig hR hPa
   have dQ := allR_dig hR hQa
   have hle : (diffI Q).length ≤ (diffI P).length := by
    refine Nat.le_of_not_lt fun hlt => ?_
    have := (wt_lt dP.1 dQ.1 dP.2 dQ.2).2 (.inl hlt)
    have := hQb P hPa
    omega
   have hin : ∀ L, L ∈ allR R → (decide (L.length = m.c.toNat) && allHas R L L.length, (0 : Int)) = (true, 0) ∧ rowsAns L = (diffI L, 0) := fun L hL => by
    obtain ⟨l1, l2⟩ := mem_allR.1 hL
    have dL := allR_dig hR hL
    refine ⟨?_, ?_⟩
    ·rw [decide_eq_true (by omega), allHas_iff.2 (fun j hj => l2 j (by omega))]; rfl
    ·unfold rowsAns
     rw [if_pos (numB_of (by omega) (fun x hx => by have := dL.1 x hx; omega))]
   rw [ef, es, hP]
   exact ⟨rfl, rfl, by rw [e4]; exact (hin P hPa).1, by rw [e4]; exact (hin Q hQa).1, (hin P hPa).2, (hin Q hQa).2, hle⟩
def openDAns (m : Mk) (t cuts : List (List Int)) (key : List Int) : List Int × Int :=
 if partC m t cuts ≠ 0 then ([], partC m t cuts) else if isKeyB m key = false then ([], 2) else (doorsOf (locksTo m.c.toNat t cuts (getl t 0).length) key, 0)
set_option maxRecDepth 100000 in
set_option maxHeartbeats 1000000 in
theorem OpenDoors_any {S S' S2 : Nat → Prop} (m : Mk) (u v kv : Value) (t cuts : List (List Int)) (key : List Int) (W : World) (h : V2 S W u t) (hc : V2 S' W v cuts) (hk : V1 S2 W kv key) :
  Calls Tryz.prog 30 #[.agg #[.int .i64 m.c, .int .i64 m.d, .int .i64 m.s, .int .i64 m.e, .int .i64 m.l, u], v, kv] W fun e' w' => ∃ v', e' = .returned (.tuple #[v', .int .i64 (openDAns m t cuts key).2]) ∧ F1 W.heap.size w' v' (openDAns m t cuts key).1 ∧ Below W.heap.size W w' := by
 obtain ⟨a, c, rfl, hmx⟩ := h.form
 obtain ⟨a', c', rfl, hmx'⟩ := hc.form
 obtain ⟨ka, kc, rfl, hmk⟩ := hk.form
 obtain ⟨W1, hW1, hB01, hz01, HZ01, hc01, hh01⟩ := box_facts W #[.int .i64 m.c, .int .i64 m.d, .int .i64 m.s, .int .i64 m.e, .int .i64 m.l, .slice a t.length c] 28
 have hV1 := (h.below hB01).any
 have hC1 := (hc.below hB01).any
 have hK1 := (hk.below hB01).any
 have hcode := partCode_any m _ _ t cuts W1 hV1 hC1
 by_cases hp : partC m t cuts = 0
 ·rw [hp] at hcode
  have hf := fits_of hp
  have hmc : ((m.c.toNat : Nat) : Int) = m.c := by have := Mk.ok_iff.1 hf.ok; omega
  have hdoors := hf.doors
  have hz1 : W.heap.size < W1.heap.size := hz01
  have Hf := Lib.hid (And.intro hf hmc); clear hf hmc
  cases hk2 : isKeyB m key
  ·have hfin : openDAns m t cuts key = ([], 2) := by unfold openDAns; rw [if_neg (by rw [hp]; decide), if_pos hk2]
   rw [hfin]
   have Hcode := Lib.hid hcode; clear hcode
   have Hk := Lib.hid hk2; clear hk2
   have Hp := Lib.hid (And.intro hp hfin); clear hp hfin
   go_enter Tryz.func30, Tryz.ntmps30
   go_wp2_with fail
   rw [← hW1]
   refine Hcode.out.mono ?_
   rintro e' w2 ⟨rfl, hb2⟩
   have hx2 : ∀ o, w2.cell? ⟨W.heap.size, o, none⟩ = (#[.int .i64 m.c, .int .i64 m.d, .int .i64 m.s, .int .i64 m.e, .int .i64 m.l, .slice a t.length c] : Array Value)[o]? := fun o => by rw [(bcell hb2).1 _ _ hz01, hc01]
   have hz2 : W.heap.size < w2.heap.size := by have := hb2.size; omega
   have Hc01 := Lib.hid hc01; clear hc01 hh01
   go_wp2_with fail
   refine (isKey_b m _ key _ _ Hk.out Hf.out.1.ok (hK1.below hb2)).mono ?_
   rintro e' w3 ⟨rfl, hb3⟩
   clear hx2
   go_wp2_with fail
   go_ret2
   exact ⟨_, rfl, F1.nil, hB01.trans ((hb2.trans (hb3.mono hb2.size)).mono (by omega))⟩
  ·have hfin : openDAns m t cuts key = (doorsOf (locksTo m.c.toNat t cuts (getl t 0).length) key, 0) := by
    unfold openDAns; rw [if_neg (by rw [hp]; decide), if_neg (by rw [hk2]; decide)]
   rw [hfin]
   have hlen : ∀ k, k < (locksTo m.c.toNat t cuts (getl t 0).length).length → key.length ≤ (getll (locksTo m.c.toNat t cuts (getl t 0).length) k).length := fun k hk => by
    rw [locksTo_len] at hk
    rw [lock_len hk]
    have := (isKey_iff.1 hk2).1
    have := Hf.out.2
    omega
   have hll : (locksTo m.c.toNat t cuts (getl t 0).length).length ≤ 12 := by rw [locksTo_len]; omega
   obtain ⟨locks, hlocks⟩ : ∃ x, locksTo m.c.toNat t cuts (getl t 0).length = x := ⟨_, rfl⟩
   rw [hlocks] at hlen hll hfin ⊢
   have Hlen := Lib.hid hlen; clear hlen
   have Hlk := Lib.hid hlocks; clear hlocks
   have Hcode := Lib.hid hcode; clear hcode
   have Hk := Lib.hid hk2; clear hk2
   have Hp := Lib.hid (And.intro hp hfin); clear hp hfin
   go_enter Tryz.func30, Tryz.ntmps30
   go_wp2_with fail
   rw [← hW1]
   refine Hcode.out.mono ?_
   rintro e' w2 ⟨rfl, hb2⟩
   have hx2 : ∀ o, w2.cell? ⟨W.heap.size, o, none⟩ = (#[.int .i64 m.c, .int .i64 m.d, .int .i64 m.s, .int .i64 m.e, .int .i64 m.l, .slice a t.length c] : Array Value)[o]? := fun o => by rw [(bcell hb2).1 _ _ hz01, hc01]
   have hz2 : W.heap.size < w2.heap.size := by have := hb2.size; omega
   have Hc01 := Lib.hid hc01; clear hc01 hh01
   go_wp2_with fail
   refine (isKey_b m _ key _ _ Hk.out Hf.out.1.ok (hK1.below hb2)).mono ?_
   rintro e' w3 ⟨rfl, hb3⟩
   have hb13 := hb2.trans (hb3.mono hb2.size)
   have hx3 : ∀ o, w3.cell? ⟨W.heap.size, o, none⟩ = (#[.int .i64 m.c, .int .i64 m.d, .int .i64 m.s, .int .i64 m.e, .int .i64 m.l, .slice a t.length c] : Array Value)[o]? := fun o => by rw [(bcell hb13).1 _ _ hz01, Hc01.out]
   have hz3 : W.heap.size < w3.heap.size := by have := hb3.size; omega
   clear hx2
   have hown0 := own_lit0 w3 w3.heap.size 2 1 (Nat.le_refl _)
   obtain ⟨w3a, hw3a⟩ : ∃ x, x = w3.alloc (.cells #[] 2) := ⟨_, rfl⟩
   have hb3a : Below w3.heap.size w3 w3a := by rw [hw3a]; exact (Below.refl _ _).alloc (Nat.le_refl _) _
   rw [← hw3a] at hown0
   have hx3a : ∀ o, w3a.cell? ⟨W.heap.size, o, none⟩ = (#[.int .i64 m.c, .int .i64 m.d, .int .i64 m.s, .int .i64 m.e, .int .i64 m.l, .slice a t.length c] : Array Value)[o]? := fun o => by rw [(bcell hb3a).1 _ _ hz3, hx3]
   have hx3b : ∀ o, (w3.alloc (.cells #[] 2)).cell? ⟨W.heap.size, o, none⟩ = (#[.int .i64 m.c, .int .i64 m.d, .int .i64 m.s, .int .i64 m.e, .int .i64 m.l, .slice a t.length c] : Array Value)[o]? := fun o => by rw [← hw3a]; exact hx3a o
   have hsz3 : w3.heap.size < w3a.heap.size := by rw [hw3a]; simp
   have H3 := Lib.hid (And.intro hown0 (And.intro hb3a hw3a)); clear hown0 hb3a hw3a
   go_wp2_with fail
   rw [← H3.out.2.2]
   have hb1a := hb13.trans (H3.out.2.1.mono hb13.size)
   refine (partLocks_any m _ _ t cuts m.c.toNat _ Hf.out.1 Hf.out.2 (hV1.below hb1a) (hC1.below hb1a)).mono ?_
   rintro e' w4 ⟨v4, rfl, hL4, hb4⟩
   rw [Hlk.out] at hL4
   clear hx3 hx3a hx3b
   have hb14 := hb1a.trans (hb4.mono hb1a.size)
   have hK4 : V1 (fun b => b < w3.heap.size) w4 (.slice ka key.length kc) key := (((hk.below hB01).old).below hb14).mono (fun b hb _ => by have hb : b < W1.heap.size := hb; have := hb13.size; show b < w3.heap.size; omega) (fun _ _ _ => rfl)
   have hV : V3 (fun b => b ≠ w3.heap.size) w4 v4 locks := V3.mono hL4 (fun b hb _ => by have hb : w3a.heap.size ≤ b := hb; omega) (fun _ _ _ => rfl)
   obtain ⟨la, lc, rfl, hm⟩ := hL4.form
   have hown4 := own_chg H3.out.1 (Chg.of_below (F := fun _ => False) hb4) (fun _ _ h => h)
   have hb34 : Below w3.heap.size w3 w4 := H3.out.2.1.trans (hb4.mono H3.out.2.1.size)
   have hz13 := hb13.size
   have Hb14 := Lib.hid (And.intro hb14 (And.intro hown4 hb34)); clear hb14 hb4 hb1a hb13 hb2 hb3 hown4 hb34 hL4
   have hz34 := Hb14.out.2.2.size
   go_wp2_with fail
   go_loopw [9, 10, 11, 28] (fun o _ _ i wr => ∃ k : Nat, k ≤ locks.length ∧ i = .int .i64 (k : Int) ∧ wr.ownsRow w3.heap.size 2 1 o (doorsTo locks key k).length ((doorsTo locks key k).map (Value.int .i64)) ∧ (∀ g, o.ownBlock = some g → g = w3.heap.size ∨ w4.heap.size ≤ g) ∧ Chg (fun b => b = w3.heap.size) w4 wr) (fun _ _ _ i _ => locks.length - (intOf i).toNat)
   case atStart => exact ⟨0, Nat.zero_le _, rfl, Hb14.out.2.1, fun g hg => .inl (by simpa [Value.ownBlock] using hg.symm), Chg.refl _ _⟩
   case round =>
    obtain ⟨k, hkl, rfl, hown, hgb, hB⟩ := hrel
    have hdl := doorsTo_len locks key k
    have hzW := hB.size
    by_cases hkk : k < locks.length
    ·obtain ⟨b1, off1, a1, c1, rfl, _, hc1, hr1⟩ := (V3.mono (S' := fun _ => True) hV (fun _ _ _ => trivial) (hB.keep fun b hb hF => hb hF)).cell hkk
     have hlk := Hlen.out k hkk
     have hbA : Below wr.heap.size wr (wr.alloc (.cells #[.slice a1 (getll locks k).length c1] 129)) := (Below.refl _ _).alloc (Nat.le_refl _) _
     have hK4b : V1 (fun b => b < w3.heap.size) wr (.slice ka key.length kc) key := hK4.mono (fun _ h _ => h) (hB.keep fun b hb hF => by have hb : b < w3.heap.size := hb; omega)
     cases ho : opensB (getll locks k) key
     ·have hst : doorsTo locks key (k + 1) = doorsTo locks key k := by rw [doorsTo, ho]; rfl
      have Hst := Lib.hid hst; clear hst
      have Ho := Lib.hid ho; clear ho
      go_wp2_with fail
      refine (opens_b _ _ (getll locks k) key _ _ Ho.out (hr1.below hbA) (hK4b.below hbA) hlk).mono ?_
      rintro e' w5 ⟨rfl, hb5⟩
      have hb05 := hbA.trans (hb5.mono (by simp))
      have hown5 := own_chg hown (Chg.of_below (F := fun _ => False) hb05) (fun _ _ h => h)
      clear hc1 hr1 hbA hown
      go_wp2_with fail
      go_roundw
      case rel => exact ⟨k + 1, by omega, by go_num, by rw [Hst.out]; exact hown5, hgb, hB.then_below hb05⟩
      case measure => simp [intOf]; omega
     ·have hst : doorsTo locks key (k + 1) = doorsTo locks key k ++ [(k : Int)] := by rw [doorsTo, ho]; rfl
      have Hst := Lib.hid hst; clear hst
      have Ho := Lib.hid ho; clear ho
      go_wp2_with fail
      refine (opens_b _ _ (getll locks k) key _ _ Ho.out (hr1.below hbA) (hK4b.below hbA) hlk).mono ?_
      rintro e' w5 ⟨rfl, hb5⟩
      have hb05 := hbA.trans (hb5.mono (by simp))
      have hz5 := hb05.size
      have hown5 := own_chg hown (Chg.of_below (F := fun _ => False) hb05) (fun _ _ h => h)
      clear hc1 hr1 hbA hown
      go_wp2_with (at_builtin; refine wp_app1 _ rfl _ _ 35 rfl w3.heap.size 2 (.int .i64 0) 8 Tryz.underlying35 inf_int rfl _ _ _ rfl hown5 (.int .i64 k) _ rfl rfl (by omega) (by omega) (by omega) ?_; intro v1 w1 hown1 hgrow1 hblk1 hB1)
      go_roundw
      case rel => exact ⟨k + 1, by omega, by go_num, by rw [Hst.out, List.map_append, List.length_append]; exact hown1, fun g hg => (by rcases hblk1 with e | ⟨g', e, hge⟩ <;> rw [hg] at e <;> first | exact hgb g e.symm | (cases e; right; omega)), (hB.then_below hb05).grown hgrow1 hgb⟩
      case measure => simp [intOf]; omega
    ·obtain rfl : k = locks.length := by omega
     have hfx := own_F1 hown
     have Hfx := Lib.hid (hfx.mono (show W.heap.size ≤ w3.heap.size by omega)); clear hfx hown
     go_wp2_with fail
     go_ret2
     exact ⟨_, rfl, Hfx.out, hB01.trans ((Hb14.out.1.trans (hB.to_below (fun b hb => by omega) Hb14.out.1.size)).mono (by omega))⟩
 ·have hfin : openDAns m t cuts key = ([], partC m t cuts) := by unfold openDAns; rw [if_pos hp]
  have e1 : (partC m t cuts != 0) = true := by simp [hp]
  rw [hfin]
  have Hp := Lib.hid (And.intro hp hfin); clear hp hfin
  generalize partC m t cuts = pc at *
  go_enter Tryz.func30, Tryz.ntmps30
  go_wp2_with fail
  rw [← hW1]
  refine hcode.mono ?_
  rintro e' w2 ⟨rfl, hb2⟩
  clear hc01 hh01
  go_wp2_with fail
  go_ret2
  exact ⟨_, rfl, F1.nil, hB01.trans (hb2.mono (by omega))⟩
theorem filter_ne_len {x : Int} : ∀ {L : List Int}, L.Pairwise (· < ·) → x ∈ L → (L.filter fun y => decide (y ≠ x)).length + 1 = L.length
 | [], _, h => by cases h
 | y :: ys, hp, h => by
   rw [List.pairwise_cons] at hp
   by_cases e : y = x
   ·subst e
    have : ys.filter (fun z => decide (z ≠ y)) = ys := List.filter_eq_self.2 fun z hz => by have := hp.1 z hz; simp; omega
    rw [List.filter_cons, if_neg (by simp), this, List.length_cons]
   ·have hx : x ∈ ys := by rcases List.mem_cons.1 h with h | h; exact absurd h.symm e; exact h
    rw [List.filter_cons, if_pos (by simp [e]), List.length_cons, List.length_cons, filter_ne_len hp.2 hx]
theorem diff_snoc (a : List Int) (x : Int) : (diffI (a ++ [x])).length = (diffI a).length + if x ∈ a then 0 else 1 := by
 obtain ⟨s1, m1⟩ := diffI_sort (a ++ [x])
 obtain ⟨s2, m2⟩ := diffI_sort a
 by_cases h : x ∈ a
 ·rw [if_pos h, Nat.add_zero]
  congr 1
  refine sorted_ext s1 s2 fun y => ?_
  rw [m1, m2, List.mem_append, List.mem_singleton]
  exact ⟨fun hh => by rcases hh with hh | hh; exact hh; rw [hh]; exact h, .inl⟩
 ·rw [if_neg h]
  have e : (diffI (a ++ [x])).filter (fun y => decide (y ≠ x)) = diffI a := by
   refine sorted_ext (s1.filter _) s2 fun y => ?_
   rw [List.mem_filter, m1, m2, List.mem_append, List.mem_singleton, decide_eq_true_eq]
   exact ⟨fun ⟨h1, h2⟩ => by rcases h1 with h1 | h1; exact h1; exact absurd h1 h2, fun hy => ⟨.inl hy, fun e => h (by rw [← e]; exact hy)⟩⟩
  rw [← e]
  exact (filter_ne_len s1 ((m1 x).2 (by simp))).symm
theorem kindsTo_diff (l : List Int) : ∀ k, k ≤ l.length → kindsTo l k = (diffI (l.take k)).length
 | 0, _ => by
   have : diffI (l.take 0) = [] := List.eq_nil_iff_forall_not_mem.2 fun y hy => by rw [(diffI_sort _).2, List.take_zero] at hy; cases hy
   rw [this]; rfl
 | k + 1, h => by
   rw [kindsTo, kindsTo_diff l k (by omega), take_geti h, diff_snoc]
   congr 1
   by_cases e : geti l k ∈ l.take k
   ·rw [if_pos e, if_pos (hasI_iff.2 e)]
   ·rw [if_neg e, if_neg (fun hh => e (hasI_iff.1 hh))]
theorem kinds_diff (l : List Int) : kinds l = (diffI l).length := by
 unfold kinds; rw [kindsTo_diff l _ (Nat.le_refl _), List.take_length]
/-- The better of two best choices. -/
def comb (n : Nat) (o p : Option (List Int)) : Option (List Int) := match p with
 | none => o
 | some l => better n o l
theorem comb_better (n : Nat) (o p : Option (List Int)) (x : List Int) : comb n o (better n p x) = better n (comb n o p) x := by
 cases o with
 | none => cases p with
   | none => rfl
   | some l =>
     by_cases h : wt n x < wt n l
     ·simp [comb, better, h]
     ·simp [comb, better, h]
 | some a => cases p with
   | none => rfl
   | some l =>
     by_cases h1 : wt n x < wt n l <;> by_cases h2 : wt n l < wt n a <;> by_cases h3 : wt n x < wt n a <;> simp [comb, better, h1, h2, h3] <;> omega
theorem foldl_comb (n : Nat) (o : Option (List Int)) : ∀ (L : List (List Int)), L.foldl (better n) o = comb n o (bestW n L) := by
 have key : ∀ (L : List (List Int)) (p : Option (List Int)), L.foldl (better n) (comb n o p) = comb n o (L.foldl (better n) p) := by
  intro L
  induction L with
  | nil => intro p; rfl
  | cons x L ih => intro p; rw [List.foldl_cons, List.foldl_cons, ← comb_better, ih]
 intro L
 exact key L none
theorem bestW_append (n : Nat) (L1 L2 : List (List Int)) : bestW n (L1 ++ L2) = comb n (bestW n L1) (bestW n L2) := by
 unfold bestW; rw [List.foldl_append]; exact foldl_comb n _ L2
/-- The choices that begin with beg. -/
def extR (rows : List (List Int)) (beg : List Int) : List (List Int) := (allR (rows.drop beg.length)).map fun l => beg ++ l
def extTo (rows : List (List Int)) (beg : List Int) (x : Nat) : List (List Int) := ((getl rows beg.length).take x).flatMap fun y => extR rows (beg ++ [y])
theorem extR_end {rows : List (List Int)} {beg : List Int} (h : beg.length = rows.length) : extR rows beg = [beg] := by
 unfold extR; rw [h, List.drop_length]; simp [allR]
theorem extR_all {rows : List (List Int)} {beg : List Int} (h : beg.length < rows.length) : extR rows beg = extTo rows beg (getl rows beg.length).length := by
 unfold extTo extR
 rw [List.take_length, List.drop_eq_getElem_cons h, allR, List.map_flatMap, getl_eq h]
 congr 1
 funext x
 rw [List.map_map, List.length_append, List.length_singleton]
 congr 1
 funext l
 simp
theorem extTo_succ (rows : List (List Int)) (beg : List Int) {x : Nat} (h : x < (getl rows beg.length).length) : extTo rows beg (x + 1) = extTo rows beg x ++ extR rows (beg ++ [geti (getl rows beg.length) x]) := by
 unfold extTo; rw [take_geti h, List.flatMap_append]; simp
theorem mem_extR {rows : List (List Int)} {beg l : List Int} (h : l ∈ extR rows beg) : ∃ t, l = beg ++ t ∧ t.length = (rows.drop beg.length).length ∧ ∀ k, k < (rows.drop beg.length).length → geti t k ∈ getl (rows.drop beg.length) k := by
 unfold extR at h
 rw [List.mem_map] at h
 obtain ⟨t, ht, rfl⟩ := h
 obtain ⟨h1, h2⟩ := mem_allR.1 ht
 exact ⟨t, rfl, h1, h2⟩
theorem codeL_pre {p a b : List Int} (hl : a.length = b.length) (h : codeL a < codeL b) : codeL (p ++ a) < codeL (p ++ b) := by
 induction p with
 | nil => exact h
 | cons x p ih =>
   show codeL (x :: (p ++ a)) < codeL (x :: (p ++ b))
   rw [codeL, codeL, List.length_append, List.length_append, hl]
   omega
theorem extR_dig {n : Nat} {rows : List (List Int)} (hR : RowsOk n rows) {beg l : List Int} (hb : Dig beg) (hbl : beg.length ≤ rows.length) (h : l ∈ extR rows beg) : Dig l ∧ l.length = rows.length := by
 obtain ⟨t, rfl, h1, h2⟩ := mem_extR h
 rw [List.length_drop] at h1
 refine ⟨fun x hx => ?_, by rw [List.length_append]; omega⟩
 rcases List.mem_append.1 hx with hx | hx
 ·exact hb x hx
 ·obtain ⟨k, hk, rfl⟩ := List.getElem_of_mem hx
  have h3 := h2 k (by rw [List.length_drop]; omega)
  rw [show getl (rows.drop beg.length) k = getl rows (beg.length + k) from by simp [getl]] at h3
  have := hR.low _ _ h3
  rw [geti_eq hk] at this
  have := hR.few
  omega
/-- A later branch holds greater choices. -/
theorem ext_lt {n : Nat} {rows : List (List Int)} (hR : RowsOk n rows) {beg b l : List Int} {x : Nat} (hx : x < (getl rows beg.length).length) (hbl : beg.length < rows.length) (h1 : b ∈ extTo rows beg x) (h2 : l ∈ extR rows (beg ++ [geti (getl rows beg.length) x])) : codeL b < codeL l := by
 unfold extTo at h1
 rw [List.mem_flatMap] at h1
 obtain ⟨y, hy, hby⟩ := h1
 obtain ⟨i, hi, rfl⟩ := List.getElem_of_mem hy
 rw [List.length_take] at hi
 rw [List.getElem_take] at hby
 have hlt := List.pairwise_iff_getElem.1 (hR.up beg.length) i x (by omega) hx (by omega)
 obtain ⟨t1, rfl, e1, g1⟩ := mem_extR hby
 obtain ⟨t2, rfl, e2, g2⟩ := mem_extR h2
 rw [geti_eq hx] at *
 have d1 : ∀ {z : Int} {t : List Int}, z ∈ getl rows beg.length → t.length = (rows.drop (beg ++ [z]).length).length → (∀ k, k < (rows.drop (beg ++ [z]).length).length → geti t k ∈ getl (rows.drop (beg ++ [z]).length) k) → Dig (z :: t) := by
  intro z t hz ht hg w hw
  rcases List.mem_cons.1 hw with e | hw
  ·rw [e]; have := hR.low _ _ hz; have := hR.few; omega
  ·obtain ⟨k, hk, rfl⟩ := List.getElem_of_mem hw
   have h3 := hg k (by omega)
   rw [show getl (rows.drop (beg ++ [z]).length) k = getl rows ((beg ++ [z]).length + k) from by simp [getl]] at h3
   have := hR.low _ _ h3
   rw [geti_eq hk] at this
   have := hR.few
   omega
 have hl : t1.length = t2.length := by rw [e1, e2]; simp
 rw [List.append_assoc, List.append_assoc]
 refine codeL_pre (by simp [hl]) ?_
 exact codeL_cons (d1 (List.getElem_mem _) e1 g1) (d1 (List.getElem_mem _) e2 g2) hl hlt
theorem extTo_dig {n : Nat} {rows : List (List Int)} (hR : RowsOk n rows) {beg b : List Int} {x : Nat} (hb : Dig beg) (hbl : beg.length < rows.length) (h : b ∈ extTo rows beg x) : Dig b ∧ b.length = rows.length := by
 unfold extTo at h
 rw [List.mem_flatMap] at h
 obtain ⟨y, hy, hby⟩ := h
 have hy2 := hR.low _ _ (List.mem_of_mem_take hy)
 refine extR_dig hR (fun z hz => ?_) (by simp; omega) hby
 rcases List.mem_append.1 hz with hz | hz
 ·exact hb z hz
 ·obtain rfl := List.mem_singleton.1 hz
  have := hR.few; omega
/-- The best choice grows branch by branch: a later branch's best one is taken if it has fewer different rows. -/
theorem ext_best {n : Nat} {rows : List (List Int)} (hR : RowsOk n rows) {beg : List Int} {x : Nat} (hb : Dig beg) (hx : x < (getl rows beg.length).length) (hbl : beg.length < rows.length) :
  bestW rows.length (extTo rows beg (x + 1)) = match bestW rows.length (extR rows (beg ++ [geti (getl rows beg.length) x])) with
   | none => bestW rows.length (extTo rows beg x)
   | some l => match bestW rows.length (extTo rows beg x) with
     | none => some l
     | some b => if kinds l < kinds b then some l else some b := by
 rw [extTo_succ rows beg hx, bestW_append]
 cases hl : bestW rows.length (extR rows (beg ++ [geti (getl rows beg.length) x])) with
 | none => rfl
 | some l =>
   cases hbo : bestW rows.length (extTo rows beg x) with
   | none => rfl
   | some b =>
     have m1 := (bestW_some hl).1
     have m2 := (bestW_some hbo).1
     have hlt := ext_lt hR hx hbl m2 m1
     have hy2 := hR.low _ _ (geti_mem hx)
     have d1 := extR_dig hR (beg := beg ++ [geti (getl rows beg.length) x]) (fun z hz => by
      rcases List.mem_append.1 hz with hz | hz
      ·exact hb z hz
      ·obtain rfl := List.mem_singleton.1 hz
       have := hR.few; omega) (by simp; omega) m1
     have d2 := extTo_dig hR hb hbl m2
     have hw := wt_lt d1.1 d2.1 d1.2 d2.2
     show better rows.length (some b) l = _
     unfold better
     simp only
     rw [kinds_diff, kinds_diff]
     by_cases h : (diffI l).length < (diffI b).length
     ·rw [if_pos h, if_pos (hw.2 (.inl h))]
     ·rw [if_neg h, if_neg (fun hh => by rcases hw.1 hh with h3 | h3 <;> omega)]
end Go.Proofs.YtmaefilliggjiaaGreat
