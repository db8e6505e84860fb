/- The reference's draws of systems and cuts, some of them not valid. No conditions. -/
import Derived.Test.YtbekpololmahoaaGreatDoorMDraw10
namespace Go.Proofs.YtbekpololmahoaaGreatDoor
open Go.RowKit
set_option linter.unusedVariables false
set_option linter.unusedSimpArgs false
theorem F2.ob_le {B : Nat} {w : World} {ob off n c : Nat} {ls : List (List Int)} (h : F2 B w (.slice (some ⟨ob, off, none⟩) n c) ls) (hn : ls ≠ []) : B ≤ ob := by
 obtain ⟨ob', bk, ⟨a', c', e, h1, h2, h3, h4⟩, h5, h6⟩ := h
 simp only [Value.slice.injEq] at e
 obtain ⟨rfl, rfl, rfl⟩ := e
 obtain ⟨off', cs, e, ha, _⟩ := h3 hn
 simp only [Option.some.injEq, Addr.mk.injEq, and_true] at ha
 obtain ⟨rfl, rfl⟩ := ha
 exact h5 hn
theorem OV.keepb {B : Nat} {w w' : World} {v : Value} {ls : List (List Int)} (h : OV B w v ls) (hk : ∀ b, B ≤ b → b < w.heap.size → w'.heap[b]? = w.heap[b]?) : OV B w' v ls := by
 obtain ⟨vs, ⟨hl, h1⟩, h2⟩ := h
 refine ⟨vs, ⟨hl, ?_⟩, h2.keep fun b hb hlt => hk b hb.1 hlt⟩
 rcases h1 with h0 | ⟨g, cap, cur, hv, hb, hh, h3⟩
 ·exact .inl h0
 ·exact .inr ⟨g, cap, cur, hv, hb, (hk g hb (lt_of_heap hh)).trans hh, h3⟩
def DrawSys (B0 SB : Nat) (W : World) (e : Ending) (w' : World) : Prop :=
 ∃ (m : Mk) (u cv : Value) (T cuts : List (List Int)), e = .returned (.tuple #[.agg #[.int .i64 m.c, .int .i64 m.d, .int .i64 m.s, .int .i64 m.e, .int .i64 m.l, u], cv]) ∧ SmallM m ∧ V2 (fun b => W.heap.size ≤ b) w' u T ∧ T.length ≤ 12 ∧ V2 (fun b => W.heap.size ≤ b) w' cv cuts ∧ (1 ≤ cuts.length ∧ cuts.length ≤ 5) ∧ Src B0 SB w' ∧ Only SB W w'
set_option maxRecDepth 100000 in
set_option maxHeartbeats 4000000 in
theorem l15Draw_any (B0 SB : Nat) (W : World) (h : Src B0 SB W) :
  Calls Tryz.prog 66 #[.pointer (some ⟨SB, 0, none⟩)] W (DrawSys B0 SB W) := by
 have hSl := h.lt
 have hB0 : B0 ≤ SB := h.1
 obtain ⟨W1, hW1, hB01, hz01, HZ01, _, hh01⟩ := box_facts W #[.int .i64 0, .int .i64 0, .int .i64 0, .int .i64 0, .int .i64 0, .slice none 0 0] 35
 have hz1e := HZ01.out
 have hz1l : W1.heap.size ≤ W.heap.size + 1 := by omega
 have hs1' := h.below hB01
 have HL := Lib.hid (And.intro hs1' (And.intro hB01 (And.intro hh01 hW1))); clear hs1' h hh01 hB01 hz1e
 go_enter Tryz.func66, Tryz.ntmps66
 go_wp2_with fail
 rw [← hW1]
 clear hW1
 refine (l15Valid_any B0 SB _ HL.out.1).mono ?_
 rintro e' w2 ⟨m, u, T, C, rfl, hmk, ⟨hF, hTl, hC, hsh⟩, hs2, ho2⟩
 have hz2 := ho2.size
 obtain ⟨ta, tc, rfl, _⟩ := hF.v2.form
 obtain ⟨ob, off, b, o2, rc, u, rfl, hc1, hb5, hc2, _, _⟩ := hF.put (i := 0) (k := 0) (by omega) (by rw [hsh.1 0 (by omega)]; omega)
 simp only [Nat.add_zero] at hc1 hc2
 have hobl : ob < w2.heap.size := lt_of_cell hc1
 have hbl : b < w2.heap.size := lt_of_cell hc2
 have hobB : W1.heap.size ≤ ob := hF.ob_le (by intro e; rw [e] at hTl; simp at hTl)
 have hbo : b ≠ ob := hF.ne (i := 0) (by omega) (by have := hsh.1 0 (by omega); intro e; rw [e] at this; simp at this; omega) (by simpa using hc1)
 have hrl := hsh.1 0 (by omega)
 obtain ⟨rl, hrle⟩ : ∃ rl, (getl T 0).length = rl := ⟨_, rfl⟩
 rw [hrle] at hc1 hrl
 have hrl1 : ¬ rl ≤ 0 := by omega
 have hrl4 : 0 < rl := by omega
 have hTl1 : ¬ T.length ≤ 0 := by omega
 obtain ⟨w3, hw3⟩ : ∃ w3, w3 = w2.alloc (.cells #[.int .i64 m.c, .int .i64 m.d, .int .i64 m.s, .int .i64 m.e, .int .i64 m.l, .slice (some ⟨ob, off, none⟩) T.length tc] 35) := ⟨_, rfl⟩
 have hb23 : Below w2.heap.size w2 w3 := by rw [hw3]; exact (Below.refl _ _).alloc (Nat.le_refl _) _
 have hM3 : w3.heap[w2.heap.size]? = some (.cells #[.int .i64 m.c, .int .i64 m.d, .int .i64 m.s, .int .i64 m.e, .int .i64 m.l, .slice (some ⟨ob, off, none⟩) T.length tc] 35 (0, 0)) := by rw [hw3]; exact heap_alloc_self _ _
 have hR3 : w3.heap[W.heap.size]? = some (.cells #[.int .i64 0, .int .i64 0, .int .i64 0, .int .i64 0, .int .i64 0, .slice none 0 0] 35 (0, 0)) := (hb23.block _ (by omega)).trans (ho2.heap HL.out.2.2.1 (fun e => by omega))
 have ho3 : Only SB W w3 := ((Only.of_below HL.out.2.1).trans ho2).then_below hb23
 have hz3 : w2.heap.size < w3.heap.size := lt_of_heap hM3
 have hc3 : ∀ o, w3.cell? ⟨w2.heap.size, o, none⟩ = (#[.int .i64 m.c, .int .i64 m.d, .int .i64 m.s, .int .i64 m.e, .int .i64 m.l, .slice (some ⟨ob, off, none⟩) T.length tc] : Array Value)[o]? := fun o => by rw [cell_of_block hM3]
 have hc13 : w3.cell? ⟨ob, off, none⟩ = some (.slice (some ⟨b, o2, none⟩) rl rc) := cell_keep hc1 (hb23.block _ hobl)
 have H3 := Lib.hid (And.intro (hs2.below hb23) (And.intro ho3 (And.intro hM3 (And.intro hR3 (And.intro (hF.below hb23) (And.intro hmk (And.intro hsh (And.intro hw3 hc13)))))))); clear hs2 ho2 hb23 hM3 hR3 ho3 hw3 hF hmk hsh hc13 hc1 hc2 hrl hrle
 go_wp2_with fail
 rw [← H3.out.2.2.2.2.2.2.2.1]
 go_wp2_with fail
 refine (l15DrawCuts_any B0 SB m H3.out.2.2.2.2.2.1.1 _ _ _ ⟨by omega, by omega⟩ _ H3.out.1).mono ?_
 rintro e' w4 ⟨cv, cuts, rfl, ⟨hcO, hcl1, hcl2⟩, hs4, ho4⟩
 have hz4 := ho4.size
 obtain ⟨ca, cc, rfl, _, _⟩ := hcO.form
 have H4 := Lib.hid (And.intro hs4 (And.intro ho4 hcO)); clear hs4 ho4 hcO
 go_wp2_with fail
 refine (l01Next_any B0 SB 30 _ H4.out.1).mono ?_
 rintro e' w5 ⟨x, rfl, ⟨hx0, hx1⟩, hs5, ho5⟩
 have hz5 := ho5.size
 have ho35 := H4.out.2.1.trans ho5
 have hM5 := ho35.heap H3.out.2.2.1 (fun e => by omega)
 have hR5 := ho35.heap H3.out.2.2.2.1 (fun e => by omega)
 have hF5 := H3.out.2.2.2.2.1.only ho35 (by omega)
 have hcO5 := H4.out.2.2.only ho5 (by omega)
 have hc15 : w5.cell? ⟨ob, off, none⟩ = some (.slice (some ⟨b, o2, none⟩) rl rc) := cell_keep H3.out.2.2.2.2.2.2.2.2 (ho35.block _ (by omega) (fun e => by omega))
 have H5 := Lib.hid (And.intro hs5 (And.intro (H3.out.2.1.trans ho35) (And.intro hM5 (And.intro hR5 (And.intro hF5 hcO5))))); clear hs5 ho5 ho35 hM5 hR5 hF5 hcO5 hc3
 have hcM : ∀ o, w5.cell? ⟨w2.heap.size, o, none⟩ = (#[.int .i64 m.c, .int .i64 m.d, .int .i64 m.s, .int .i64 m.e, .int .i64 m.l, .slice (some ⟨ob, off, none⟩) T.length tc] : Array Value)[o]? := fun o => by rw [cell_of_block H5.out.2.2.1]
 have hcR : ∀ o, w5.cell? ⟨W.heap.size, o, none⟩ = (#[.int .i64 0, .int .i64 0, .int .i64 0, .int .i64 0, .int .i64 0, .slice none 0 0] : Array Value)[o]? := fun o => by rw [cell_of_block H5.out.2.2.2.1]
 have hfR := fun o => frozen_of_block H5.out.2.2.2.1 o
 have hmz : w2.heap.size < w5.heap.size := by omega
 by_cases hx : x = 0
 ·subst hx
  have hc5 : w5.cell? ⟨w2.heap.size, 5, none⟩ = some (.slice (some ⟨ob, off, none⟩) T.length tc) := hcM 5
  have hcd : w5.drew.cell? ⟨w2.heap.size, 5, none⟩ = some (.slice (some ⟨ob, off, none⟩) T.length tc) ∧ w5.drew.cell? ⟨ob, off, none⟩ = some (.slice (some ⟨b, o2, none⟩) rl rc) := ⟨hc5, hc15⟩
  go_wp2_with fail
  refine wp_region_noPanic ?_
  refine wp_region_held_drew (S := fun w' => w'.cell? ⟨w2.heap.size, 5, none⟩ = some (.slice (some ⟨ob, off, none⟩) T.length tc) ∧ w'.cell? ⟨ob, off, none⟩ = some (.slice (some ⟨b, o2, none⟩) rl rc)) (by kernel_rfl) hcd (fun hHeld => ?_)
  (refine wpAnyH_take (i := 0) (v := .pointer (some ⟨w2.heap.size, 5, none⟩)) rfl (by kernel_rfl) (by kernel_rfl) (by kernel_rfl) (fun _ _ _ h => h) (Or.inl ⟨by kernel_rfl, fun w hSw => by (try dsimp only at hSw); go_split_ands; go_simp⟩) (by assumption) ?_; simp only [Act.put, List.setIfInBounds_toArray, List.set_cons_zero, List.set_cons_succ])
  (refine wpAnyH_take (i := 1) (v := .slice (some ⟨ob, off, none⟩) T.length tc) rfl (by kernel_rfl) (by kernel_rfl) (by kernel_rfl) (fun _ _ _ h => h) (Or.inl ⟨by kernel_rfl, fun w hSw => by (try dsimp only at hSw); go_split_ands; go_simp⟩) (by assumption) ?_; simp only [Act.put, List.setIfInBounds_toArray, List.set_cons_zero, List.set_cons_succ])
  (refine wpAnyH_take (i := 2) (v := .pointer (some ⟨ob, off, none⟩)) rfl (by kernel_rfl) (by kernel_rfl) (by kernel_rfl) (fun _ _ _ h => h) (Or.inl ⟨by kernel_rfl, fun w hSw => by (try dsimp only at hSw); go_split_ands; go_simp⟩) (by assumption) ?_; simp only [Act.put, List.setIfInBounds_toArray, List.set_cons_zero, List.set_cons_succ])
  (refine wpAnyH_take (i := 3) (v := .slice (some ⟨b, o2, none⟩) rl rc) rfl (by kernel_rfl) (by kernel_rfl) (by kernel_rfl) (fun _ _ _ h => h) (Or.inl ⟨by kernel_rfl, fun w hSw => by (try dsimp only at hSw); go_split_ands; go_simp⟩) (by assumption) ?_; simp only [Act.put, List.setIfInBounds_toArray, List.set_cons_zero, List.set_cons_succ])
  (refine wpAnyH_take (i := 4) (v := .pointer (some ⟨SB, 0, none⟩)) rfl (by kernel_rfl) (by kernel_rfl) (by kernel_rfl) (fun _ _ _ h => h) (Or.inl ⟨by kernel_rfl, fun w hSw => by (try dsimp only at hSw); go_split_ands; go_simp⟩) (by assumption) ?_; simp only [Act.put, List.setIfInBounds_toArray, List.set_cons_zero, List.set_cons_succ])
  have hL := lit_V1 w5 2 [-1, 0, 2] (by simp)
  have hbi : Below w5.heap.size w5 (w5.alloc (.cells #[.int .i64 (-1), .int .i64 0, .int .i64 2] 2)).drew := ((Below.refl w5.heap.size w5).alloc (Nat.le_refl _) _).drew
  obtain ⟨wa, hwa⟩ : ∃ wa, wa = (w5.alloc (.cells #[.int .i64 (-1), .int .i64 0, .int .i64 2] 2)).drew := ⟨_, rfl⟩
  have hL : V1 (fun b => b = w5.heap.size) wa (.slice (some ⟨w5.heap.size, 0, none⟩) 3 3) [-1, 0, 2] := by rw [hwa]; exact hL
  rw [← hwa] at hbi
  have hca : wa.cell? ⟨w2.heap.size, 5, none⟩ = some (.slice (some ⟨ob, off, none⟩) T.length tc) ∧ wa.cell? ⟨ob, off, none⟩ = some (.slice (some ⟨b, o2, none⟩) rl rc) := ⟨by rw [(bcell hbi).1 _ _ hmz]; exact hc5, by rw [(bcell hbi).1 _ _ (by omega)]; exact hc15⟩
  have HA := Lib.hid (And.intro hL (And.intro hbi (And.intro (H5.out.1.below hbi) (And.intro (H5.out.2.1.then_below hbi) (And.intro (H5.out.2.2.2.2.1.below hbi) hwa))))); clear hL hbi hwa
  refine wpAnyH_ready (rs := [5]) (by kernel_rfl) (by simp) (AllReadyH.cons rfl (fun K hK => ?_) AllReadyH.nil)
  go_simp
  rw [← HA.out.2.2.2.2.2]
  (refine hK.out _ _ hca (fun hHeld => ?_); clear hK K; (try simp only [Act.put, List.setIfInBounds_toArray, List.set_cons_zero, List.set_cons_succ]))
  have hza : w5.heap.size ≤ wa.heap.size := HA.out.2.1.size
  refine wpAnyH_ready (rs := [6]) (by kernel_rfl) (by simp) (AllReadyH.cons rfl (fun K hK => ?_) AllReadyH.nil)
  go_simp
  go_at_call 40
  refine (l01Pick_any B0 SB _ [-1, 0, 2] wa HA.out.2.2.1 HA.out.1 (fun b hb => by omega) (by simp)).mono ?_
  rintro e' wb ⟨y, rfl, hy, hsb, hob⟩
  have hzb : wa.heap.size ≤ wb.heap.size := hob.size
  have hOb := HA.out.2.2.2.2.1.only hob (by omega)
  have hcb : wb.cell? ⟨w2.heap.size, 5, none⟩ = some (.slice (some ⟨ob, off, none⟩) T.length tc) ∧ wb.cell? ⟨ob, off, none⟩ = some (.slice (some ⟨b, o2, none⟩) rl rc) := ⟨cell_keep hca.1 (hob.block _ (by omega) (fun e => by omega)), cell_keep hca.2 (hob.block _ (by omega) (fun e => by omega))⟩
  have hMb := hob.heap (heap_below H5.out.2.2.1 HA.out.2.1 hmz) (fun e => by omega)
  have hRb := hob.heap (heap_below H5.out.2.2.2.1 HA.out.2.1 (by omega)) (fun e => by omega)
  have hCb := (H5.out.2.2.2.2.2.below HA.out.2.1).only hob (by omega)
  obtain ⟨ob', off', b', o2', rc', u', e1, hc1', hb5', hc2', hfz', hput'⟩ := hOb.put (i := 0) (k := 0) (by omega) (by rw [H3.out.2.2.2.2.2.2.1.1 0 (by omega)]; omega)
  simp only [Option.some.injEq, Addr.mk.injEq, and_true] at e1
  obtain ⟨rfl, rfl⟩ := e1
  simp only [Nat.add_zero] at hc1' hc2' hfz' hput'
  rw [hcb.2] at hc1'
  simp only [Option.some.injEq, Value.slice.injEq, Addr.mk.injEq, and_true] at hc1'
  obtain ⟨⟨rfl, rfl⟩, hrl2, rfl⟩ := hc1'
  obtain ⟨wc, hwc⟩ : ∃ wc, wc = wb.setCell ⟨b, o2, none⟩ (.int .i64 y) := ⟨_, rfl⟩
  have hfin := hput' y
  rw [← hwc] at hfin
  have hsc : Src B0 SB wc := hsb.only (b := b) (off := o2) (by omega) (by omega) _ hwc
  have hoc : Only SB W wc := by rw [hwc]; exact (HA.out.2.2.2.1.trans hob).setNew (by omega) _
  have hMc : wc.heap[w2.heap.size]? = _ := (show wc.heap[w2.heap.size]? = wb.heap[w2.heap.size]? by rw [hwc]; exact heap_setCell_other _ (by omega)).trans hMb
  have hRc : wc.heap[W.heap.size]? = _ := (show wc.heap[W.heap.size]? = wb.heap[W.heap.size]? by rw [hwc]; exact heap_setCell_other _ (by omega)).trans hRb
  have hCc : OV w3.heap.size wc (.slice ca cuts.length cc) cuts := hCb.keepb (fun i h1 h2 => by rw [hwc]; exact heap_setCell_other _ (by omega))
  have HC := Lib.hid (And.intro hfin (And.intro hsc (And.intro hoc (And.intro hwc (And.intro hMc (And.intro hRc hCc)))))); clear hfin hsc hoc hwc hput' hsb hob hOb hrl2 hMb hRb hCb hMc hRc hCc
  dsimp only
  (refine hK.out _ _ hcb (fun hHeld => ?_); clear hK K; (try simp only [Act.put, List.setIfInBounds_toArray, List.set_cons_zero, List.set_cons_succ]))
  (refine wpAnyH_ready (rs := [7]) (by kernel_rfl) (by simp) (AllReadyH.cons rfl (fun K hK => ?_) AllReadyH.nil); go_simp)
  (refine hK.out _ _ hcb (fun hHeld => ?_); clear hK K; (try simp only [Act.put, List.setIfInBounds_toArray, List.set_cons_zero, List.set_cons_succ]))
  (refine wpAnyH_ready (rs := [8]) (by kernel_rfl) (by simp) (AllReadyH.cons rfl (fun K hK => ?_) AllReadyH.nil); go_simp)
  rw [← HC.out.2.2.2.1]
  have hcc : wc.cell? ⟨w2.heap.size, 5, none⟩ = some (.slice (some ⟨ob, off, none⟩) T.length tc) ∧ wc.cell? ⟨ob, off, none⟩ = some (.slice (some ⟨b, o2, none⟩) rl rc) := by rw [HC.out.2.2.2.1]; exact ⟨cell_keep hcb.1 (heap_setCell_other _ (by omega)), cell_keep hcb.2 (heap_setCell_other _ (fun e => hbo e.symm))⟩
  (refine hK.out _ _ hcc (fun hHeld => ?_); clear hK K; (try simp only [Act.put, List.setIfInBounds_toArray, List.set_cons_zero, List.set_cons_succ]))
  refine wpAnyH_done (by kernel_rfl) (NoPanic.normal ?_) _
  have hcMc : ∀ o, wc.cell? ⟨w2.heap.size, o, none⟩ = (#[.int .i64 m.c, .int .i64 m.d, .int .i64 m.s, .int .i64 m.e, .int .i64 m.l, .slice (some ⟨ob, off, none⟩) T.length tc] : Array Value)[o]? := fun o => by rw [cell_of_block HC.out.2.2.2.2.1]
  have hcRc : ∀ o, wc.cell? ⟨W.heap.size, o, none⟩ = (#[.int .i64 0, .int .i64 0, .int .i64 0, .int .i64 0, .int .i64 0, .slice none 0 0] : Array Value)[o]? := fun o => by rw [cell_of_block HC.out.2.2.2.2.2.1]
  have hfRc := fun o => frozen_of_block HC.out.2.2.2.2.2.1 o
  clear hcM hcR hfR hcc hcb hca hcd hc5 hc15
  have hdone := putS_facts HC.out.2.1 HC.out.2.2.1 HC.out.2.2.2.2.2.1 (by omega) (Nat.le_refl _) (by omega) (.int .i64 m.c) (.int .i64 m.d) (.int .i64 m.s) (.int .i64 m.e) (.int .i64 m.l) (.slice (some ⟨ob, off, none⟩) T.length tc)
  obtain ⟨wz, hwz⟩ : ∃ wz, wz = putS wc W.heap.size (.int .i64 m.c) (.int .i64 m.d) (.int .i64 m.s) (.int .i64 m.e) (.int .i64 m.l) (.slice (some ⟨ob, off, none⟩) T.length tc) := ⟨_, rfl⟩
  rw [← hwz] at hdone
  obtain ⟨hd1, hd2, hd3, hd4⟩ := hdone
  have hFz : V2 (fun b => W.heap.size ≤ b) wz (.slice (some ⟨ob, off, none⟩) T.length tc) (setT T 0 0 y) := V2.mono (S := fun b => W1.heap.size ≤ b) (HC.out.1.v2) (fun b hb _ => by have hb : W1.heap.size ≤ b := hb; omega) (fun b hb _ => hd4 b (by have hb : W1.heap.size ≤ b := hb; omega))
  have hcz := (OV.keepb (w' := wz) (HC.out.2.2.2.2.2.2) (fun b h1 h2 => hd4 b (by omega))).base (show W.heap.size ≤ w3.heap.size by omega)
  have hz0 : wz.cell? ⟨W.heap.size, 0, none⟩ = some (.int .i64 m.c) := by rw [cell_of_block hd3]; rfl
  have hz1 : wz.cell? ⟨W.heap.size, 1, none⟩ = some (.int .i64 m.d) := by rw [cell_of_block hd3]; rfl
  have hz2 : wz.cell? ⟨W.heap.size, 2, none⟩ = some (.int .i64 m.s) := by rw [cell_of_block hd3]; rfl
  have hz3 : wz.cell? ⟨W.heap.size, 3, none⟩ = some (.int .i64 m.e) := by rw [cell_of_block hd3]; rfl
  have hz4 : wz.cell? ⟨W.heap.size, 4, none⟩ = some (.int .i64 m.l) := by rw [cell_of_block hd3]; rfl
  have hz5 : wz.cell? ⟨W.heap.size, 5, none⟩ = some (.slice (some ⟨ob, off, none⟩) T.length tc) := by rw [cell_of_block hd3]; rfl
  have HZ := Lib.hid (And.intro hd1 (And.intro hd2 (And.intro hFz (And.intro hcz (And.intro hwz (And.intro hz0 (And.intro hz1 (And.intro hz2 (And.intro hz3 (And.intro hz4 (And.intro hz5 hd4))))))))))); clear hd1 hd2 hd3 hd4 hFz hcz hwz hz0 hz1 hz2 hz3 hz4 hz5
  go_wp2_with fail
  have hwz := HZ.out.2.2.2.2.1
  unfold putS putR at hwz
  rw [← hwz]
  clear hwz
  obtain ⟨hd1, hd2, hFz, hcz, hwzz, hz0, hz1, hz2, hz3, hz4, hz5, hd4⟩ := HZ.out
  clear hwzz
  skip
  exact bodyPost_ret (v := .tuple #[.agg #[.int .i64 m.c, .int .i64 m.d, .int .i64 m.s, .int .i64 m.e, .int .i64 m.l, (.slice (some ⟨ob, off, none⟩) T.length tc)], .slice ca cuts.length cc]) (by simp [results, Tryz.results66, go_sem, hz0, hz1, hz2, hz3, hz4, hz5]) rfl ⟨m, _, _, (setT T 0 0 y), cuts, rfl, (smallM_ok H3.out.2.2.2.2.2.1.1), hFz, (by rw [setT_len]; omega), hcz.v2, by omega, hd1, hd2⟩
 ·have hx0d : (x == 0) = false := by simp [hx]
  by_cases hx1' : x = 1
  ·subst hx1'
   have hc5 : w5.cell? ⟨w2.heap.size, 5, none⟩ = some (.slice (some ⟨ob, off, none⟩) T.length tc) := hcM 5
   have hbD : Below w5.heap.size w5 w5.drew := (Below.refl _ _).drew
   have hcd : w5.drew.cell? ⟨w2.heap.size, 5, none⟩ = some (.slice (some ⟨ob, off, none⟩) T.length tc) := hc5
   go_wp2_with fail
   refine wp_region_noPanic ?_
   refine wp_region_held_drew (S := fun w' => w'.cell? ⟨w2.heap.size, 5, none⟩ = some (.slice (some ⟨ob, off, none⟩) T.length tc)) (by kernel_rfl) hcd (fun hHeld => ?_)
   (refine wpAnyH_take (i := 0) (v := .pointer (some ⟨SB, 0, none⟩)) rfl (by kernel_rfl) (by kernel_rfl) (by kernel_rfl) (fun _ _ _ h => h) (Or.inl ⟨by kernel_rfl, fun w hSw => by (try dsimp only at hSw); go_split_ands; go_simp⟩) (by assumption) ?_; simp only [Act.put, List.setIfInBounds_toArray, List.set_cons_zero, List.set_cons_succ])
   (refine wpAnyH_take (i := 2) (v := .pointer (some ⟨w2.heap.size, 5, none⟩)) rfl (by kernel_rfl) (by kernel_rfl) (by kernel_rfl) (fun _ _ _ h => h) (Or.inl ⟨by kernel_rfl, fun w hSw => by (try dsimp only at hSw); go_split_ands; go_simp⟩) (by assumption) ?_; simp only [Act.put, List.setIfInBounds_toArray, List.set_cons_zero, List.set_cons_succ])
   (refine wpAnyH_take (i := 3) (v := .slice (some ⟨ob, off, none⟩) T.length tc) rfl (by kernel_rfl) (by kernel_rfl) (by kernel_rfl) (fun _ _ _ h => h) (Or.inl ⟨by kernel_rfl, fun w hSw => by (try dsimp only at hSw); go_split_ands; go_simp⟩) (by assumption) ?_; simp only [Act.put, List.setIfInBounds_toArray, List.set_cons_zero, List.set_cons_succ])
   (refine wpAnyH_take (i := 5) (v := .slice ca cuts.length cc) rfl (by kernel_rfl) (by kernel_rfl) (by kernel_rfl) (fun _ _ _ h => h) (Or.inl ⟨by kernel_rfl, fun w hSw => by (try dsimp only at hSw); go_split_ands; go_simp⟩) (by assumption) ?_; simp only [Act.put, List.setIfInBounds_toArray, List.set_cons_zero, List.set_cons_succ])
   refine wpAnyH_ready (rs := [1]) (by kernel_rfl) (by simp) (AllReadyH.cons rfl (fun K hK => ?_) AllReadyH.nil)
   go_simp
   go_at_call 93
   refine (l02Draw_any B0 SB _ (H5.out.1.below hbD)).mono ?_
   rintro e' wb ⟨m2, rfl, hm2, hsb, hob⟩
   have hobD : Only SB w5 wb := (Only.of_below hbD).trans hob
   have hzb := hobD.size
   have hcb : wb.cell? ⟨w2.heap.size, 5, none⟩ = some (.slice (some ⟨ob, off, none⟩) T.length tc) := cell_keep hc5 (hobD.block _ (by omega) (fun e => by omega))
   have hRb := hobD.heap H5.out.2.2.2.1 (fun e => by omega)
   have hC := Lib.hid (And.intro hsb (And.intro (H5.out.2.1.trans hobD) (And.intro hRb (And.intro (H5.out.2.2.2.2.1.only hobD (by omega)) (And.intro (H5.out.2.2.2.2.2.only hobD (by omega)) hm2))))); clear hsb hob hobD hRb hm2 hcR hfR hcM hcd hc5 hc15
   have hcRc : ∀ o, wb.cell? ⟨W.heap.size, o, none⟩ = (#[.int .i64 0, .int .i64 0, .int .i64 0, .int .i64 0, .int .i64 0, .slice none 0 0] : Array Value)[o]? := fun o => by rw [cell_of_block hC.out.2.2.1]
   have hfRc := fun o => frozen_of_block hC.out.2.2.1 o
   dsimp only
   (refine hK.out _ _ hcb (fun hHeld => ?_); clear hK K; (try simp only [Act.put, List.setIfInBounds_toArray, List.set_cons_zero, List.set_cons_succ]))
   (refine wpAnyH_ready (rs := [4]) (by kernel_rfl) (by simp) (AllReadyH.cons rfl (fun K hK => ?_) AllReadyH.nil); go_simp)
   (refine hK.out _ _ hcb (fun hHeld => ?_); clear hK K; (try simp only [Act.put, List.setIfInBounds_toArray, List.set_cons_zero, List.set_cons_succ]))
   (refine wpAnyH_ready (rs := [6]) (by kernel_rfl) (by simp) (AllReadyH.cons rfl (fun K hK => ?_) AllReadyH.nil); go_simp)
   have hdone := putS_facts hC.out.1 hC.out.2.1 hC.out.2.2.1 (by omega) (Nat.le_refl _) (by omega) (.int .i64 m2.c) (.int .i64 m2.d) (.int .i64 m2.s) (.int .i64 m2.e) (.int .i64 m2.l) (.slice (some ⟨ob, off, none⟩) T.length tc)
   obtain ⟨wz, hwz⟩ : ∃ wz, wz = putS wb W.heap.size (.int .i64 m2.c) (.int .i64 m2.d) (.int .i64 m2.s) (.int .i64 m2.e) (.int .i64 m2.l) (.slice (some ⟨ob, off, none⟩) T.length tc) := ⟨_, rfl⟩
   rw [← hwz] at hdone
   obtain ⟨hd1, hd2, hd3, hd4⟩ := hdone
   have hFz : V2 (fun b => W.heap.size ≤ b) wz (.slice (some ⟨ob, off, none⟩) T.length tc) T := V2.mono (S := fun b => W1.heap.size ≤ b) (hC.out.2.2.2.1.v2) (fun b hb _ => by have hb : W1.heap.size ≤ b := hb; omega) (fun b hb _ => hd4 b (by have hb : W1.heap.size ≤ b := hb; omega))
   have hcz := (OV.keepb (w' := wz) (hC.out.2.2.2.2.1) (fun b h1 h2 => hd4 b (by omega))).base (show W.heap.size ≤ w3.heap.size by omega)
   have hz0 : wz.cell? ⟨W.heap.size, 0, none⟩ = some (.int .i64 m2.c) := by rw [cell_of_block hd3]; rfl
   have hz1 : wz.cell? ⟨W.heap.size, 1, none⟩ = some (.int .i64 m2.d) := by rw [cell_of_block hd3]; rfl
   have hz2 : wz.cell? ⟨W.heap.size, 2, none⟩ = some (.int .i64 m2.s) := by rw [cell_of_block hd3]; rfl
   have hz3 : wz.cell? ⟨W.heap.size, 3, none⟩ = some (.int .i64 m2.e) := by rw [cell_of_block hd3]; rfl
   have hz4 : wz.cell? ⟨W.heap.size, 4, none⟩ = some (.int .i64 m2.l) := by rw [cell_of_block hd3]; rfl
   have hz5 : wz.cell? ⟨W.heap.size, 5, none⟩ = some (.slice (some ⟨ob, off, none⟩) T.length tc) := by rw [cell_of_block hd3]; rfl
   have HZ := Lib.hid (And.intro hd1 (And.intro hd2 (And.intro hFz (And.intro hcz (And.intro hwz (And.intro hz0 (And.intro hz1 (And.intro hz2 (And.intro hz3 (And.intro hz4 (And.intro hz5 hd4))))))))))); clear hd1 hd2 hd3 hd4 hFz hcz hwz hz0 hz1 hz2 hz3 hz4 hz5
   skip
   have hwz := HZ.out.2.2.2.2.1
   unfold putS putR at hwz
   rw [← hwz]
   clear hwz
   obtain ⟨hd1, hd2, hFz, hcz, hwzz, hz0, hz1, hz2, hz3, hz4, hz5, hd4⟩ := HZ.out
   clear hwzz
   (have hcw := cell_keep hcb (hd4 _ (by omega)); (refine hK.out _ _ hcw (fun hHeld => ?_); clear hK K; (try simp only [Act.put, List.setIfInBounds_toArray, List.set_cons_zero, List.set_cons_succ])); (refine wpAnyH_ready (rs := [7]) (by kernel_rfl) (by simp) (AllReadyH.cons rfl (fun K hK => ?_) AllReadyH.nil); go_simp); (refine hK.out _ _ hcw (fun hHeld => ?_); clear hK K; (try simp only [Act.put, List.setIfInBounds_toArray, List.set_cons_zero, List.set_cons_succ])); refine wpAnyH_done (by kernel_rfl) (NoPanic.normal ?_) _; go_wp2_with fail)
   exact bodyPost_ret (v := .tuple #[.agg #[.int .i64 m2.c, .int .i64 m2.d, .int .i64 m2.s, .int .i64 m2.e, .int .i64 m2.l, (.slice (some ⟨ob, off, none⟩) T.length tc)], .slice ca cuts.length cc]) (by simp [results, Tryz.results66, go_sem, hz0, hz1, hz2, hz3, hz4, hz5]) rfl ⟨m2, _, _, T, cuts, rfl, hC.out.2.2.2.2.2, hFz, (by omega), hcz.v2, by omega, hd1, hd2⟩
  ·have hx1d : (x == 1) = false := by simp [hx1']
   by_cases hx2 : x = 2
   ·subst hx2
    have hcA : ∀ w' : World, w'.heap[w2.heap.size]? = w5.heap[w2.heap.size]? → w'.cell? ⟨w2.heap.size, 0, none⟩ = some (.int .i64 m.c) ∧ w'.cell? ⟨w2.heap.size, 1, none⟩ = some (.int .i64 m.d) ∧ w'.cell? ⟨w2.heap.size, 2, none⟩ = some (.int .i64 m.s) ∧ w'.cell? ⟨w2.heap.size, 3, none⟩ = some (.int .i64 m.e) ∧ w'.cell? ⟨w2.heap.size, 4, none⟩ = some (.int .i64 m.l) := fun w' hw => by
     refine ⟨?_, ?_, ?_, ?_, ?_⟩ <;> exact cell_keep (hcM _) hw
    have hbD : Below w5.heap.size w5 w5.drew := (Below.refl _ _).drew
    have hcd := hcA w5.drew rfl
    clear hx hx1'
    go_wp2_with fail
    refine wp_region_noPanic ?_
    refine wp_region_held_drew (S := fun w' => w'.cell? ⟨w2.heap.size, 0, none⟩ = some (.int .i64 m.c) ∧ w'.cell? ⟨w2.heap.size, 1, none⟩ = some (.int .i64 m.d) ∧ w'.cell? ⟨w2.heap.size, 2, none⟩ = some (.int .i64 m.s) ∧ w'.cell? ⟨w2.heap.size, 3, none⟩ = some (.int .i64 m.e) ∧ w'.cell? ⟨w2.heap.size, 4, none⟩ = some (.int .i64 m.l)) (by kernel_rfl) hcd (fun hHeld => ?_)
    (refine wpAnyH_take (i := 0) (v := .pointer (some ⟨w2.heap.size, 0, none⟩)) rfl (by kernel_rfl) (by kernel_rfl) (by kernel_rfl) (fun _ _ _ h => h) (Or.inl ⟨by kernel_rfl, fun w hSw => by (try dsimp only at hSw); go_split_ands; go_simp⟩) (by assumption) ?_; simp only [Act.put, List.setIfInBounds_toArray, List.set_cons_zero, List.set_cons_succ])
    (refine wpAnyH_take (i := 1) (v := .agg #[.int .i64 m.c, .int .i64 m.d, .int .i64 m.s, .int .i64 m.e, .int .i64 m.l]) rfl (by kernel_rfl) (by kernel_rfl) (by kernel_rfl) (fun _ _ _ h => h) (Or.inl ⟨by kernel_rfl, fun w hSw => by (try dsimp only at hSw); go_split_ands; go_simp⟩) (by assumption) ?_; simp only [Act.put, List.setIfInBounds_toArray, List.set_cons_zero, List.set_cons_succ])
    (refine wpAnyH_take (i := 2) (v := .pointer (some ⟨SB, 0, none⟩)) rfl (by kernel_rfl) (by kernel_rfl) (by kernel_rfl) (fun _ _ _ h => h) (Or.inl ⟨by kernel_rfl, fun w hSw => by (try dsimp only at hSw); go_split_ands; go_simp⟩) (by assumption) ?_; simp only [Act.put, List.setIfInBounds_toArray, List.set_cons_zero, List.set_cons_succ])
    (refine wpAnyH_take (i := 5) (v := .slice ca cuts.length cc) rfl (by kernel_rfl) (by kernel_rfl) (by kernel_rfl) (fun _ _ _ h => h) (Or.inl ⟨by kernel_rfl, fun w hSw => by (try dsimp only at hSw); go_split_ands; go_simp⟩) (by assumption) ?_; simp only [Act.put, List.setIfInBounds_toArray, List.set_cons_zero, List.set_cons_succ])
    refine wpAnyH_ready (rs := [3]) (by kernel_rfl) (by simp) (AllReadyH.cons rfl (fun K hK => ?_) AllReadyH.nil)
    go_simp
    go_at_call 94
    refine (l11Draw_any B0 SB _ (H5.out.1.below hbD)).mono ?_
    rintro e' wb ⟨tv, T2, rfl, ⟨hV2, hT2⟩, hsb, hob⟩
    obtain ⟨ta2, tc2, rfl, _⟩ := hV2.form
    have hobD : Only SB w5 wb := (Only.of_below hbD).trans hob
    have hzb := hobD.size
    have hcb := hcA wb (hobD.block _ (by omega) (fun e => by omega))
    have hRb := hobD.heap H5.out.2.2.2.1 (fun e => by omega)
    have hV2' : V2 (fun b => W1.heap.size ≤ b) wb (.slice ta2 T2.length tc2) T2 := hV2.mono (fun b hb _ => by have hb : w5.drew.heap.size ≤ b := hb; have hb : w5.heap.size ≤ b := hb; omega) (fun _ _ _ => rfl)
    have hC := Lib.hid (And.intro hsb (And.intro (H5.out.2.1.trans hobD) (And.intro hRb (And.intro hV2' (H5.out.2.2.2.2.2.only hobD (by omega)))))); clear hsb hob hobD hRb hcR hfR hcM hcd hcA hc15 hV2 hV2'
    have hcRc : ∀ o, wb.cell? ⟨W.heap.size, o, none⟩ = (#[.int .i64 0, .int .i64 0, .int .i64 0, .int .i64 0, .int .i64 0, .slice none 0 0] : Array Value)[o]? := fun o => by rw [cell_of_block hC.out.2.2.1]
    have hfRc := fun o => frozen_of_block hC.out.2.2.1 o
    dsimp only
    (refine hK.out _ _ hcb (fun hHeld => ?_); clear hK K; (try simp only [Act.put, List.setIfInBounds_toArray, List.set_cons_zero, List.set_cons_succ]))
    (refine wpAnyH_ready (rs := [4]) (by kernel_rfl) (by simp) (AllReadyH.cons rfl (fun K hK => ?_) AllReadyH.nil); go_simp)
    (refine hK.out _ _ hcb (fun hHeld => ?_); clear hK K; (try simp only [Act.put, List.setIfInBounds_toArray, List.set_cons_zero, List.set_cons_succ]))
    (refine wpAnyH_ready (rs := [6]) (by kernel_rfl) (by simp) (AllReadyH.cons rfl (fun K hK => ?_) AllReadyH.nil); go_simp)
    have hdone := putS_facts hC.out.1 hC.out.2.1 hC.out.2.2.1 (by omega) (Nat.le_refl _) (by omega) (.int .i64 m.c) (.int .i64 m.d) (.int .i64 m.s) (.int .i64 m.e) (.int .i64 m.l) (.slice ta2 T2.length tc2)
    obtain ⟨wz, hwz⟩ : ∃ wz, wz = putS wb W.heap.size (.int .i64 m.c) (.int .i64 m.d) (.int .i64 m.s) (.int .i64 m.e) (.int .i64 m.l) (.slice ta2 T2.length tc2) := ⟨_, rfl⟩
    rw [← hwz] at hdone
    obtain ⟨hd1, hd2, hd3, hd4⟩ := hdone
    have hFz : V2 (fun b => W.heap.size ≤ b) wz (.slice ta2 T2.length tc2) T2 := V2.mono (S := fun b => W1.heap.size ≤ b) hC.out.2.2.2.1 (fun b hb _ => by have hb : W1.heap.size ≤ b := hb; omega) (fun b hb _ => hd4 b (by have hb : W1.heap.size ≤ b := hb; omega))
    have hcz := (OV.keepb (w' := wz) (hC.out.2.2.2.2) (fun b h1 h2 => hd4 b (by omega))).base (show W.heap.size ≤ w3.heap.size by omega)
    have hz0 : wz.cell? ⟨W.heap.size, 0, none⟩ = some (.int .i64 m.c) := by rw [cell_of_block hd3]; rfl
    have hz1 : wz.cell? ⟨W.heap.size, 1, none⟩ = some (.int .i64 m.d) := by rw [cell_of_block hd3]; rfl
    have hz2 : wz.cell? ⟨W.heap.size, 2, none⟩ = some (.int .i64 m.s) := by rw [cell_of_block hd3]; rfl
    have hz3 : wz.cell? ⟨W.heap.size, 3, none⟩ = some (.int .i64 m.e) := by rw [cell_of_block hd3]; rfl
    have hz4 : wz.cell? ⟨W.heap.size, 4, none⟩ = some (.int .i64 m.l) := by rw [cell_of_block hd3]; rfl
    have hz5 : wz.cell? ⟨W.heap.size, 5, none⟩ = some (.slice ta2 T2.length tc2) := by rw [cell_of_block hd3]; rfl
    have HZ := Lib.hid (And.intro hd1 (And.intro hd2 (And.intro hFz (And.intro hcz (And.intro hwz (And.intro hz0 (And.intro hz1 (And.intro hz2 (And.intro hz3 (And.intro hz4 (And.intro hz5 hd4))))))))))); clear hd1 hd2 hd3 hd4 hFz hcz hwz hz0 hz1 hz2 hz3 hz4 hz5
    skip
    have hwz := HZ.out.2.2.2.2.1
    unfold putS putR at hwz
    rw [← hwz]
    clear hwz
    obtain ⟨hd1, hd2, hFz, hcz, hwzz, hz0, hz1, hz2, hz3, hz4, hz5, hd4⟩ := HZ.out
    clear hwzz
    (have hcw := And.intro (cell_keep hcb.1 (hd4 _ (by omega))) (And.intro (cell_keep hcb.2.1 (hd4 _ (by omega))) (And.intro (cell_keep hcb.2.2.1 (hd4 _ (by omega))) (And.intro (cell_keep hcb.2.2.2.1 (hd4 _ (by omega))) (cell_keep hcb.2.2.2.2 (hd4 _ (by omega)))))); (refine hK.out _ _ hcw (fun hHeld => ?_); clear hK K; (try simp only [Act.put, List.setIfInBounds_toArray, List.set_cons_zero, List.set_cons_succ])); (refine wpAnyH_ready (rs := [7]) (by kernel_rfl) (by simp) (AllReadyH.cons rfl (fun K hK => ?_) AllReadyH.nil); go_simp); (refine hK.out _ _ hcw (fun hHeld => ?_); clear hK K; (try simp only [Act.put, List.setIfInBounds_toArray, List.set_cons_zero, List.set_cons_succ])); refine wpAnyH_done (by kernel_rfl) (NoPanic.normal ?_) _; go_wp2_with fail)
    exact bodyPost_ret (v := .tuple #[.agg #[.int .i64 m.c, .int .i64 m.d, .int .i64 m.s, .int .i64 m.e, .int .i64 m.l, (.slice ta2 T2.length tc2)], .slice ca cuts.length cc]) (by simp [results, Tryz.results66, go_sem, hz0, hz1, hz2, hz3, hz4, hz5]) rfl ⟨m, _, _, T2, cuts, rfl, (smallM_ok H3.out.2.2.2.2.2.1.1), hFz, (by omega), hcz.v2, by omega, hd1, hd2⟩
   ·have hx2d : (x == 2) = false := by simp [hx2]
    clear hx hx1' hx2
    have hdone := putS_facts H5.out.1 H5.out.2.1 H5.out.2.2.2.1 (by omega) (Nat.le_refl _) (by omega) (.int .i64 m.c) (.int .i64 m.d) (.int .i64 m.s) (.int .i64 m.e) (.int .i64 m.l) (.slice (some ⟨ob, off, none⟩) T.length tc)
    obtain ⟨wz, hwz⟩ : ∃ wz, wz = putS w5 W.heap.size (.int .i64 m.c) (.int .i64 m.d) (.int .i64 m.s) (.int .i64 m.e) (.int .i64 m.l) (.slice (some ⟨ob, off, none⟩) T.length tc) := ⟨_, rfl⟩
    rw [← hwz] at hdone
    obtain ⟨hd1, hd2, hd3, hd4⟩ := hdone
    have hFz : V2 (fun b => W.heap.size ≤ b) wz (.slice (some ⟨ob, off, none⟩) T.length tc) T := V2.mono (S := fun b => W1.heap.size ≤ b) (H5.out.2.2.2.2.1.v2) (fun b hb _ => by have hb : W1.heap.size ≤ b := hb; omega) (fun b hb _ => hd4 b (by have hb : W1.heap.size ≤ b := hb; omega))
    have hcz := (OV.keepb (w' := wz) (H5.out.2.2.2.2.2) (fun b h1 h2 => hd4 b (by omega))).base (show W.heap.size ≤ w3.heap.size by omega)
    have hz0 : wz.cell? ⟨W.heap.size, 0, none⟩ = some (.int .i64 m.c) := by rw [cell_of_block hd3]; rfl
    have hz1 : wz.cell? ⟨W.heap.size, 1, none⟩ = some (.int .i64 m.d) := by rw [cell_of_block hd3]; rfl
    have hz2 : wz.cell? ⟨W.heap.size, 2, none⟩ = some (.int .i64 m.s) := by rw [cell_of_block hd3]; rfl
    have hz3 : wz.cell? ⟨W.heap.size, 3, none⟩ = some (.int .i64 m.e) := by rw [cell_of_block hd3]; rfl
    have hz4 : wz.cell? ⟨W.heap.size, 4, none⟩ = some (.int .i64 m.l) := by rw [cell_of_block hd3]; rfl
    have hz5 : wz.cell? ⟨W.heap.size, 5, none⟩ = some (.slice (some ⟨ob, off, none⟩) T.length tc) := by rw [cell_of_block hd3]; rfl
    have HZ := Lib.hid (And.intro hd1 (And.intro hd2 (And.intro hFz (And.intro hcz (And.intro hwz (And.intro hz0 (And.intro hz1 (And.intro hz2 (And.intro hz3 (And.intro hz4 (And.intro hz5 hd4))))))))))); clear hd1 hd2 hd3 hd4 hFz hcz hwz hz0 hz1 hz2 hz3 hz4 hz5
    go_wp2_with fail
    have hwz := HZ.out.2.2.2.2.1
    unfold putS putR at hwz
    rw [← hwz]
    clear hwz
    obtain ⟨hd1, hd2, hFz, hcz, hwzz, hz0, hz1, hz2, hz3, hz4, hz5, hd4⟩ := HZ.out
    clear hwzz
    skip
    exact bodyPost_ret (v := .tuple #[.agg #[.int .i64 m.c, .int .i64 m.d, .int .i64 m.s, .int .i64 m.e, .int .i64 m.l, (.slice (some ⟨ob, off, none⟩) T.length tc)], .slice ca cuts.length cc]) (by simp [results, Tryz.results66, go_sem, hz0, hz1, hz2, hz3, hz4, hz5]) rfl ⟨m, _, _, T, cuts, rfl, (smallM_ok H3.out.2.2.2.2.2.1.1), hFz, (by omega), hcz.v2, by omega, hd1, hd2⟩
/-- What a draw of a system alone answers. -/
def DrawS1 (B0 SB : Nat) (W : World) (e : Ending) (w' : World) : Prop :=
 ∃ (m : Mk) (u : Value) (T : List (List Int)), e = .returned (.agg #[.int .i64 m.c, .int .i64 m.d, .int .i64 m.s, .int .i64 m.e, .int .i64 m.l, u]) ∧ SmallM m ∧ V2 (fun b => W.heap.size ≤ b) w' u T ∧ T.length ≤ 12 ∧ Src B0 SB w' ∧ Only SB W w'
theorem putR_facts {B0 SB RB : Nat} {W w : World} {c0 c1 c2 c3 c4 c5 : Value} (hs : Src B0 SB w) (ho : Only SB W w) (h : w.heap[RB]? = some (.cells #[c0, c1, c2, c3, c4, c5] 35 (0, 0))) (n1 : RB ≠ SB) (n2 : W.heap.size ≤ RB) (n3 : B0 ≤ RB) (v0 v1 v2 v3 v4 : Value) :
  Src B0 SB (putR w RB v0 v1 v2 v3 v4) ∧ Only SB W (putR w RB v0 v1 v2 v3 v4) ∧ (putR w RB v0 v1 v2 v3 v4).heap[RB]? = some (.cells #[v0, v1, v2, v3, v4, c5] 35 (0, 0)) ∧ ∀ b, b ≠ RB → (putR w RB v0 v1 v2 v3 v4).heap[b]? = w.heap[b]? := by
 refine ⟨((((hs.only n1 n3 v0 rfl).only n1 n3 v1 rfl).only n1 n3 v2 rfl).only n1 n3 v3 rfl).only n1 n3 v4 rfl, ((((ho.setNew n2 v0).setNew n2 v1).setNew n2 v2).setNew n2 v3).setNew n2 v4, ?_, fun b hb => ?_⟩
 ·unfold putR
  rw [heap_setCell_self (heap_setCell_self (heap_setCell_self (heap_setCell_self (heap_setCell_self h _) _) _) _) _]
  simp
 ·unfold putR
  (repeat rw [heap_setCell_other _ hb])
theorem smallN {y z e : Int} (hy : 0 ≤ y ∧ y < 2) (hz : 0 ≤ z ∧ z < 2) (he : 1 ≤ e ∧ e ≤ 2) : SmallM ⟨2 + y, 2 + z, 1, e, 1⟩ := by
 unfold SmallM
 simp only
 omega
set_option maxRecDepth 100000 in
set_option maxHeartbeats 4000000 in
theorem l17Draw_any (B0 SB : Nat) (W : World) (h : Src B0 SB W) :
  Calls Tryz.prog 65 #[.pointer (some ⟨SB, 0, none⟩)] W (DrawS1 B0 SB W) := by
 have hSl := h.lt
 have hB0 : B0 ≤ SB := h.1
 obtain ⟨W1, hW1, hB01, hz01, HZ01, _, hh01⟩ := box_facts W #[.int .i64 0, .int .i64 0, .int .i64 0, .int .i64 0, .int .i64 0, .slice none 0 0] 35
 have hz1e := HZ01.out
 have hz1l : W1.heap.size ≤ W.heap.size + 1 := by omega
 have hs1' := h.below hB01
 have HL := Lib.hid (And.intro hs1' (And.intro hB01 (And.intro hh01 hW1))); clear hs1' h hh01 hB01 hz1e
 go_enter Tryz.func65, Tryz.ntmps65
 go_wp2_with fail
 rw [← HL.out.2.2.2]
 clear hW1
 refine (l01Next_any B0 SB 20 _ HL.out.1).mono ?_
 rintro e' w2 ⟨x, rfl, ⟨hx0, hx1⟩, hs2, ho2⟩
 have hz2 := ho2.size
 have hR2 := ho2.heap HL.out.2.2.1 (fun e => by omega)
 have H2 := Lib.hid (And.intro hs2 (And.intro ((Only.of_below HL.out.2.1).trans ho2) hR2)); clear hs2 ho2 hR2
 by_cases hx : x = 0
 ·subst hx
  go_wp2_with fail
  refine (l15Draw_any B0 SB _ H2.out.1).mono ?_
  rintro e' w3 ⟨m, u, cv, T, cuts, rfl, hsm, hu, hT12, hcv, _, hs3, ho3⟩
  have hz3 := ho3.size
  obtain ⟨ta, tc, rfl, _⟩ := hu.form
  obtain ⟨w4, hw4⟩ : ∃ w4, w4 = w3.alloc (.cells #[.int .i64 m.c, .int .i64 m.d, .int .i64 m.s, .int .i64 m.e, .int .i64 m.l, .slice ta T.length tc] 35) := ⟨_, rfl⟩
  have hb34 : Below w3.heap.size w3 w4 := by rw [hw4]; exact (Below.refl _ _).alloc (Nat.le_refl _) _
  have hM4 : w4.heap[w3.heap.size]? = some (.cells #[.int .i64 m.c, .int .i64 m.d, .int .i64 m.s, .int .i64 m.e, .int .i64 m.l, .slice ta T.length tc] 35 (0, 0)) := by rw [hw4]; exact heap_alloc_self _ _
  have hR4 := (hb34.block _ (by omega)).trans (ho3.heap H2.out.2.2 (fun e => by omega))
  have hz4 : w3.heap.size < w4.heap.size := lt_of_heap hM4
  have H4 := Lib.hid (And.intro (hs3.below hb34) (And.intro ((H2.out.2.1.trans ho3).then_below hb34) (And.intro hR4 (And.intro ((hu.mono (fun b hb _ => show W1.heap.size ≤ b by omega) (fun _ _ _ => rfl)).below hb34) (And.intro hM4 (And.intro hsm (And.intro hw4 hT12))))))); clear hs3 ho3 hb34 hM4 hR4 hu hsm hw4 hcv hT12
  have hcM : ∀ o, (w3.alloc (.cells #[.int .i64 m.c, .int .i64 m.d, .int .i64 m.s, .int .i64 m.e, .int .i64 m.l, .slice ta T.length tc] 35)).cell? ⟨w3.heap.size, o, none⟩ = (#[.int .i64 m.c, .int .i64 m.d, .int .i64 m.s, .int .i64 m.e, .int .i64 m.l, .slice ta T.length tc] : Array Value)[o]? := fun o => by rw [← H4.out.2.2.2.2.2.2.1, cell_of_block H4.out.2.2.2.2.1]
  have hcRz : ∀ o, (w3.alloc (.cells #[.int .i64 m.c, .int .i64 m.d, .int .i64 m.s, .int .i64 m.e, .int .i64 m.l, .slice ta T.length tc] 35)).cell? ⟨W.heap.size, o, none⟩ = (#[.int .i64 0, .int .i64 0, .int .i64 0, .int .i64 0, .int .i64 0, .slice none 0 0] : Array Value)[o]? := fun o => by rw [← H4.out.2.2.2.2.2.2.1, cell_of_block H4.out.2.2.1]
  have hfRz : ∀ o, (w3.alloc (.cells #[.int .i64 m.c, .int .i64 m.d, .int .i64 m.s, .int .i64 m.e, .int .i64 m.l, .slice ta T.length tc] 35)).frozen? ⟨W.heap.size, o, none⟩ = false := fun o => by rw [← H4.out.2.2.2.2.2.2.1]; exact frozen_of_block H4.out.2.2.1 o
  have hdone := putS_facts H4.out.1 H4.out.2.1 H4.out.2.2.1 (by omega) (Nat.le_refl _) (by omega) (.int .i64 m.c) (.int .i64 m.d) (.int .i64 m.s) (.int .i64 m.e) (.int .i64 m.l) (.slice ta T.length tc)
  obtain ⟨wz, hwz⟩ : ∃ wz, wz = putS w4 W.heap.size (.int .i64 m.c) (.int .i64 m.d) (.int .i64 m.s) (.int .i64 m.e) (.int .i64 m.l) (.slice ta T.length tc) := ⟨_, rfl⟩
  rw [← hwz] at hdone
  obtain ⟨hd1, hd2, hd3, hd4⟩ := hdone
  have hFz : V2 (fun b => W.heap.size ≤ b) wz (.slice ta T.length tc) T := V2.mono (S := fun b => W1.heap.size ≤ b) H4.out.2.2.2.1 (fun b hb _ => by have hb : W1.heap.size ≤ b := hb; omega) (fun b hb _ => hd4 b (by have hb : W1.heap.size ≤ b := hb; omega))
  have hz0 : wz.cell? ⟨W.heap.size, 0, none⟩ = some (.int .i64 m.c) := by rw [cell_of_block hd3]; rfl
  have hz1 : wz.cell? ⟨W.heap.size, 1, none⟩ = some (.int .i64 m.d) := by rw [cell_of_block hd3]; rfl
  have hz2 : wz.cell? ⟨W.heap.size, 2, none⟩ = some (.int .i64 m.s) := by rw [cell_of_block hd3]; rfl
  have hz3 : wz.cell? ⟨W.heap.size, 3, none⟩ = some (.int .i64 m.e) := by rw [cell_of_block hd3]; rfl
  have hz4 : wz.cell? ⟨W.heap.size, 4, none⟩ = some (.int .i64 m.l) := by rw [cell_of_block hd3]; rfl
  have hz5 : wz.cell? ⟨W.heap.size, 5, none⟩ = some (.slice ta T.length tc) := by rw [cell_of_block hd3]; rfl
  have HZ := Lib.hid (And.intro hd1 (And.intro hd2 (And.intro hFz (And.intro hwz (And.intro hz0 (And.intro hz1 (And.intro hz2 (And.intro hz3 (And.intro hz4 hz5))))))))); clear hd1 hd2 hd3 hd4 hFz hwz hz0 hz1 hz2 hz3 hz4 hz5
  go_wp2_with fail
  have hwz := HZ.out.2.2.2.1
  unfold putS putR at hwz
  rw [H4.out.2.2.2.2.2.2.1] at hwz
  rw [← hwz]
  clear hwz
  obtain ⟨hd1, hd2, hFz, hwzz, hz0, hz1, hz2, hz3, hz4, hz5⟩ := HZ.out
  clear hwzz
  exact bodyPost_ret (v := .agg #[.int .i64 m.c, .int .i64 m.d, .int .i64 m.s, .int .i64 m.e, .int .i64 m.l, (.slice ta T.length tc)]) (by simp [results, Tryz.results65, go_sem, hz0, hz1, hz2, hz3, hz4, hz5]) rfl ⟨m, _, T, rfl, H4.out.2.2.2.2.2.1, hFz, H4.out.2.2.2.2.2.2.2, hd1, hd2⟩
 ·have hx0d : (x == 0) = false := by simp [hx]
  clear hx hx0 hx1
  go_wp2_with fail
  refine (l15Valid_any B0 SB _ H2.out.1).mono ?_
  rintro e' w3 ⟨m, u, T, C, rfl, hmk, ⟨hF, hTl, hC, hsh⟩, hs3, ho3⟩
  have hz3 := ho3.size
  obtain ⟨ta, tc, rfl, _⟩ := hF.v2.form
  obtain ⟨w4, hw4⟩ : ∃ w4, w4 = w3.alloc (.cells #[.int .i64 m.c, .int .i64 m.d, .int .i64 m.s, .int .i64 m.e, .int .i64 m.l, .slice ta T.length tc] 35) := ⟨_, rfl⟩
  have hb34 : Below w3.heap.size w3 w4 := by rw [hw4]; exact (Below.refl _ _).alloc (Nat.le_refl _) _
  have hM4 : w4.heap[w3.heap.size]? = some (.cells #[.int .i64 m.c, .int .i64 m.d, .int .i64 m.s, .int .i64 m.e, .int .i64 m.l, .slice ta T.length tc] 35 (0, 0)) := by rw [hw4]; exact heap_alloc_self _ _
  have hR4 := (hb34.block _ (by omega)).trans (ho3.heap H2.out.2.2 (fun e => by omega))
  have hz4 : w3.heap.size < w4.heap.size := lt_of_heap hM4
  have H4 := Lib.hid (And.intro (hs3.below hb34) (And.intro ((H2.out.2.1.trans ho3).then_below hb34) (And.intro hM4 (And.intro hR4 (And.intro ((hF.v2.mono (S' := fun b => W1.heap.size ≤ b ∧ b < w3.heap.size) (fun b hb hlt => ⟨by have hb : w2.heap.size ≤ b := hb; omega, hlt⟩) (fun _ _ _ => rfl)).below hb34) hw4))))); clear hs3 ho3 hb34 hM4 hR4 hF hmk hw4
  go_wp2_with fail
  rw [← H4.out.2.2.2.2.2]
  go_wp2_with fail
  refine (l01Next_any B0 SB 2 _ H4.out.1).mono ?_
  rintro e' w5 ⟨y, rfl, ⟨hy0, hy1⟩, hs5, ho5⟩
  have hz5 := ho5.size
  have H5 := Lib.hid (And.intro hs5 ho5); clear hs5 ho5
  have hwy : wrap64 (2 + y) = 2 + y := IntWalk.wrap64_in _ (by omega)
  go_wp2_with fail
  refine (l01Next_any B0 SB 2 _ H5.out.1).mono ?_
  rintro e' w6 ⟨z, rfl, ⟨hzz0, hzz1⟩, hs6, ho6⟩
  have hz6 := ho6.size
  have hwz2 : wrap64 (2 + z) = 2 + z := IntWalk.wrap64_in _ (by omega)
  have ho46 := H5.out.2.trans ho6
  have hM6 := ho46.heap H4.out.2.2.1 (fun e => by omega)
  have hR6 := ho46.heap H4.out.2.2.2.1 (fun e => by omega)
  have hcM6 : ∀ o, w6.cell? ⟨w3.heap.size, o, none⟩ = (#[.int .i64 m.c, .int .i64 m.d, .int .i64 m.s, .int .i64 m.e, .int .i64 m.l, .slice ta T.length tc] : Array Value)[o]? := fun o => by rw [cell_of_block hM6]
  have hfM6 := fun o => frozen_of_block hM6 o
  obtain ⟨w7, hw7⟩ : ∃ w7, w7 = putR w6 w3.heap.size (.int .i64 (2 + y)) (.int .i64 (2 + z)) (.int .i64 1) (.int .i64 2) (.int .i64 1) := ⟨_, rfl⟩
  have hp := putR_facts hs6 (H4.out.2.1.trans ho46) hM6 (by omega) (by omega) (by omega) (.int .i64 (2 + y)) (.int .i64 (2 + z)) (.int .i64 1) (.int .i64 2) (.int .i64 1)
  rw [← hw7] at hp
  obtain ⟨hp1, hp2, hp3, hp4⟩ := hp
  have hR7 : w7.heap[W.heap.size]? = _ := (hp4 _ (by omega)).trans hR6
  have hF7 : V2 (fun b => W1.heap.size ≤ b ∧ b < w3.heap.size) w7 (.slice ta T.length tc) T := H4.out.2.2.2.2.1.mono (fun b hb _ => hb) (fun b hb _ => (hp4 b (by omega)).trans (ho46.block b (by omega) (fun e => by omega)))
  have hz7 : w7.heap.size = w6.heap.size := by rw [hw7]; simp [putR]
  have H7 := Lib.hid (And.intro hp1 (And.intro hp2 (And.intro hp3 (And.intro hR7 (And.intro hF7 (And.intro hp4 hw7)))))); clear hp1 hp2 hp3 hp4 hR7 hw7 hF7 hs6 ho6 ho46 hM6 hR6
  go_wp2_with fail
  have hw7 := H7.out.2.2.2.2.2.2
  unfold putR at hw7
  rw [← hw7]
  clear hw7 hcM6 hfM6
  refine (l01Next_any B0 SB 3 _ H7.out.1).mono ?_
  rintro e' w8 ⟨q, rfl, ⟨hq0, hq1⟩, hs8, ho8⟩
  have hz8 := ho8.size
  have hM8 := ho8.heap H7.out.2.2.1 (fun e => by omega)
  have hR8 := ho8.heap H7.out.2.2.2.1 (fun e => by omega)
  have hT8 : V2 (fun b => W1.heap.size ≤ b ∧ b < w3.heap.size) w8 (.slice ta T.length tc) T := H7.out.2.2.2.2.1.mono (fun b hb _ => hb) (fun b hb _ => ho8.block b (by omega) (fun e => by omega))
  have hcM8 : ∀ o, w8.cell? ⟨w3.heap.size, o, none⟩ = (#[.int .i64 (2 + y), .int .i64 (2 + z), .int .i64 1, .int .i64 2, .int .i64 1, .slice ta T.length tc] : Array Value)[o]? := fun o => by rw [cell_of_block hM8]
  have hfM8 := fun o => frozen_of_block hM8 o
  have H8 := Lib.hid (And.intro hs8 (And.intro (H7.out.2.1.trans ho8) (And.intro hM8 (And.intro hR8 hT8)))); clear hs8 ho8 hM8 hR8 hT8
  by_cases hq : q = 0
  ·subst hq
   obtain ⟨w9, hw9⟩ : ∃ w9, w9 = w8.setCell ⟨w3.heap.size, 3, none⟩ (.int .i64 1) := ⟨_, rfl⟩
   have hM9 : w9.heap[w3.heap.size]? = some (.cells #[.int .i64 (2 + y), .int .i64 (2 + z), .int .i64 1, .int .i64 1, .int .i64 1, .slice ta T.length tc] 35 (0, 0)) := by rw [hw9, heap_setCell_self H8.out.2.2.1]; simp
   have hR9 : w9.heap[W.heap.size]? = _ := (show w9.heap[W.heap.size]? = w8.heap[W.heap.size]? by rw [hw9]; exact heap_setCell_other _ (by omega)).trans H8.out.2.2.2.1
   have hT9 : V2 (fun b => W1.heap.size ≤ b) w9 (.slice ta T.length tc) T := H8.out.2.2.2.2.mono (fun b hb _ => hb.1) (fun b hb _ => by rw [hw9]; exact heap_setCell_other _ (by omega))
   have H9 := Lib.hid (And.intro (H8.out.1.only (b := w3.heap.size) (off := 3) (by omega) (by omega) _ hw9) (And.intro (show Only SB W w9 by rw [hw9]; exact H8.out.2.1.setNew (by omega) _) (And.intro hM9 (And.intro hR9 (And.intro hT9 hw9))))); clear hM9 hR9 hT9 hw9
   have hcM : ∀ o, (w8.setCell ⟨w3.heap.size, 3, none⟩ (.int .i64 1)).cell? ⟨w3.heap.size, o, none⟩ = (#[.int .i64 (2 + y), .int .i64 (2 + z), .int .i64 1, .int .i64 1, .int .i64 1, .slice ta T.length tc] : Array Value)[o]? := fun o => by rw [← H9.out.2.2.2.2.2, cell_of_block H9.out.2.2.1]
   have hcRz : ∀ o, (w8.setCell ⟨w3.heap.size, 3, none⟩ (.int .i64 1)).cell? ⟨W.heap.size, o, none⟩ = (#[.int .i64 0, .int .i64 0, .int .i64 0, .int .i64 0, .int .i64 0, .slice none 0 0] : Array Value)[o]? := fun o => by rw [← H9.out.2.2.2.2.2, cell_of_block H9.out.2.2.2.1]
   have hfRz : ∀ o, (w8.setCell ⟨w3.heap.size, 3, none⟩ (.int .i64 1)).frozen? ⟨W.heap.size, o, none⟩ = false := fun o => by rw [← H9.out.2.2.2.2.2]; exact frozen_of_block H9.out.2.2.2.1 o
   have hdone := putS_facts H9.out.1 H9.out.2.1 H9.out.2.2.2.1 (by omega) (Nat.le_refl _) (by omega) (.int .i64 (Mk.mk (2 + y) (2 + z) 1 1 1).c) (.int .i64 (Mk.mk (2 + y) (2 + z) 1 1 1).d) (.int .i64 (Mk.mk (2 + y) (2 + z) 1 1 1).s) (.int .i64 (Mk.mk (2 + y) (2 + z) 1 1 1).e) (.int .i64 (Mk.mk (2 + y) (2 + z) 1 1 1).l) (.slice ta T.length tc)
   obtain ⟨wz, hwz⟩ : ∃ wz, wz = putS w9 W.heap.size (.int .i64 (Mk.mk (2 + y) (2 + z) 1 1 1).c) (.int .i64 (Mk.mk (2 + y) (2 + z) 1 1 1).d) (.int .i64 (Mk.mk (2 + y) (2 + z) 1 1 1).s) (.int .i64 (Mk.mk (2 + y) (2 + z) 1 1 1).e) (.int .i64 (Mk.mk (2 + y) (2 + z) 1 1 1).l) (.slice ta T.length tc) := ⟨_, rfl⟩
   rw [← hwz] at hdone
   obtain ⟨hd1, hd2, hd3, hd4⟩ := hdone
   have hFz : V2 (fun b => W.heap.size ≤ b) wz (.slice ta T.length tc) T := V2.mono (S := fun b => W1.heap.size ≤ b) H9.out.2.2.2.2.1 (fun b hb _ => by have hb : W1.heap.size ≤ b := hb; omega) (fun b hb _ => hd4 b (by have hb : W1.heap.size ≤ b := hb; omega))
   have hz0 : wz.cell? ⟨W.heap.size, 0, none⟩ = some (.int .i64 (Mk.mk (2 + y) (2 + z) 1 1 1).c) := by rw [cell_of_block hd3]; rfl
   have hz1 : wz.cell? ⟨W.heap.size, 1, none⟩ = some (.int .i64 (Mk.mk (2 + y) (2 + z) 1 1 1).d) := by rw [cell_of_block hd3]; rfl
   have hz2 : wz.cell? ⟨W.heap.size, 2, none⟩ = some (.int .i64 (Mk.mk (2 + y) (2 + z) 1 1 1).s) := by rw [cell_of_block hd3]; rfl
   have hz3 : wz.cell? ⟨W.heap.size, 3, none⟩ = some (.int .i64 (Mk.mk (2 + y) (2 + z) 1 1 1).e) := by rw [cell_of_block hd3]; rfl
   have hz4 : wz.cell? ⟨W.heap.size, 4, none⟩ = some (.int .i64 (Mk.mk (2 + y) (2 + z) 1 1 1).l) := by rw [cell_of_block hd3]; rfl
   have hz5 : wz.cell? ⟨W.heap.size, 5, none⟩ = some (.slice ta T.length tc) := by rw [cell_of_block hd3]; rfl
   have HZ := Lib.hid (And.intro hd1 (And.intro hd2 (And.intro hFz (And.intro hwz (And.intro hz0 (And.intro hz1 (And.intro hz2 (And.intro hz3 (And.intro hz4 hz5))))))))); clear hd1 hd2 hd3 hd4 hFz hwz hz0 hz1 hz2 hz3 hz4 hz5
   go_wp2_with fail
   have hwz := HZ.out.2.2.2.1
   unfold putS putR at hwz
   rw [H9.out.2.2.2.2.2] at hwz
   rw [← hwz]
   clear hwz
   obtain ⟨hd1, hd2, hFz, hwzz, hz0, hz1, hz2, hz3, hz4, hz5⟩ := HZ.out
   clear hwzz
   exact bodyPost_ret (v := .agg #[.int .i64 (Mk.mk (2 + y) (2 + z) 1 1 1).c, .int .i64 (Mk.mk (2 + y) (2 + z) 1 1 1).d, .int .i64 (Mk.mk (2 + y) (2 + z) 1 1 1).s, .int .i64 (Mk.mk (2 + y) (2 + z) 1 1 1).e, .int .i64 (Mk.mk (2 + y) (2 + z) 1 1 1).l, (.slice ta T.length tc)]) (by simp [results, Tryz.results65, go_sem, hz0, hz1, hz2, hz3, hz4, hz5]) rfl ⟨(Mk.mk (2 + y) (2 + z) 1 1 1), _, T, rfl, smallN ⟨hy0, by omega⟩ ⟨hzz0, by omega⟩ (by omega), hFz, (by omega), hd1, hd2⟩
  ·have hqd : (q == 0) = false := by simp [hq]
   clear hq hq0 hq1
   have hcRz : ∀ o, w8.cell? ⟨W.heap.size, o, none⟩ = (#[.int .i64 0, .int .i64 0, .int .i64 0, .int .i64 0, .int .i64 0, .slice none 0 0] : Array Value)[o]? := fun o => by rw [cell_of_block H8.out.2.2.2.1]
   have hfRz := fun o => frozen_of_block H8.out.2.2.2.1 o
   have hdone := putS_facts H8.out.1 H8.out.2.1 H8.out.2.2.2.1 (by omega) (Nat.le_refl _) (by omega) (.int .i64 (Mk.mk (2 + y) (2 + z) 1 2 1).c) (.int .i64 (Mk.mk (2 + y) (2 + z) 1 2 1).d) (.int .i64 (Mk.mk (2 + y) (2 + z) 1 2 1).s) (.int .i64 (Mk.mk (2 + y) (2 + z) 1 2 1).e) (.int .i64 (Mk.mk (2 + y) (2 + z) 1 2 1).l) (.slice ta T.length tc)
   obtain ⟨wz, hwz⟩ : ∃ wz, wz = putS w8 W.heap.size (.int .i64 (Mk.mk (2 + y) (2 + z) 1 2 1).c) (.int .i64 (Mk.mk (2 + y) (2 + z) 1 2 1).d) (.int .i64 (Mk.mk (2 + y) (2 + z) 1 2 1).s) (.int .i64 (Mk.mk (2 + y) (2 + z) 1 2 1).e) (.int .i64 (Mk.mk (2 + y) (2 + z) 1 2 1).l) (.slice ta T.length tc) := ⟨_, rfl⟩
   rw [← hwz] at hdone
   obtain ⟨hd1, hd2, hd3, hd4⟩ := hdone
   have hFz : V2 (fun b => W.heap.size ≤ b) wz (.slice ta T.length tc) T := V2.mono (S := fun b => W1.heap.size ≤ b) (H8.out.2.2.2.2.mono (S' := fun b => W1.heap.size ≤ b) (fun b hb _ => hb.1) (fun _ _ _ => rfl)) (fun b hb _ => by have hb : W1.heap.size ≤ b := hb; omega) (fun b hb _ => hd4 b (by have hb : W1.heap.size ≤ b := hb; omega))
   have hz0 : wz.cell? ⟨W.heap.size, 0, none⟩ = some (.int .i64 (Mk.mk (2 + y) (2 + z) 1 2 1).c) := by rw [cell_of_block hd3]; rfl
   have hz1 : wz.cell? ⟨W.heap.size, 1, none⟩ = some (.int .i64 (Mk.mk (2 + y) (2 + z) 1 2 1).d) := by rw [cell_of_block hd3]; rfl
   have hz2 : wz.cell? ⟨W.heap.size, 2, none⟩ = some (.int .i64 (Mk.mk (2 + y) (2 + z) 1 2 1).s) := by rw [cell_of_block hd3]; rfl
   have hz3 : wz.cell? ⟨W.heap.size, 3, none⟩ = some (.int .i64 (Mk.mk (2 + y) (2 + z) 1 2 1).e) := by rw [cell_of_block hd3]; rfl
   have hz4 : wz.cell? ⟨W.heap.size, 4, none⟩ = some (.int .i64 (Mk.mk (2 + y) (2 + z) 1 2 1).l) := by rw [cell_of_block hd3]; rfl
   have hz5 : wz.cell? ⟨W.heap.size, 5, none⟩ = some (.slice ta T.length tc) := by rw [cell_of_block hd3]; rfl
   have HZ := Lib.hid (And.intro hd1 (And.intro hd2 (And.intro hFz (And.intro hwz (And.intro hz0 (And.intro hz1 (And.intro hz2 (And.intro hz3 (And.intro hz4 hz5))))))))); clear hd1 hd2 hd3 hd4 hFz hwz hz0 hz1 hz2 hz3 hz4 hz5
   go_wp2_with fail
   have hwz := HZ.out.2.2.2.1
   unfold putS putR at hwz
   skip
   rw [← hwz]
   clear hwz
   obtain ⟨hd1, hd2, hFz, hwzz, hz0, hz1, hz2, hz3, hz4, hz5⟩ := HZ.out
   clear hwzz
   exact bodyPost_ret (v := .agg #[.int .i64 (Mk.mk (2 + y) (2 + z) 1 2 1).c, .int .i64 (Mk.mk (2 + y) (2 + z) 1 2 1).d, .int .i64 (Mk.mk (2 + y) (2 + z) 1 2 1).s, .int .i64 (Mk.mk (2 + y) (2 + z) 1 2 1).e, .int .i64 (Mk.mk (2 + y) (2 + z) 1 2 1).l, (.slice ta T.length tc)]) (by simp [results, Tryz.results65, go_sem, hz0, hz1, hz2, hz3, hz4, hz5]) rfl ⟨(Mk.mk (2 + y) (2 + z) 1 2 1), _, T, rfl, smallN ⟨hy0, by omega⟩ ⟨hzz0, by omega⟩ (by omega), hFz, (by omega), hd1, hd2⟩
/-- A table as a literal leaves it: its rows in blocks from B on, the slice of the rows behind them. -/
def LitT (w : World) (B R C : Nat) (T : List (List Int)) : Prop :=
 T.length = R ∧ Shape T C ∧ (∀ k, k < R → w.heap[B + k]? = some (.cells ((getl T k).map (Value.int .i64)).toArray 2 (0, 0))) ∧
  ∃ cs, w.heap[B + R]? = some (.cells cs 57 (0, 0)) ∧ ∀ k, k < R → cs[k]? = some (.slice (some ⟨B + k, 0, none⟩) C C)
theorem LitT.keep {w w' : World} {B R C : Nat} {T : List (List Int)} (h : LitT w B R C T) (hk : ∀ b, B ≤ b → b < w.heap.size → w'.heap[b]? = w.heap[b]?) : LitT w' B R C T := by
 obtain ⟨h1, h2, h3, cs, h4, h5⟩ := h
 exact ⟨h1, h2, fun k hk' => (hk _ (by omega) (lt_of_heap (h3 k hk'))).trans (h3 k hk'), cs, (hk _ (by omega) (lt_of_heap h4)).trans h4, h5⟩
theorem LitT.f2 {w : World} {B R C : Nat} {T : List (List Int)} (h : LitT w B R C T) (hR : R ≤ 1000) (hC : C ≤ 1000) : F2 B w (.slice (some ⟨B + R, 0, none⟩) R R) T := by
 obtain ⟨h1, h2, h3, cs, h4, h5⟩ := h
 subst h1
 refine ⟨B + T.length, fun k => B + k, ⟨_, T.length, rfl, Nat.le_refl _, by unfold maxLen; omega, fun _ => ⟨0, cs, _, rfl, h4, fun k hk => ⟨_, by rw [Nat.zero_add]; exact h5 k hk, _, C, by rw [h2 k hk], by rw [h2 k hk]; exact Nat.le_refl _, by unfold maxLen; omega, fun _ => ⟨0, _, _, rfl, h3 k hk, fun q hq => ?_⟩⟩⟩, fun k hk _ => ⟨by show B + k ≠ B + T.length; omega, fun j hj hjk _ => by show B + j ≠ B + k; omega⟩⟩, fun _ => by show B ≤ B + T.length; omega, fun k _ _ => by show B ≤ B + k; omega⟩
 simp only [Nat.zero_add, List.getElem?_toArray, List.getElem?_map]
 rw [List.getElem?_eq_getElem hq, geti_eq hq]
 rfl
theorem LitT.put {w : World} {B R C k c : Nat} {x : Int} {T : List (List Int)} (h : LitT w B R C T) (hk : k < R) (hc : c < C) :
  LitT (w.setCell ⟨B + k, c, none⟩ (.int .i64 x)) B R C (setT T k c x) := by
 obtain ⟨h1, h2, h3, cs, h4, h5⟩ := h
 refine ⟨by rw [setT_len]; exact h1, h2.set, fun j hj => ?_, cs, (heap_setCell_other _ (by omega)).trans h4, h5⟩
 unfold setT
 rw [getl_set (by omega)]
 by_cases hjk : k = j
 ·subst hjk
  rw [if_pos rfl, heap_setCell_self (h3 k hk)]
  simp
 ·rw [if_neg hjk, heap_setCell_other _ (by omega)]
  exact h3 j hj
theorem LitT.cell {w : World} {B R C k c : Nat} {T : List (List Int)} (h : LitT w B R C T) (hk : k < R) (hc : c < C) :
  (∃ x : Int, w.cell? ⟨B + k, c, none⟩ = some (.int .i64 x)) ∧ w.frozen? ⟨B + k, c, none⟩ = false := by
 obtain ⟨h1, h2, h3, _⟩ := h
 have hl := h2 k (by omega)
 refine ⟨⟨geti (getl T k) c, ?_⟩, frozen_of_block (h3 k hk) _⟩
 rw [cell_of_block (h3 k hk)]
 simp only [List.getElem?_toArray, List.getElem?_map]
 rw [List.getElem?_eq_getElem (by omega), geti_eq (by omega)]
 rfl
theorem LitT.rows {w : World} {B R C : Nat} {T : List (List Int)} (h : LitT w B R C T) : ∀ k, k < R → w.cell? ⟨B + R, k, none⟩ = some (.slice (some ⟨B + k, 0, none⟩) C C) := fun k hk => by
 obtain ⟨h1, h2, h3, cs, h4, h5⟩ := h
 rw [cell_of_block h4]; exact h5 k hk
theorem alloc_get {B : Nat} {w : World} (hz : w.heap.size = B) (o : Obj) : (w.alloc o).heap[B]? = some o := by subst hz; exact heap_alloc_self _ _
theorem lit4 (w : World) (o0 o1 o2 o3 o4 : Obj) : ∃ w', w' = ((((w.alloc o0).alloc o1).alloc o2).alloc o3).alloc o4 ∧ w'.heap[w.heap.size]? = some o0 ∧ w'.heap[w.heap.size + 1]? = some o1 ∧ w'.heap[w.heap.size + 2]? = some o2 ∧ w'.heap[w.heap.size + 3]? = some o3 ∧ w'.heap[w.heap.size + 4]? = some o4 ∧ Below w.heap.size w w' ∧ w'.heap.size = w.heap.size + 5 := by
 have h0 := (Below.refl w.heap.size w).alloc (Nat.le_refl _) o0
 have h1 := h0.alloc (by simp) o1
 have h2 := h1.alloc (by simp; omega) o2
 have h3 := h2.alloc (by simp; omega) o3
 have h4 := h3.alloc (by simp; omega) o4
 have z1 : (w.alloc o0).heap.size = w.heap.size + 1 := by simp
 have z2 : ((w.alloc o0).alloc o1).heap.size = w.heap.size + 2 := by simp
 have z3 : (((w.alloc o0).alloc o1).alloc o2).heap.size = w.heap.size + 3 := by simp
 have z4 : ((((w.alloc o0).alloc o1).alloc o2).alloc o3).heap.size = w.heap.size + 4 := by simp
 have up : ∀ (v : World) (o : Obj) (b : Nat) (x : Obj), v.heap[b]? = some x → (v.alloc o).heap[b]? = some x := fun v o b x h => heap_below h ((Below.refl v.heap.size v).alloc (Nat.le_refl _) o) (lt_of_heap h)
 exact ⟨_, rfl, up _ _ _ _ (up _ _ _ _ (up _ _ _ _ (up _ _ _ _ (alloc_get rfl o0)))), up _ _ _ _ (up _ _ _ _ (up _ _ _ _ (alloc_get z1 o1))), up _ _ _ _ (up _ _ _ _ (alloc_get z2 o2)), up _ _ _ _ (alloc_get z3 o3), alloc_get z4 o4, h4, by simp⟩
theorem lit3 (w : World) (o0 o1 o2 o3 : Obj) : ∃ w', w' = (((w.alloc o0).alloc o1).alloc o2).alloc o3 ∧ w'.heap[w.heap.size]? = some o0 ∧ w'.heap[w.heap.size + 1]? = some o1 ∧ w'.heap[w.heap.size + 2]? = some o2 ∧ w'.heap[w.heap.size + 3]? = some o3 ∧ Below w.heap.size w w' ∧ w'.heap.size = w.heap.size + 4 := by
 have h0 := (Below.refl w.heap.size w).alloc (Nat.le_refl _) o0
 have h1 := h0.alloc (by simp) o1
 have h2 := h1.alloc (by simp; omega) o2
 have h3 := h2.alloc (by simp; omega) o3
 have z1 : (w.alloc o0).heap.size = w.heap.size + 1 := by simp
 have z2 : ((w.alloc o0).alloc o1).heap.size = w.heap.size + 2 := by simp
 have z3 : (((w.alloc o0).alloc o1).alloc o2).heap.size = w.heap.size + 3 := by simp
 have up : ∀ (v : World) (o : Obj) (b : Nat) (x : Obj), v.heap[b]? = some x → (v.alloc o).heap[b]? = some x := fun v o b x h => heap_below h ((Below.refl v.heap.size v).alloc (Nat.le_refl _) o) (lt_of_heap h)
 exact ⟨_, rfl, up _ _ _ _ (up _ _ _ _ (up _ _ _ _ (alloc_get rfl o0))), up _ _ _ _ (up _ _ _ _ (alloc_get z1 o1)), up _ _ _ _ (alloc_get z2 o2), alloc_get z3 o3, h3, by simp⟩
def T43 : List (List Int) := [[1, 1, 1], [1, 0, 0], [0, 1, 0], [0, 0, 1]]
def T32 : List (List Int) := [[1, 1], [1, 0], [0, 1]]
theorem lit43 (w : World) (B : Nat) (hB : w.heap.size = B) : ∃ w', w' = ((((w.alloc (.cells #[.int .i64 1, .int .i64 1, .int .i64 1] 2)).alloc (.cells #[.int .i64 1, .int .i64 0, .int .i64 0] 2)).alloc (.cells #[.int .i64 0, .int .i64 1, .int .i64 0] 2)).alloc (.cells #[.int .i64 0, .int .i64 0, .int .i64 1] 2)).alloc
   (.cells #[.slice (some ⟨B, 0, none⟩) 3 3, .slice (some ⟨B + 1, 0, none⟩) 3 3, .slice (some ⟨B + 1 + 1, 0, none⟩) 3 3, .slice (some ⟨B + 1 + 1 + 1, 0, none⟩) 3 3] 57) ∧
  LitT w' B 4 3 T43 ∧ Below w.heap.size w w' ∧ w'.heap.size = B + 5 := by
 subst hB
 obtain ⟨w', e, h0, h1, h2, h3, h4, hb, hz⟩ := lit4 w (.cells #[.int .i64 1, .int .i64 1, .int .i64 1] 2) (.cells #[.int .i64 1, .int .i64 0, .int .i64 0] 2) (.cells #[.int .i64 0, .int .i64 1, .int .i64 0] 2) (.cells #[.int .i64 0, .int .i64 0, .int .i64 1] 2)
  (.cells #[.slice (some ⟨w.heap.size, 0, none⟩) 3 3, .slice (some ⟨w.heap.size + 1, 0, none⟩) 3 3, .slice (some ⟨w.heap.size + 1 + 1, 0, none⟩) 3 3, .slice (some ⟨w.heap.size + 1 + 1 + 1, 0, none⟩) 3 3] 57)
 refine ⟨w', e, ⟨rfl, fun j hj => ?_, fun k hk => ?_, _, h4, fun k hk => ?_⟩, hb, hz⟩
 ·have hj : j < 4 := hj
  rcases (by omega : j = 0 ∨ j = 1 ∨ j = 2 ∨ j = 3) with rfl | rfl | rfl | rfl <;> rfl
 ·rcases (by omega : k = 0 ∨ k = 1 ∨ k = 2 ∨ k = 3) with rfl | rfl | rfl | rfl
  ·exact h0
  ·exact h1
  ·exact h2
  ·exact h3
 ·rcases (by omega : k = 0 ∨ k = 1 ∨ k = 2 ∨ k = 3) with rfl | rfl | rfl | rfl <;> rfl
theorem lit32 (w : World) (B : Nat) (hB : w.heap.size = B) : ∃ w', w' = (((w.alloc (.cells #[.int .i64 1, .int .i64 1] 2)).alloc (.cells #[.int .i64 1, .int .i64 0] 2)).alloc (.cells #[.int .i64 0, .int .i64 1] 2)).alloc
   (.cells #[.slice (some ⟨B, 0, none⟩) 2 2, .slice (some ⟨B + 1, 0, none⟩) 2 2, .slice (some ⟨B + 1 + 1, 0, none⟩) 2 2] 57) ∧
  LitT w' B 3 2 T32 ∧ Below w.heap.size w w' ∧ w'.heap.size = B + 4 := by
 subst hB
 obtain ⟨w', e, h0, h1, h2, h3, hb, hz⟩ := lit3 w (.cells #[.int .i64 1, .int .i64 1] 2) (.cells #[.int .i64 1, .int .i64 0] 2) (.cells #[.int .i64 0, .int .i64 1] 2)
  (.cells #[.slice (some ⟨w.heap.size, 0, none⟩) 2 2, .slice (some ⟨w.heap.size + 1, 0, none⟩) 2 2, .slice (some ⟨w.heap.size + 1 + 1, 0, none⟩) 2 2] 57)
 refine ⟨w', e, ⟨rfl, fun j hj => ?_, fun k hk => ?_, _, h3, fun k hk => ?_⟩, hb, hz⟩
 ·have hj : j < 3 := hj
  rcases (by omega : j = 0 ∨ j = 1 ∨ j = 2) with rfl | rfl | rfl <;> rfl
 ·rcases (by omega : k = 0 ∨ k = 1 ∨ k = 2) with rfl | rfl | rfl
  ·exact h0
  ·exact h1
  ·exact h2
 ·rcases (by omega : k = 0 ∨ k = 1 ∨ k = 2) with rfl | rfl | rfl <;> rfl
end Go.Proofs.YtbekpololmahoaaGreatDoor
