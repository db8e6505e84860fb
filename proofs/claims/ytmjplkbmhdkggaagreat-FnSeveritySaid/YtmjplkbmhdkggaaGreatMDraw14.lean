/- The reference's draws of systems and cuts, some of them not valid. No conditions. -/
import Derived.Deep.RegionHeld3
import Derived.Test.YtmjplkbmhdkggaaGreatMDraw11
import Derived.Test.YtmjplkbmhdkggaaGreatMFalse
import Derived.Test.YtmjplkbmhdkggaaGreatMClone2
import Derived.Test.YtmjplkbmhdkggaaGreatMEach5
import Derived.Test.YtmjplkbmhdkggaaGreatMShelf0
import Derived.Test.YtmjplkbmhdkggaaGreatMStops
namespace Go.Proofs.YtmjplkbmhdkggaaGreat
open Go.RowKit
set_option linter.unusedVariables false
set_option linter.unusedSimpArgs false
theorem F2.ob_le {B : Nat} {w : World} {ob off n c : Nat} {ls : List (List Int)} (h : F2 B w (.slice (some ⟨ob, off, none⟩) n c) ls) (hn : ls ≠ []) : B ≤ ob := by
 obtain ⟨ob', bk, ⟨a', c', e, h1, h2, h3, h4⟩, h5, h6⟩ := h
 simp only [Value.slice.injEq] at e
 obtain ⟨rfl, rfl, rfl⟩ := e
 obtain ⟨off', cs, e, ha, _⟩ := h3 hn
 simp only [Option.some.injEq, Addr.mk.injEq, and_true] at ha
 obtain ⟨rfl, rfl⟩ := ha
 exact h5 hn
theorem OV.keepb {B : Nat} {w w' : World} {v : Value} {ls : List (List Int)} (h : OV B w v ls) (hk : ∀ b, B ≤ b → b < w.heap.size → w'.heap[b]? = w.heap[b]?) : OV B w' v ls := by
 obtain ⟨vs, ⟨hl, h1⟩, h2⟩ := h
 refine ⟨vs, ⟨hl, ?_⟩, h2.keep fun b hb hlt => hk b hb.1 hlt⟩
 rcases h1 with h0 | ⟨g, cap, cur, hv, hb, hh, h3⟩
 ·exact .inl h0
 ·exact .inr ⟨g, cap, cur, hv, hb, (hk g hb (lt_of_heap hh)).trans hh, h3⟩
def DrawSys (B0 SB : Nat) (W : World) (e : Ending) (w' : World) : Prop :=
 ∃ (m : Mk) (u cv : Value) (T cuts : List (List Int)), e = .returned (.tuple #[.agg #[.int .i64 m.c, .int .i64 m.d, .int .i64 m.s, .int .i64 m.e, .int .i64 m.l, u], cv]) ∧ SmallM m ∧ V2 (fun b => W.heap.size ≤ b) w' u T ∧ T.length ≤ 12 ∧ V2 (fun b => W.heap.size ≤ b) w' cv cuts ∧ (1 ≤ cuts.length ∧ cuts.length ≤ 5) ∧ Src B0 SB w' ∧ Only SB W w'
set_option maxRecDepth 100000 in
set_option maxHeartbeats 4000000 in
theorem l15Draw_any (B0 SB : Nat) (W : World) (h : Src B0 SB W) :
  Calls Tryz.prog 68 #[.pointer (some ⟨SB, 0, none⟩)] W (DrawSys B0 SB W) := by
 have hSl := h.lt
 have hB0 : B0 ≤ SB := h.1
 obtain ⟨W1, hW1, hB01, hz01, HZ01, _, hh01⟩ := box_facts W #[.int .i64 0, .int .i64 0, .int .i64 0, .int .i64 0, .int .i64 0, .slice none 0 0] 33
 have hz1e := HZ01.out
 have hz1l : W1.heap.size ≤ W.heap.size + 1 := by omega
 have hs1' := h.below hB01
 have HL := Lib.hid (And.intro hs1' (And.intro hB01 (And.intro hh01 hW1))); clear hs1' h hh01 hB01 hz1e
 go_enter Tryz.func68, Tryz.ntmps68
 go_wp2_with fail
 rw [← hW1]
 clear hW1
 refine (l15Valid_any B0 SB _ HL.out.1).mono ?_
 rintro e' w2 ⟨m, u, T, C, rfl, hmk, ⟨hF, hTl, hC, hsh⟩, hs2, ho2⟩
 have hz2 := ho2.size
 obtain ⟨ta, tc, rfl, _⟩ := hF.v2.form
 obtain ⟨ob, off, b, o2, rc, u, rfl, hc1, hb5, hc2, _, _⟩ := hF.put (i := 0) (k := 0) (by omega) (by rw [hsh.1 0 (by omega)]; omega)
 simp only [Nat.add_zero] at hc1 hc2
 have hobl : ob < w2.heap.size := lt_of_cell hc1
 have hbl : b < w2.heap.size := lt_of_cell hc2
 have hobB : W1.heap.size ≤ ob := hF.ob_le (by intro e; rw [e] at hTl; simp at hTl)
 have hbo : b ≠ ob := hF.ne (i := 0) (by omega) (by have := hsh.1 0 (by omega); intro e; rw [e] at this; simp at this; omega) (by simpa using hc1)
 have hrl := hsh.1 0 (by omega)
 obtain ⟨rl, hrle⟩ : ∃ rl, (getl T 0).length = rl := ⟨_, rfl⟩
 rw [hrle] at hc1 hrl
 have hrl1 : ¬ rl ≤ 0 := by omega
 have hrl4 : 0 < rl := by omega
 have hTl1 : ¬ T.length ≤ 0 := by omega
 obtain ⟨w3, hw3⟩ : ∃ w3, w3 = w2.alloc (.cells #[.int .i64 m.c, .int .i64 m.d, .int .i64 m.s, .int .i64 m.e, .int .i64 m.l, .slice (some ⟨ob, off, none⟩) T.length tc] 33) := ⟨_, rfl⟩
 have hb23 : Below w2.heap.size w2 w3 := by rw [hw3]; exact (Below.refl _ _).alloc (Nat.le_refl _) _
 have hM3 : w3.heap[w2.heap.size]? = some (.cells #[.int .i64 m.c, .int .i64 m.d, .int .i64 m.s, .int .i64 m.e, .int .i64 m.l, .slice (some ⟨ob, off, none⟩) T.length tc] 33 (0, 0)) := by rw [hw3]; exact heap_alloc_self _ _
 have hR3 : w3.heap[W.heap.size]? = some (.cells #[.int .i64 0, .int .i64 0, .int .i64 0, .int .i64 0, .int .i64 0, .slice none 0 0] 33 (0, 0)) := (hb23.block _ (by omega)).trans (ho2.heap HL.out.2.2.1 (fun e => by omega))
 have ho3 : Only SB W w3 := ((Only.of_below HL.out.2.1).trans ho2).then_below hb23
 have hz3 : w2.heap.size < w3.heap.size := lt_of_heap hM3
 have hc3 : ∀ o, w3.cell? ⟨w2.heap.size, o, none⟩ = (#[.int .i64 m.c, .int .i64 m.d, .int .i64 m.s, .int .i64 m.e, .int .i64 m.l, .slice (some ⟨ob, off, none⟩) T.length tc] : Array Value)[o]? := fun o => by rw [cell_of_block hM3]
 have hc13 : w3.cell? ⟨ob, off, none⟩ = some (.slice (some ⟨b, o2, none⟩) rl rc) := cell_keep hc1 (hb23.block _ hobl)
 have H3 := Lib.hid (And.intro (hs2.below hb23) (And.intro ho3 (And.intro hM3 (And.intro hR3 (And.intro (hF.below hb23) (And.intro hmk (And.intro hsh (And.intro hw3 hc13)))))))); clear hs2 ho2 hb23 hM3 hR3 ho3 hw3 hF hmk hsh hc13 hc1 hc2 hrl hrle
 go_wp2_with fail
 rw [← H3.out.2.2.2.2.2.2.2.1]
 go_wp2_with fail
 refine (l15DrawCuts_any B0 SB m H3.out.2.2.2.2.2.1.1 _ _ _ ⟨by omega, by omega⟩ _ H3.out.1).mono ?_
 rintro e' w4 ⟨cv, cuts, rfl, ⟨hcO, hcl1, hcl2⟩, hs4, ho4⟩
 have hz4 := ho4.size
 obtain ⟨ca, cc, rfl, _, _⟩ := hcO.form
 have H4 := Lib.hid (And.intro hs4 (And.intro ho4 hcO)); clear hs4 ho4 hcO
 go_wp2_with fail
 refine (l01Next_any B0 SB 30 _ H4.out.1).mono ?_
 rintro e' w5 ⟨x, rfl, ⟨hx0, hx1⟩, hs5, ho5⟩
 have hz5 := ho5.size
 have ho35 := H4.out.2.1.trans ho5
 have hM5 := ho35.heap H3.out.2.2.1 (fun e => by omega)
 have hR5 := ho35.heap H3.out.2.2.2.1 (fun e => by omega)
 have hF5 := H3.out.2.2.2.2.1.only ho35 (by omega)
 have hcO5 := H4.out.2.2.only ho5 (by omega)
 have hc15 : w5.cell? ⟨ob, off, none⟩ = some (.slice (some ⟨b, o2, none⟩) rl rc) := cell_keep H3.out.2.2.2.2.2.2.2.2 (ho35.block _ (by omega) (fun e => by omega))
 have H5 := Lib.hid (And.intro hs5 (And.intro (H3.out.2.1.trans ho35) (And.intro hM5 (And.intro hR5 (And.intro hF5 hcO5))))); clear hs5 ho5 ho35 hM5 hR5 hF5 hcO5 hc3
 have hcM : ∀ o, w5.cell? ⟨w2.heap.size, o, none⟩ = (#[.int .i64 m.c, .int .i64 m.d, .int .i64 m.s, .int .i64 m.e, .int .i64 m.l, .slice (some ⟨ob, off, none⟩) T.length tc] : Array Value)[o]? := fun o => by rw [cell_of_block H5.out.2.2.1]
 have hcR : ∀ o, w5.cell? ⟨W.heap.size, o, none⟩ = (#[.int .i64 0, .int .i64 0, .int .i64 0, .int .i64 0, .int .i64 0, .slice none 0 0] : Array Value)[o]? := fun o => by rw [cell_of_block H5.out.2.2.2.1]
 have hfR := fun o => frozen_of_block H5.out.2.2.2.1 o
 have hmz : w2.heap.size < w5.heap.size := by omega
 by_cases hx : x = 0
 ·subst hx
  have hc5 : w5.cell? ⟨w2.heap.size, 5, none⟩ = some (.slice (some ⟨ob, off, none⟩) T.length tc) := hcM 5
  have hcd : w5.drew.cell? ⟨w2.heap.size, 5, none⟩ = some (.slice (some ⟨ob, off, none⟩) T.length tc) ∧ w5.drew.cell? ⟨ob, off, none⟩ = some (.slice (some ⟨b, o2, none⟩) rl rc) := ⟨hc5, hc15⟩
  go_wp2_with fail
  refine wp_region_noPanic ?_
  refine wp_region_held_drew (S := fun w' => w'.cell? ⟨w2.heap.size, 5, none⟩ = some (.slice (some ⟨ob, off, none⟩) T.length tc) ∧ w'.cell? ⟨ob, off, none⟩ = some (.slice (some ⟨b, o2, none⟩) rl rc)) (by kernel_rfl) hcd (fun hHeld => ?_)
  (refine wpAnyH_take (i := 0) (v := .pointer (some ⟨w2.heap.size, 5, none⟩)) rfl (by kernel_rfl) (by kernel_rfl) (by kernel_rfl) (fun _ _ _ h => h) (Or.inl ⟨by kernel_rfl, fun w hSw => by (try dsimp only at hSw); go_split_ands; go_simp⟩) (by assumption) ?_; simp only [Act.put, List.setIfInBounds_toArray, List.set_cons_zero, List.set_cons_succ])
  (refine wpAnyH_take (i := 1) (v := .slice (some ⟨ob, off, none⟩) T.length tc) rfl (by kernel_rfl) (by kernel_rfl) (by kernel_rfl) (fun _ _ _ h => h) (Or.inl ⟨by kernel_rfl, fun w hSw => by (try dsimp only at hSw); go_split_ands; go_simp⟩) (by assumption) ?_; simp only [Act.put, List.setIfInBounds_toArray, List.set_cons_zero, List.set_cons_succ])
  (refine wpAnyH_take (i := 2) (v := .pointer (some ⟨ob, off, none⟩)) rfl (by kernel_rfl) (by kernel_rfl) (by kernel_rfl) (fun _ _ _ h => h) (Or.inl ⟨by kernel_rfl, fun w hSw => by (try dsimp only at hSw); go_split_ands; go_simp⟩) (by assumption) ?_; simp only [Act.put, List.setIfInBounds_toArray, List.set_cons_zero, List.set_cons_succ])
  (refine wpAnyH_take (i := 3) (v := .slice (some ⟨b, o2, none⟩) rl rc) rfl (by kernel_rfl) (by kernel_rfl) (by kernel_rfl) (fun _ _ _ h => h) (Or.inl ⟨by kernel_rfl, fun w hSw => by (try dsimp only at hSw); go_split_ands; go_simp⟩) (by assumption) ?_; simp only [Act.put, List.setIfInBounds_toArray, List.set_cons_zero, List.set_cons_succ])
  (refine wpAnyH_take (i := 4) (v := .pointer (some ⟨SB, 0, none⟩)) rfl (by kernel_rfl) (by kernel_rfl) (by kernel_rfl) (fun _ _ _ h => h) (Or.inl ⟨by kernel_rfl, fun w hSw => by (try dsimp only at hSw); go_split_ands; go_simp⟩) (by assumption) ?_; simp only [Act.put, List.setIfInBounds_toArray, List.set_cons_zero, List.set_cons_succ])
  have hL := lit_V1 w5 2 [-1, 0, 2] (by simp)
  have hbi : Below w5.heap.size w5 (w5.alloc (.cells #[.int .i64 (-1), .int .i64 0, .int .i64 2] 2)).drew := ((Below.refl w5.heap.size w5).alloc (Nat.le_refl _) _).drew
  obtain ⟨wa, hwa⟩ : ∃ wa, wa = (w5.alloc (.cells #[.int .i64 (-1), .int .i64 0, .int .i64 2] 2)).drew := ⟨_, rfl⟩
  have hL : V1 (fun b => b = w5.heap.size) wa (.slice (some ⟨w5.heap.size, 0, none⟩) 3 3) [-1, 0, 2] := by rw [hwa]; exact hL
  rw [← hwa] at hbi
  have hca : wa.cell? ⟨w2.heap.size, 5, none⟩ = some (.slice (some ⟨ob, off, none⟩) T.length tc) ∧ wa.cell? ⟨ob, off, none⟩ = some (.slice (some ⟨b, o2, none⟩) rl rc) := ⟨by rw [(bcell hbi).1 _ _ hmz]; exact hc5, by rw [(bcell hbi).1 _ _ (by omega)]; exact hc15⟩
  have HA := Lib.hid (And.intro hL (And.intro hbi (And.intro (H5.out.1.below hbi) (And.intro (H5.out.2.1.then_below hbi) (And.intro (H5.out.2.2.2.2.1.below hbi) hwa))))); clear hL hbi hwa
  refine wpAnyH_ready (rs := [5]) (by kernel_rfl) (by simp) (AllReadyH.cons rfl (fun K hK => ?_) AllReadyH.nil)
  go_simp
  rw [← HA.out.2.2.2.2.2]
  (refine hK.out _ _ hca (fun hHeld => ?_); clear hK K; (try simp only [Act.put, List.setIfInBounds_toArray, List.set_cons_zero, List.set_cons_succ]))
  have hza : w5.heap.size ≤ wa.heap.size := HA.out.2.1.size
  refine wpAnyH_ready (rs := [6]) (by kernel_rfl) (by simp) (AllReadyH.cons rfl (fun K hK => ?_) AllReadyH.nil)
  go_simp
  go_at_call 129
  refine (l01Pick_any B0 SB _ [-1, 0, 2] wa HA.out.2.2.1 HA.out.1 (fun b hb => by omega) (by simp)).mono ?_
  rintro e' wb ⟨y, rfl, hy, hsb, hob⟩
  have hzb : wa.heap.size ≤ wb.heap.size := hob.size
  have hOb := HA.out.2.2.2.2.1.only hob (by omega)
  have hcb : wb.cell? ⟨w2.heap.size, 5, none⟩ = some (.slice (some ⟨ob, off, none⟩) T.length tc) ∧ wb.cell? ⟨ob, off, none⟩ = some (.slice (some ⟨b, o2, none⟩) rl rc) := ⟨cell_keep hca.1 (hob.block _ (by omega) (fun e => by omega)), cell_keep hca.2 (hob.block _ (by omega) (fun e => by omega))⟩
  have hMb := hob.heap (heap_below H5.out.2.2.1 HA.out.2.1 hmz) (fun e => by omega)
  have hRb := hob.heap (heap_below H5.out.2.2.2.1 HA.out.2.1 (by omega)) (fun e => by omega)
  have hCb := (H5.out.2.2.2.2.2.below HA.out.2.1).only hob (by omega)
  obtain ⟨ob', off', b', o2', rc', u', e1, hc1', hb5', hc2', hfz', hput'⟩ := hOb.put (i := 0) (k := 0) (by omega) (by rw [H3.out.2.2.2.2.2.2.1.1 0 (by omega)]; omega)
  simp only [Option.some.injEq, Addr.mk.injEq, and_true] at e1
  obtain ⟨rfl, rfl⟩ := e1
  simp only [Nat.add_zero] at hc1' hc2' hfz' hput'
  rw [hcb.2] at hc1'
  simp only [Option.some.injEq, Value.slice.injEq, Addr.mk.injEq, and_true] at hc1'
  obtain ⟨⟨rfl, rfl⟩, hrl2, rfl⟩ := hc1'
  obtain ⟨wc, hwc⟩ : ∃ wc, wc = wb.setCell ⟨b, o2, none⟩ (.int .i64 y) := ⟨_, rfl⟩
  have hfin := hput' y
  rw [← hwc] at hfin
  have hsc : Src B0 SB wc := hsb.only (b := b) (off := o2) (by omega) (by omega) _ hwc
  have hoc : Only SB W wc := by rw [hwc]; exact (HA.out.2.2.2.1.trans hob).setNew (by omega) _
  have hMc : wc.heap[w2.heap.size]? = _ := (show wc.heap[w2.heap.size]? = wb.heap[w2.heap.size]? by rw [hwc]; exact heap_setCell_other _ (by omega)).trans hMb
  have hRc : wc.heap[W.heap.size]? = _ := (show wc.heap[W.heap.size]? = wb.heap[W.heap.size]? by rw [hwc]; exact heap_setCell_other _ (by omega)).trans hRb
  have hCc : OV w3.heap.size wc (.slice ca cuts.length cc) cuts := hCb.keepb (fun i h1 h2 => by rw [hwc]; exact heap_setCell_other _ (by omega))
  have HC := Lib.hid (And.intro hfin (And.intro hsc (And.intro hoc (And.intro hwc (And.intro hMc (And.intro hRc hCc)))))); clear hfin hsc hoc hwc hput' hsb hob hOb hrl2 hMb hRb hCb hMc hRc hCc
  dsimp only
  (refine hK.out _ _ hcb (fun hHeld => ?_); clear hK K; (try simp only [Act.put, List.setIfInBounds_toArray, List.set_cons_zero, List.set_cons_succ]))
  (refine wpAnyH_ready (rs := [7]) (by kernel_rfl) (by simp) (AllReadyH.cons rfl (fun K hK => ?_) AllReadyH.nil); go_simp)
  (refine hK.out _ _ hcb (fun hHeld => ?_); clear hK K; (try simp only [Act.put, List.setIfInBounds_toArray, List.set_cons_zero, List.set_cons_succ]))
  (refine wpAnyH_ready (rs := [8]) (by kernel_rfl) (by simp) (AllReadyH.cons rfl (fun K hK => ?_) AllReadyH.nil); go_simp)
  rw [← HC.out.2.2.2.1]
  have hcc : wc.cell? ⟨w2.heap.size, 5, none⟩ = some (.slice (some ⟨ob, off, none⟩) T.length tc) ∧ wc.cell? ⟨ob, off, none⟩ = some (.slice (some ⟨b, o2, none⟩) rl rc) := by rw [HC.out.2.2.2.1]; exact ⟨cell_keep hcb.1 (heap_setCell_other _ (by omega)), cell_keep hcb.2 (heap_setCell_other _ (fun e => hbo e.symm))⟩
  (refine hK.out _ _ hcc (fun hHeld => ?_); clear hK K; (try simp only [Act.put, List.setIfInBounds_toArray, List.set_cons_zero, List.set_cons_succ]))
  refine wpAnyH_done (by kernel_rfl) (NoPanic.normal ?_) _
  have hcMc : ∀ o, wc.cell? ⟨w2.heap.size, o, none⟩ = (#[.int .i64 m.c, .int .i64 m.d, .int .i64 m.s, .int .i64 m.e, .int .i64 m.l, .slice (some ⟨ob, off, none⟩) T.length tc] : Array Value)[o]? := fun o => by rw [cell_of_block HC.out.2.2.2.2.1]
  have hcRc : ∀ o, wc.cell? ⟨W.heap.size, o, none⟩ = (#[.int .i64 0, .int .i64 0, .int .i64 0, .int .i64 0, .int .i64 0, .slice none 0 0] : Array Value)[o]? := fun o => by rw [cell_of_block HC.out.2.2.2.2.2.1]
  have hfRc := fun o => frozen_of_block HC.out.2.2.2.2.2.1 o
  clear hcM hcR hfR hcc hcb hca hcd hc5 hc15
  have hdone := putS_facts HC.out.2.1 HC.out.2.2.1 HC.out.2.2.2.2.2.1 (by omega) (Nat.le_refl _) (by omega) (.int .i64 m.c) (.int .i64 m.d) (.int .i64 m.s) (.int .i64 m.e) (.int .i64 m.l) (.slice (some ⟨ob, off, none⟩) T.length tc)
  obtain ⟨wz, hwz⟩ : ∃ wz, wz = putS wc W.heap.size (.int .i64 m.c) (.int .i64 m.d) (.int .i64 m.s) (.int .i64 m.e) (.int .i64 m.l) (.slice (some ⟨ob, off, none⟩) T.length tc) := ⟨_, rfl⟩
  rw [← hwz] at hdone
  obtain ⟨hd1, hd2, hd3, hd4⟩ := hdone
  have hFz : V2 (fun b => W.heap.size ≤ b) wz (.slice (some ⟨ob, off, none⟩) T.length tc) (setT T 0 0 y) := V2.mono (S := fun b => W1.heap.size ≤ b) (HC.out.1.v2) (fun b hb _ => by have hb : W1.heap.size ≤ b := hb; omega) (fun b hb _ => hd4 b (by have hb : W1.heap.size ≤ b := hb; omega))
  have hcz := (OV.keepb (w' := wz) (HC.out.2.2.2.2.2.2) (fun b h1 h2 => hd4 b (by omega))).base (show W.heap.size ≤ w3.heap.size by omega)
  have hz0 : wz.cell? ⟨W.heap.size, 0, none⟩ = some (.int .i64 m.c) := by rw [cell_of_block hd3]; rfl
  have hz1 : wz.cell? ⟨W.heap.size, 1, none⟩ = some (.int .i64 m.d) := by rw [cell_of_block hd3]; rfl
  have hz2 : wz.cell? ⟨W.heap.size, 2, none⟩ = some (.int .i64 m.s) := by rw [cell_of_block hd3]; rfl
  have hz3 : wz.cell? ⟨W.heap.size, 3, none⟩ = some (.int .i64 m.e) := by rw [cell_of_block hd3]; rfl
  have hz4 : wz.cell? ⟨W.heap.size, 4, none⟩ = some (.int .i64 m.l) := by rw [cell_of_block hd3]; rfl
  have hz5 : wz.cell? ⟨W.heap.size, 5, none⟩ = some (.slice (some ⟨ob, off, none⟩) T.length tc) := by rw [cell_of_block hd3]; rfl
  have HZ := Lib.hid (And.intro hd1 (And.intro hd2 (And.intro hFz (And.intro hcz (And.intro hwz (And.intro hz0 (And.intro hz1 (And.intro hz2 (And.intro hz3 (And.intro hz4 (And.intro hz5 hd4))))))))))); clear hd1 hd2 hd3 hd4 hFz hcz hwz hz0 hz1 hz2 hz3 hz4 hz5
  go_wp2_with fail
  have hwz := HZ.out.2.2.2.2.1
  unfold putS putR at hwz
  rw [← hwz]
  clear hwz
  obtain ⟨hd1, hd2, hFz, hcz, hwzz, hz0, hz1, hz2, hz3, hz4, hz5, hd4⟩ := HZ.out
  clear hwzz
  skip
  exact bodyPost_ret (v := .tuple #[.agg #[.int .i64 m.c, .int .i64 m.d, .int .i64 m.s, .int .i64 m.e, .int .i64 m.l, (.slice (some ⟨ob, off, none⟩) T.length tc)], .slice ca cuts.length cc]) (by simp [results, Tryz.results68, go_sem, hz0, hz1, hz2, hz3, hz4, hz5]) rfl ⟨m, _, _, (setT T 0 0 y), cuts, rfl, (smallM_ok H3.out.2.2.2.2.2.1.1), hFz, (by rw [setT_len]; omega), hcz.v2, by omega, hd1, hd2⟩
 ·have hx0d : (x == 0) = false := by simp [hx]
  by_cases hx1' : x = 1
  ·subst hx1'
   have hc5 : w5.cell? ⟨w2.heap.size, 5, none⟩ = some (.slice (some ⟨ob, off, none⟩) T.length tc) := hcM 5
   have hbD : Below w5.heap.size w5 w5.drew := (Below.refl _ _).drew
   have hcd : w5.drew.cell? ⟨w2.heap.size, 5, none⟩ = some (.slice (some ⟨ob, off, none⟩) T.length tc) := hc5
   go_wp2_with fail
   refine wp_region_noPanic ?_
   refine wp_region_held_drew (S := fun w' => w'.cell? ⟨w2.heap.size, 5, none⟩ = some (.slice (some ⟨ob, off, none⟩) T.length tc)) (by kernel_rfl) hcd (fun hHeld => ?_)
   (refine wpAnyH_take (i := 0) (v := .pointer (some ⟨SB, 0, none⟩)) rfl (by kernel_rfl) (by kernel_rfl) (by kernel_rfl) (fun _ _ _ h => h) (Or.inl ⟨by kernel_rfl, fun w hSw => by (try dsimp only at hSw); go_split_ands; go_simp⟩) (by assumption) ?_; simp only [Act.put, List.setIfInBounds_toArray, List.set_cons_zero, List.set_cons_succ])
   (refine wpAnyH_take (i := 2) (v := .pointer (some ⟨w2.heap.size, 5, none⟩)) rfl (by kernel_rfl) (by kernel_rfl) (by kernel_rfl) (fun _ _ _ h => h) (Or.inl ⟨by kernel_rfl, fun w hSw => by (try dsimp only at hSw); go_split_ands; go_simp⟩) (by assumption) ?_; simp only [Act.put, List.setIfInBounds_toArray, List.set_cons_zero, List.set_cons_succ])
   (refine wpAnyH_take (i := 3) (v := .slice (some ⟨ob, off, none⟩) T.length tc) rfl (by kernel_rfl) (by kernel_rfl) (by kernel_rfl) (fun _ _ _ h => h) (Or.inl ⟨by kernel_rfl, fun w hSw => by (try dsimp only at hSw); go_split_ands; go_simp⟩) (by assumption) ?_; simp only [Act.put, List.setIfInBounds_toArray, List.set_cons_zero, List.set_cons_succ])
   (refine wpAnyH_take (i := 5) (v := .slice ca cuts.length cc) rfl (by kernel_rfl) (by kernel_rfl) (by kernel_rfl) (fun _ _ _ h => h) (Or.inl ⟨by kernel_rfl, fun w hSw => by (try dsimp only at hSw); go_split_ands; go_simp⟩) (by assumption) ?_; simp only [Act.put, List.setIfInBounds_toArray, List.set_cons_zero, List.set_cons_succ])
   refine wpAnyH_ready (rs := [1]) (by kernel_rfl) (by simp) (AllReadyH.cons rfl (fun K hK => ?_) AllReadyH.nil)
   go_simp
   go_at_call 130
   refine (l02Draw_any B0 SB _ (H5.out.1.below hbD)).mono ?_
   rintro e' wb ⟨m2, rfl, hm2, hsb, hob⟩
   have hobD : Only SB w5 wb := (Only.of_below hbD).trans hob
   have hzb := hobD.size
   have hcb : wb.cell? ⟨w2.heap.size, 5, none⟩ = some (.slice (some ⟨ob, off, none⟩) T.length tc) := cell_keep hc5 (hobD.block _ (by omega) (fun e => by omega))
   have hRb := hobD.heap H5.out.2.2.2.1 (fun e => by omega)
   have hC := Lib.hid (And.intro hsb (And.intro (H5.out.2.1.trans hobD) (And.intro hRb (And.intro (H5.out.2.2.2.2.1.only hobD (by omega)) (And.intro (H5.out.2.2.2.2.2.only hobD (by omega)) hm2))))); clear hsb hob hobD hRb hm2 hcR hfR hcM hcd hc5 hc15
   have hcRc : ∀ o, wb.cell? ⟨W.heap.size, o, none⟩ = (#[.int .i64 0, .int .i64 0, .int .i64 0, .int .i64 0, .int .i64 0, .slice none 0 0] : Array Value)[o]? := fun o => by rw [cell_of_block hC.out.2.2.1]
   have hfRc := fun o => frozen_of_block hC.out.2.2.1 o
   dsimp only
   (refine hK.out _ _ hcb (fun hHeld => ?_); clear hK K; (try simp only [Act.put, List.setIfInBounds_toArray, List.set_cons_zero, List.set_cons_succ]))
   (refine wpAnyH_ready (rs := [4]) (by kernel_rfl) (by simp) (AllReadyH.cons rfl (fun K hK => ?_) AllReadyH.nil); go_simp)
   (refine hK.out _ _ hcb (fun hHeld => ?_); clear hK K; (try simp only [Act.put, List.setIfInBounds_toArray, List.set_cons_zero, List.set_cons_succ]))
   (refine wpAnyH_ready (rs := [6]) (by kernel_rfl) (by simp) (AllReadyH.cons rfl (fun K hK => ?_) AllReadyH.nil); go_simp)
   have hdone := putS_facts hC.out.1 hC.out.2.1 hC.out.2.2.1 (by omega) (Nat.le_refl _) (by omega) (.int .i64 m2.c) (.int .i64 m2.d) (.int .i64 m2.s) (.int .i64 m2.e) (.int .i64 m2.l) (.slice (some ⟨ob, off, none⟩) T.length tc)
   obtain ⟨wz, hwz⟩ : ∃ wz, wz = putS wb W.heap.size (.int .i64 m2.c) (.int .i64 m2.d) (.int .i64 m2.s) (.int .i64 m2.e) (.int .i64 m2.l) (.slice (some ⟨ob, off, none⟩) T.length tc) := ⟨_, rfl⟩
   rw [← hwz] at hdone
   obtain ⟨hd1, hd2, hd3, hd4⟩ := hdone
   have hFz : V2 (fun b => W.heap.size ≤ b) wz (.slice (some ⟨ob, off, none⟩) T.length tc) T := V2.mono (S := fun b => W1.heap.size ≤ b) (hC.out.2.2.2.1.v2) (fun b hb _ => by have hb : W1.heap.size ≤ b := hb; omega) (fun b hb _ => hd4 b (by have hb : W1.heap.size ≤ b := hb; omega))
   have hcz := (OV.keepb (w' := wz) (hC.out.2.2.2.2.1) (fun b h1 h2 => hd4 b (by omega))).base (show W.heap.size ≤ w3.heap.size by omega)
   have hz0 : wz.cell? ⟨W.heap.size, 0, none⟩ = some (.int .i64 m2.c) := by rw [cell_of_block hd3]; rfl
   have hz1 : wz.cell? ⟨W.heap.size, 1, none⟩ = some (.int .i64 m2.d) := by rw [cell_of_block hd3]; rfl
   have hz2 : wz.cell? ⟨W.heap.size, 2, none⟩ = some (.int .i64 m2.s) := by rw [cell_of_block hd3]; rfl
   have hz3 : wz.cell? ⟨W.heap.size, 3, none⟩ = some (.int .i64 m2.e) := by rw [cell_of_block hd3]; rfl
   have hz4 : wz.cell? ⟨W.heap.size, 4, none⟩ = some (.int .i64 m2.l) := by rw [cell_of_block hd3]; rfl
   have hz5 : wz.cell? ⟨W.heap.size, 5, none⟩ = some (.slice (some ⟨ob, off, none⟩) T.length tc) := by rw [cell_of_block hd3]; rfl
   have HZ := Lib.hid (And.intro hd1 (And.intro hd2 (And.intro hFz (And.intro hcz (And.intro hwz (And.intro hz0 (And.intro hz1 (And.intro hz2 (And.intro hz3 (And.intro hz4 (And.intro hz5 hd4))))))))))); clear hd1 hd2 hd3 hd4 hFz hcz hwz hz0 hz1 hz2 hz3 hz4 hz5
   skip
   have hwz := HZ.out.2.2.2.2.1
   unfold putS putR at hwz
   rw [← hwz]
   clear hwz
   obtain ⟨hd1, hd2, hFz, hcz, hwzz, hz0, hz1, hz2, hz3, hz4, hz5, hd4⟩ := HZ.out
   clear hwzz
   (have hcw := cell_keep hcb (hd4 _ (by omega)); (refine hK.out _ _ hcw (fun hHeld => ?_); clear hK K; (try simp only [Act.put, List.setIfInBounds_toArray, List.set_cons_zero, List.set_cons_succ])); (refine wpAnyH_ready (rs := [7]) (by kernel_rfl) (by simp) (AllReadyH.cons rfl (fun K hK => ?_) AllReadyH.nil); go_simp); (refine hK.out _ _ hcw (fun hHeld => ?_); clear hK K; (try simp only [Act.put, List.setIfInBounds_toArray, List.set_cons_zero, List.set_cons_succ])); refine wpAnyH_done (by kernel_rfl) (NoPanic.normal ?_) _; go_wp2_with fail)
   exact bodyPost_ret (v := .tuple #[.agg #[.int .i64 m2.c, .int .i64 m2.d, .int .i64 m2.s, .int .i64 m2.e, .int .i64 m2.l, (.slice (some ⟨ob, off, none⟩) T.length tc)], .slice ca cuts.length cc]) (by simp [results, Tryz.results68, go_sem, hz0, hz1, hz2, hz3, hz4, hz5]) rfl ⟨m2, _, _, T, cuts, rfl, hC.out.2.2.2.2.2, hFz, (by omega), hcz.v2, by omega, hd1, hd2⟩
  ·have hx1d : (x == 1) = false := by simp [hx1']
   by_cases hx2 : x = 2
   ·subst hx2
    have hcA : ∀ w' : World, w'.heap[w2.heap.size]? = w5.heap[w2.heap.size]? → w'.cell? ⟨w2.heap.size, 0, none⟩ = some (.int .i64 m.c) ∧ w'.cell? ⟨w2.heap.size, 1, none⟩ = some (.int .i64 m.d) ∧ w'.cell? ⟨w2.heap.size, 2, none⟩ = some (.int .i64 m.s) ∧ w'.cell? ⟨w2.heap.size, 3, none⟩ = some (.int .i64 m.e) ∧ w'.cell? ⟨w2.heap.size, 4, none⟩ = some (.int .i64 m.l) := fun w' hw => by
     refine ⟨?_, ?_, ?_, ?_, ?_⟩ <;> exact cell_keep (hcM _) hw
    have hbD : Below w5.heap.size w5 w5.drew := (Below.refl _ _).drew
    have hcd := hcA w5.drew rfl
    clear hx hx1'
    go_wp2_with fail
    refine wp_region_noPanic ?_
    refine wp_region_held_drew (S := fun w' => w'.cell? ⟨w2.heap.size, 0, none⟩ = some (.int .i64 m.c) ∧ w'.cell? ⟨w2.heap.size, 1, none⟩ = some (.int .i64 m.d) ∧ w'.cell? ⟨w2.heap.size, 2, none⟩ = some (.int .i64 m.s) ∧ w'.cell? ⟨w2.heap.size, 3, none⟩ = some (.int .i64 m.e) ∧ w'.cell? ⟨w2.heap.size, 4, none⟩ = some (.int .i64 m.l)) (by kernel_rfl) hcd (fun hHeld => ?_)
    (refine wpAnyH_take (i := 0) (v := .pointer (some ⟨w2.heap.size, 0, none⟩)) rfl (by kernel_rfl) (by kernel_rfl) (by kernel_rfl) (fun _ _ _ h => h) (Or.inl ⟨by kernel_rfl, fun w hSw => by (try dsimp only at hSw); go_split_ands; go_simp⟩) (by assumption) ?_; simp only [Act.put, List.setIfInBounds_toArray, List.set_cons_zero, List.set_cons_succ])
    (refine wpAnyH_take (i := 1) (v := .agg #[.int .i64 m.c, .int .i64 m.d, .int .i64 m.s, .int .i64 m.e, .int .i64 m.l]) rfl (by kernel_rfl) (by kernel_rfl) (by kernel_rfl) (fun _ _ _ h => h) (Or.inl ⟨by kernel_rfl, fun w hSw => by (try dsimp only at hSw); go_split_ands; go_simp⟩) (by assumption) ?_; simp only [Act.put, List.setIfInBounds_toArray, List.set_cons_zero, List.set_cons_succ])
    (refine wpAnyH_take (i := 2) (v := .pointer (some ⟨SB, 0, none⟩)) rfl (by kernel_rfl) (by kernel_rfl) (by kernel_rfl) (fun _ _ _ h => h) (Or.inl ⟨by kernel_rfl, fun w hSw => by (try dsimp only at hSw); go_split_ands; go_simp⟩) (by assumption) ?_; simp only [Act.put, List.setIfInBounds_toArray, List.set_cons_zero, List.set_cons_succ])
    (refine wpAnyH_take (i := 5) (v := .slice ca cuts.length cc) rfl (by kernel_rfl) (by kernel_rfl) (by kernel_rfl) (fun _ _ _ h => h) (Or.inl ⟨by kernel_rfl, fun w hSw => by (try dsimp only at hSw); go_split_ands; go_simp⟩) (by assumption) ?_; simp only [Act.put, List.setIfInBounds_toArray, List.set_cons_zero, List.set_cons_succ])
    refine wpAnyH_ready (rs := [3]) (by kernel_rfl) (by simp) (AllReadyH.cons rfl (fun K hK => ?_) AllReadyH.nil)
    go_simp
    go_at_call 131
    refine (l11Draw_any B0 SB _ (H5.out.1.below hbD)).mono ?_
    rintro e' wb ⟨tv, T2, rfl, ⟨hV2, hT2⟩, hsb, hob⟩
    obtain ⟨ta2, tc2, rfl, _⟩ := hV2.form
    have hobD : Only SB w5 wb := (Only.of_below hbD).trans hob
    have hzb := hobD.size
    have hcb := hcA wb (hobD.block _ (by omega) (fun e => by omega))
    have hRb := hobD.heap H5.out.2.2.2.1 (fun e => by omega)
    have hV2' : V2 (fun b => W1.heap.size ≤ b) wb (.slice ta2 T2.length tc2) T2 := hV2.mono (fun b hb _ => by have hb : w5.drew.heap.size ≤ b := hb; have hb : w5.heap.size ≤ b := hb; omega) (fun _ _ _ => rfl)
    have hC := Lib.hid (And.intro hsb (And.intro (H5.out.2.1.trans hobD) (And.intro hRb (And.intro hV2' (H5.out.2.2.2.2.2.only hobD (by omega)))))); clear hsb hob hobD hRb hcR hfR hcM hcd hcA hc15 hV2 hV2'
    have hcRc : ∀ o, wb.cell? ⟨W.heap.size, o, none⟩ = (#[.int .i64 0, .int .i64 0, .int .i64 0, .int .i64 0, .int .i64 0, .slice none 0 0] : Array Value)[o]? := fun o => by rw [cell_of_block hC.out.2.2.1]
    have hfRc := fun o => frozen_of_block hC.out.2.2.1 o
    dsimp only
    (refine hK.out _ _ hcb (fun hHeld => ?_); clear hK K; (try simp only [Act.put, List.setIfInBounds_toArray, List.set_cons_zero, List.set_cons_succ]))
    (refine wpAnyH_ready (rs := [4]) (by kernel_rfl) (by simp) (AllReadyH.cons rfl (fun K hK => ?_) AllReadyH.nil); go_simp)
    (refine hK.out _ _ hcb (fun hHeld => ?_); clear hK K; (try simp only [Act.put, List.setIfInBounds_toArray, List.set_cons_zero, List.set_cons_succ]))
    (refine wpAnyH_ready (rs := [6]) (by kernel_rfl) (by simp) (AllReadyH.cons rfl (fun K hK => ?_) AllReadyH.nil); go_simp)
    have hdone := putS_facts hC.out.1 hC.out.2.1 hC.out.2.2.1 (by omega) (Nat.le_refl _) (by omega) (.int .i64 m.c) (.int .i64 m.d) (.int .i64 m.s) (.int .i64 m.e) (.int .i64 m.l) (.slice ta2 T2.length tc2)
    obtain ⟨wz, hwz⟩ : ∃ wz, wz = putS wb W.heap.size (.int .i64 m.c) (.int .i64 m.d) (.int .i64 m.s) (.int .i64 m.e) (.int .i64 m.l) (.slice ta2 T2.length tc2) := ⟨_, rfl⟩
    rw [← hwz] at hdone
    obtain ⟨hd1, hd2, hd3, hd4⟩ := hdone
    have hFz : V2 (fun b => W.heap.size ≤ b) wz (.slice ta2 T2.length tc2) T2 := V2.mono (S := fun b => W1.heap.size ≤ b) hC.out.2.2.2.1 (fun b hb _ => by have hb : W1.heap.size ≤ b := hb; omega) (fun b hb _ => hd4 b (by have hb : W1.heap.size ≤ b := hb; omega))
    have hcz := (OV.keepb (w' := wz) (hC.out.2.2.2.2) (fun b h1 h2 => hd4 b (by omega))).base (show W.heap.size ≤ w3.heap.size by omega)
    have hz0 : wz.cell? ⟨W.heap.size, 0, none⟩ = some (.int .i64 m.c) := by rw [cell_of_block hd3]; rfl
    have hz1 : wz.cell? ⟨W.heap.size, 1, none⟩ = some (.int .i64 m.d) := by rw [cell_of_block hd3]; rfl
    have hz2 : wz.cell? ⟨W.heap.size, 2, none⟩ = some (.int .i64 m.s) := by rw [cell_of_block hd3]; rfl
    have hz3 : wz.cell? ⟨W.heap.size, 3, none⟩ = some (.int .i64 m.e) := by rw [cell_of_block hd3]; rfl
    have hz4 : wz.cell? ⟨W.heap.size, 4, none⟩ = some (.int .i64 m.l) := by rw [cell_of_block hd3]; rfl
    have hz5 : wz.cell? ⟨W.heap.size, 5, none⟩ = some (.slice ta2 T2.length tc2) := by rw [cell_of_block hd3]; rfl
    have HZ := Lib.hid (And.intro hd1 (And.intro hd2 (And.intro hFz (And.intro hcz (And.intro hwz (And.intro hz0 (And.intro hz1 (And.intro hz2 (And.intro hz3 (And.intro hz4 (And.intro hz5 hd4))))))))))); clear hd1 hd2 hd3 hd4 hFz hcz hwz hz0 hz1 hz2 hz3 hz4 hz5
    skip
    have hwz := HZ.out.2.2.2.2.1
    unfold putS putR at hwz
    rw [← hwz]
    clear hwz
    obtain ⟨hd1, hd2, hFz, hcz, hwzz, hz0, hz1, hz2, hz3, hz4, hz5, hd4⟩ := HZ.out
    clear hwzz
    (have hcw := And.intro (cell_keep hcb.1 (hd4 _ (by omega))) (And.intro (cell_keep hcb.2.1 (hd4 _ (by omega))) (And.intro (cell_keep hcb.2.2.1 (hd4 _ (by omega))) (And.intro (cell_keep hcb.2.2.2.1 (hd4 _ (by omega))) (cell_keep hcb.2.2.2.2 (hd4 _ (by omega)))))); (refine hK.out _ _ hcw (fun hHeld => ?_); clear hK K; (try simp only [Act.put, List.setIfInBounds_toArray, List.set_cons_zero, List.set_cons_succ])); (refine wpAnyH_ready (rs := [7]) (by kernel_rfl) (by simp) (AllReadyH.cons rfl (fun K hK => ?_) AllReadyH.nil); go_simp); (refine hK.out _ _ hcw (fun hHeld => ?_); clear hK K; (try simp only [Act.put, List.setIfInBounds_toArray, List.set_cons_zero, List.set_cons_succ])); refine wpAnyH_done (by kernel_rfl) (NoPanic.normal ?_) _; go_wp2_with fail)
    exact bodyPost_ret (v := .tuple #[.agg #[.int .i64 m.c, .int .i64 m.d, .int .i64 m.s, .int .i64 m.e, .int .i64 m.l, (.slice ta2 T2.length tc2)], .slice ca cuts.length cc]) (by simp [results, Tryz.results68, go_sem, hz0, hz1, hz2, hz3, hz4, hz5]) rfl ⟨m, _, _, T2, cuts, rfl, (smallM_ok H3.out.2.2.2.2.2.1.1), hFz, (by omega), hcz.v2, by omega, hd1, hd2⟩
   ·have hx2d : (x == 2) = false := by simp [hx2]
    clear hx hx1' hx2
    have hdone := putS_facts H5.out.1 H5.out.2.1 H5.out.2.2.2.1 (by omega) (Nat.le_refl _) (by omega) (.int .i64 m.c) (.int .i64 m.d) (.int .i64 m.s) (.int .i64 m.e) (.int .i64 m.l) (.slice (some ⟨ob, off, none⟩) T.length tc)
    obtain ⟨wz, hwz⟩ : ∃ wz, wz = putS w5 W.heap.size (.int .i64 m.c) (.int .i64 m.d) (.int .i64 m.s) (.int .i64 m.e) (.int .i64 m.l) (.slice (some ⟨ob, off, none⟩) T.length tc) := ⟨_, rfl⟩
    rw [← hwz] at hdone
    obtain ⟨hd1, hd2, hd3, hd4⟩ := hdone
    have hFz : V2 (fun b => W.heap.size ≤ b) wz (.slice (some ⟨ob, off, none⟩) T.length tc) T := V2.mono (S := fun b => W1.heap.size ≤ b) (H5.out.2.2.2.2.1.v2) (fun b hb _ => by have hb : W1.heap.size ≤ b := hb; omega) (fun b hb _ => hd4 b (by have hb : W1.heap.size ≤ b := hb; omega))
    have hcz := (OV.keepb (w' := wz) (H5.out.2.2.2.2.2) (fun b h1 h2 => hd4 b (by omega))).base (show W.heap.size ≤ w3.heap.size by omega)
    have hz0 : wz.cell? ⟨W.heap.size, 0, none⟩ = some (.int .i64 m.c) := by rw [cell_of_block hd3]; rfl
    have hz1 : wz.cell? ⟨W.heap.size, 1, none⟩ = some (.int .i64 m.d) := by rw [cell_of_block hd3]; rfl
    have hz2 : wz.cell? ⟨W.heap.size, 2, none⟩ = some (.int .i64 m.s) := by rw [cell_of_block hd3]; rfl
    have hz3 : wz.cell? ⟨W.heap.size, 3, none⟩ = some (.int .i64 m.e) := by rw [cell_of_block hd3]; rfl
    have hz4 : wz.cell? ⟨W.heap.size, 4, none⟩ = some (.int .i64 m.l) := by rw [cell_of_block hd3]; rfl
    have hz5 : wz.cell? ⟨W.heap.size, 5, none⟩ = some (.slice (some ⟨ob, off, none⟩) T.length tc) := by rw [cell_of_block hd3]; rfl
    have HZ := Lib.hid (And.intro hd1 (And.intro hd2 (And.intro hFz (And.intro hcz (And.intro hwz (And.intro hz0 (And.intro hz1 (And.intro hz2 (And.intro hz3 (And.intro hz4 (And.intro hz5 hd4))))))))))); clear hd1 hd2 hd3 hd4 hFz hcz hwz hz0 hz1 hz2 hz3 hz4 hz5
    go_wp2_with fail
    have hwz := HZ.out.2.2.2.2.1
    unfold putS putR at hwz
    rw [← hwz]
    clear hwz
    obtain ⟨hd1, hd2, hFz, hcz, hwzz, hz0, hz1, hz2, hz3, hz4, hz5, hd4⟩ := HZ.out
    clear hwzz
    skip
    exact bodyPost_ret (v := .tuple #[.agg #[.int .i64 m.c, .int .i64 m.d, .int .i64 m.s, .int .i64 m.e, .int .i64 m.l, (.slice (some ⟨ob, off, none⟩) T.length tc)], .slice ca cuts.length cc]) (by simp [results, Tryz.results68, go_sem, hz0, hz1, hz2, hz3, hz4, hz5]) rfl ⟨m, _, _, T, cuts, rfl, (smallM_ok H3.out.2.2.2.2.2.1.1), hFz, (by omega), hcz.v2, by omega, hd1, hd2⟩
/-- The tries, whether the limit was met, and what is kept of the designs. -/
abbrev GSt (τ : Type) := Nat × Bool × τ
section
variable {τ : Type}
def goStep (limit : Nat) (stay : List (List Int) → List Int → Bool) (rec : List (List Int) → GSt τ → GSt τ × Bool) (cuts : List (List Int)) (s : GSt τ) (key : List Int) : GSt τ × Bool :=
 if s.1 = limit then ((s.1, true, s.2.2), false)
 else if stay cuts key = true then rec (cuts ++ [key]) (s.1 + 1, s.2.1, s.2.2) else ((s.1 + 1, s.2.1, s.2.2), true)
def goF (limit : Nat) (stay : List (List Int) → List Int → Bool) (vis : τ → List (List Int) → τ × Bool) (keys : List (List Int)) : Nat → List (List Int) → GSt τ → GSt τ × Bool
 | 0 => fun cuts s => ((s.1, s.2.1, (vis s.2.2 cuts).1), (vis s.2.2 cuts).2)
 | d + 1 => fun cuts s => runL (goStep limit stay (goF limit stay vis keys d) cuts) s keys
end
def openP (n : Nat) (t : List (List Int)) (cuts : List (List Int)) : Bool := decide ((falseL n t cuts).length = 0)
def stayP (n : Nat) (t : List (List Int)) (cuts : List (List Int)) (key : List Int) : Bool := openP n t (cuts ++ [key])
/-- At most so many designs are kept. -/
def visK (most : Int) (s : List (List (List Int))) (design : List (List Int)) : List (List (List Int)) × Bool := (s ++ [design], decide ((s.length : Int) + 1 < most))
def firstF (n : Nat) (t keys cuts : List (List Int)) (most : Int) (limit : Nat) : GSt (List (List (List Int))) :=
 if 0 < most then (goF limit (stayP n t) (visK most) keys (t.length - cuts.length) cuts (0, false, [])).1 else (0, false, [])
/-- The search behind the key of a row, row by row. -/
def backF (m : Mk) (n : Nat) (t cuts : List (List Int)) (limit row : Nat) (s : GSt (List (List (List Int)))) : GSt (List (List (List Int))) × Bool :=
 runL (goStep limit (stayP n t) (goF limit (stayP n t) (visK 1) (keysOf m) (t.length - row - 1)) (cuts.take row)) s (behind m (getl cuts row))
def nextF (m : Mk) (n : Nat) (t cuts : List (List Int)) (limit : Nat) : Nat → GSt (List (List (List Int))) → GSt (List (List (List Int)))
 | 0, s => s
 | r + 1, s => if (backF m n t cuts limit r s).2 = true then nextF m n t cuts limit r (backF m n t cuts limit r s).1 else (backF m n t cuts limit r s).1
/-- Nothing is found and the limit is not met, exactly as long as the search goes on. -/
def actK (s : GSt (List (List (List Int)))) : Prop := s.2.1 = false ∧ s.2.2 = []
theorem goStep_actK {limit : Nat} {stay : List (List Int) → List Int → Bool} {rec : List (List Int) → GSt (List (List (List Int))) → GSt (List (List (List Int))) × Bool}
  (hr : ∀ c s, actK s → ((rec c s).2 = true ↔ actK (rec c s).1)) {cuts : List (List Int)} {s : GSt (List (List (List Int)))} {key : List Int} (h : actK s) : (goStep limit stay rec cuts s key).2 = true ↔ actK (goStep limit stay rec cuts s key).1 := by
 unfold goStep
 split
 ·constructor
  ·intro h; cases h
  ·intro h; have := h.1; cases this
 ·split
  ·exact hr _ _ h
  ·exact ⟨fun _ => h, fun _ => rfl⟩
theorem runL_actK {f : GSt (List (List (List Int))) → List Int → GSt (List (List (List Int))) × Bool} (hf : ∀ s k, actK s → ((f s k).2 = true ↔ actK (f s k).1)) : ∀ (l : List (List Int)) (s : GSt (List (List (List Int)))), actK s → ((runL f s l).2 = true ↔ actK (runL f s l).1)
 | [], s, h => ⟨fun _ => h, fun _ => rfl⟩
 | k :: l, s, h => by
   unfold runL
   by_cases hk : (f s k).2 = true
   ·rw [if_pos hk]; exact runL_actK hf l _ ((hf s k h).1 hk)
   ·rw [if_neg hk]
    exact ⟨fun h2 => (by cases h2), fun h2 => absurd ((hf s k h).2 h2) hk⟩
theorem goF_actK {limit : Nat} {stay : List (List Int) → List Int → Bool} {keys : List (List Int)} : ∀ {d : Nat} {cuts : List (List Int)} {s : GSt (List (List (List Int)))}, actK s → ((goF limit stay (visK 1) keys d cuts s).2 = true ↔ actK (goF limit stay (visK 1) keys d cuts s).1)
 | 0, cuts, s, h => by
   constructor
   ·intro h2
    have h3 : decide ((s.2.2.length : Int) + 1 < 1) = true := h2
    have := of_decide_eq_true h3
    omega
   ·intro h2
    have h3 : s.2.2 ++ [cuts] = [] := h2.2
    simp at h3
 | d + 1, cuts, s, h => runL_actK (fun s k hs => goStep_actK (fun c s hs => goF_actK hs) hs) keys s h
theorem backF_actK {m : Mk} {n : Nat} {t cuts : List (List Int)} {limit row : Nat} {s : GSt (List (List (List Int)))} (h : actK s) : (backF m n t cuts limit row s).2 = true ↔ actK (backF m n t cuts limit row s).1 :=
 runL_actK (fun s k hs => goStep_actK (fun c s hs => goF_actK hs) hs) _ s h
/-- Cuts, one more. -/
structure PartOk (m : Mk) (t cuts : List (List Int)) : Prop where
 sys : isSys m t = true
 few : cuts.length ≤ t.length
 keys : allKeys m cuts = true
theorem PartOk.c {m : Mk} {t cuts : List (List Int)} (h : PartOk m t cuts) : partC m t cuts = 0 := partC_ok.2 ⟨h.sys, h.few, h.keys⟩
theorem PartOk.fits {m : Mk} {t cuts : List (List Int)} (h : PartOk m t cuts) : Fits m t cuts := fits_of h.c
theorem PartOk.more {m : Mk} {t cuts : List (List Int)} (h : PartOk m t cuts) (hl : cuts.length < t.length) {key : List Int} (hk : isKeyB m key = true) : PartOk m t (cuts ++ [key]) := by
 refine ⟨h.sys, by simp; omega, allKeys_iff.2 fun k hkl => ?_⟩
 by_cases e : k < cuts.length
 ·rw [getl_append1 e]; exact allKeys_iff.1 h.keys k e
 ·have e2 : k = cuts.length := by simp at hkl; omega
  subst e2
  rw [getl_last]; exact hk
theorem PartOk.nil {m : Mk} {t : List (List Int)} (h : isSys m t = true) : PartOk m t [] := ⟨h, Nat.zero_le _, allKeys_iff.2 fun k hk => by simp at hk⟩
theorem own_V2S {S : Nat → Prop} {w : World} {B : Nat} {e : TypeId} {v : Value} {n : Nat} {vs : List Value} {ls : List (List Int)} (h : w.ownsRow B e 1 v n vs) (hr : RowVs S w vs ls) : V2 (fun b => S b ∨ B ≤ b) w v ls := by
 obtain ⟨hl, h⟩ := h
 have hn : n = ls.length := by have := hr.1; omega
 subst hn
 rcases h with ⟨rfl, h0⟩ | ⟨g, cap, cur, rfl, hb, hh, hc, hm, hs, ht⟩
 ·exact ⟨none, 0, by rw [h0], by omega, Nat.zero_le _, fun k hk => by omega⟩
 ·refine ⟨_, _, rfl, hc, hm, fun k hk => ?_⟩
  obtain ⟨ev, h1, h2⟩ := hr.2 k hk
  refine ⟨g, 0, ev, rfl, .inr hb, ?_, h2.mono (fun b hb _ => .inl hb) (fun _ _ _ => rfl)⟩
  have h3 : (cur.toList.take (ls.length * 1))[k]? = vs[k]? := by rw [ht]
  rw [List.getElem?_take, if_pos (by omega), h1] at h3
  rw [cell_of_block hh, Nat.zero_add, ← Array.getElem?_toList, h3]
abbrev DSt := GSt (List (List (List Int)))
/-- The code of a system, partial cuts and a limit. -/
def searchC (m : Mk) (t cuts : List (List Int)) (limit : Int) : Int :=
 if partC m t cuts ≠ 0 then partC m t cuts else if ¬ (0 ≤ limit ∧ limit ≤ 4000) then 2 else if (falseL m.c.toNat t cuts).length ≠ 0 then 5 else 0
theorem searchC_ok {m : Mk} {t cuts : List (List Int)} {limit : Int} : searchC m t cuts limit = 0 ↔ PartOk m t cuts ∧ (0 ≤ limit ∧ limit ≤ 4000) ∧ falseL m.c.toNat t cuts = [] := by
 unfold searchC
 constructor
 ·intro h
  by_cases h1 : partC m t cuts ≠ 0
  ·rw [if_pos h1] at h; exact absurd h h1
  ·rw [if_neg h1] at h
   have h1' := partC_ok.1 (Decidable.not_not.1 h1)
   by_cases h2 : 0 ≤ limit ∧ limit ≤ 4000
   ·rw [if_neg (by simpa using h2)] at h
    by_cases h3 : (falseL m.c.toNat t cuts).length ≠ 0
    ·rw [if_pos h3] at h; cases h
    ·exact ⟨⟨h1'.1, h1'.2.1, h1'.2.2⟩, h2, List.length_eq_zero_iff.1 (Decidable.not_not.1 h3)⟩
   ·rw [if_pos h2] at h; cases h
 ·rintro ⟨h1, h2, h3⟩
  rw [if_neg (by rw [h1.c]; simp), if_neg (by simpa using h2), if_neg (by rw [h3]; simp)]
def pickA (s : DSt) : List (List Int) × Int × Int :=
 match s.2.2 with
 | d :: _ => (d, (s.1 : Int), 0)
 | [] => if s.2.1 = true then ([], 0, 3) else ([], 0, 4)
def findAns (m : Mk) (t cuts : List (List Int)) (limit : Int) : List (List Int) × Int × Int :=
 if searchC m t cuts limit ≠ 0 then ([], 0, searchC m t cuts limit) else pickA (firstF m.c.toNat t (keysOf m) cuts 1 limit.toNat)
/-- A design of the search: cuts for all rows. -/
structure DesOk (m : Mk) (t ds : List (List Int)) : Prop where
 part : PartOk m t ds
 full : ds.length ≤ t.length
theorem DesOk.few {m : Mk} {t ds : List (List Int)} (h : DesOk m t ds) : ds.length ≤ 10 ∧ ∀ k, k < ds.length → (getl ds k).length ≤ 6 ∧ getl ds k ≠ [] := by
 have hf := h.part.fits
 have hr := hf.rows
 have hm := Mk.ok_iff.1 hf.ok
 refine ⟨by have := h.full; omega, fun k hk => ?_⟩
 have := hf.lens k hk
 exact ⟨by omega, fun e => by rw [e] at this; simp at this; omega⟩
theorem goF_des {limit n : Nat} {m : Mk} {t : List (List Int)} {most : Int} (hc : 0 ≤ m.c) : ∀ {d : Nat} {cuts : List (List Int)} {s : DSt}, cuts.length + d = t.length →
  DesOk m t cuts → (∀ x ∈ s.2.2, DesOk m t x) → ∀ x ∈ (goF limit (stayP n t) (visK most) (keysOf m) d cuts s).1.2.2, DesOk m t x
 | 0, cuts, s, _, hc, hs => by
   intro x hx
   simp only [goF, visK, List.mem_append, List.mem_singleton] at hx
   rcases hx with hx | rfl
   ·exact hs x hx
   ·exact hc
 | d + 1, cuts, s, hl, hcu, hs => by
   show ∀ x ∈ (runL (goStep limit (stayP n t) (goF limit (stayP n t) (visK most) (keysOf m) d) cuts) s (keysOf m)).1.2.2, DesOk m t x
   exact goL_des hc hl hcu (keysOf m) (fun k hk => (mem_keysOf hc).1 hk) (fun key s hk hs => goF_des hc (by simp; omega) ⟨hcu.part.more (by omega) hk, by simp; omega⟩ hs) s hs
where
 goL_des {limit n : Nat} {m : Mk} {t : List (List Int)} {most : Int} (hc : 0 ≤ m.c) {d : Nat} {cuts : List (List Int)} (hl : cuts.length + (d + 1) = t.length) (hcu : DesOk m t cuts) (l : List (List Int)) (hk : ∀ k ∈ l, isKeyB m k = true)
   (ih : ∀ key (s : DSt), isKeyB m key = true → (∀ x ∈ s.2.2, DesOk m t x) → ∀ x ∈ (goF limit (stayP n t) (visK most) (keysOf m) d (cuts ++ [key]) s).1.2.2, DesOk m t x) (s : DSt) (hs : ∀ x ∈ s.2.2, DesOk m t x) :
   ∀ x ∈ (runL (goStep limit (stayP n t) (goF limit (stayP n t) (visK most) (keysOf m) d) cuts) s l).1.2.2, DesOk m t x := by
  induction l generalizing s with
  | nil => exact hs
  | cons k l ihl =>
    have h1 : ∀ x ∈ (goStep limit (stayP n t) (goF limit (stayP n t) (visK most) (keysOf m) d) cuts s k).1.2.2, DesOk m t x := by
     unfold goStep
     split
     ·exact hs
     ·split
      ·exact ih k _ (hk k (List.mem_cons_self ..)) hs
      ·exact hs
    unfold runL
    split
    ·exact ihl (fun k hk' => hk k (List.mem_cons_of_mem _ hk')) _ h1
    ·exact h1
theorem firstF_des {m : Mk} {n : Nat} {t cuts : List (List Int)} {most : Int} {limit : Nat} (h : PartOk m t cuts) : ∀ x ∈ (firstF n t (keysOf m) cuts most limit).2.2, DesOk m t x := by
 have hm := Mk.ok_iff.1 h.fits.ok
 have hfew := h.few
 unfold firstF
 split
 ·exact goF_des (by omega) (by omega) ⟨h, h.few⟩ (fun x hx => by cases hx)
 ·intro x hx; cases hx
set_option maxRecDepth 100000 in
theorem l16Open_b {S S' : Nat → Prop} (m : Mk) (u v : Value) (t cuts : List (List Int)) (n : Nat) (W : World) (r : Bool) (hr : openP n t cuts = r) (hf : Fits m t cuts) (hn : (n : Int) = m.c) (h : V2 S W u t) (hc : V2 S' W v cuts) :
  Calls Tryz.prog 191 #[.agg #[.int .i64 m.c, .int .i64 m.d, .int .i64 m.s, .int .i64 m.e, .int .i64 m.l, u], v] W fun e' w' => e' = .returned (.bool r) ∧ Below W.heap.size W w' := by
 subst hr
 obtain ⟨a, c, rfl, hmx⟩ := h.form
 obtain ⟨a', c', rfl, hmx'⟩ := hc.form
 obtain ⟨W1, hW1, hB01, hz01, HZ01, hc01, hh01⟩ := box_facts W #[.int .i64 m.c, .int .i64 m.d, .int .i64 m.s, .int .i64 m.e, .int .i64 m.l, .slice a t.length c] 33
 have hfa := l15False_any m _ _ t cuts n W1 hf hn (h.below hB01) (hc.below hB01)
 unfold openP
 obtain ⟨L, hL⟩ : ∃ L, falseL n t cuts = L := ⟨_, rfl⟩
 rw [hL] at hfa ⊢
 have H := Lib.hid (And.intro hfa (And.intro hL hf)); clear hfa hL hf
 go_enter Tryz.func191, Tryz.ntmps191
 go_wp2_with fail
 rw [← hW1]
 refine H.out.1.mono ?_
 rintro e' w2 ⟨v2, rfl, hF, hb2⟩
 obtain ⟨la, lc, rfl, hlm⟩ := hF.v2.form
 clear hc01 hh01 hF
 go_wp2_with fail
 go_ret
 exact ⟨ret_bool (by rw [Bool.eq_iff_iff, beq_iff_eq, decide_eq_true_iff]; omega), hB01.trans (hb2.mono (by omega))⟩
/-- What the function that staysOpen returns stands on. -/
def StayAt (S : Nat → Prop) (m : Mk) (t cuts : List (List Int)) (locks : List (List (List Int))) (LB RB CB SB : Nat) (w : World) : Prop :=
 ∃ lv rv cv tv, w.cell? ⟨LB, 0, none⟩ = some lv ∧ w.cell? ⟨RB, 0, none⟩ = some rv ∧ w.cell? ⟨CB, 0, none⟩ = some cv ∧ (∀ o, w.cell? ⟨SB, o, none⟩ = (#[.int .i64 m.c, .int .i64 m.d, .int .i64 m.s, .int .i64 m.e, .int .i64 m.l, tv] : Array Value)[o]?) ∧ SB < w.heap.size ∧
   S LB ∧ S RB ∧ S CB ∧ S SB ∧ V3 S w lv locks ∧ V1 S w rv (getl t cuts.length) ∧ V2 S w cv cuts ∧ V2 S w tv t
theorem StayAt.keep {S : Nat → Prop} {m : Mk} {t cuts : List (List Int)} {locks : List (List (List Int))} {LB RB CB SB : Nat} {w w' : World} (h : StayAt S m t cuts locks LB RB CB SB w) (hz : w.heap.size ≤ w'.heap.size) (hk : Keep S w w') : StayAt S m t cuts locks LB RB CB SB w' := by
 obtain ⟨lv, rv, cv, tv, h1, h2, h3, h4, h5, s1, s2, s3, s4, h6, h7, h8, h9⟩ := h
 refine ⟨lv, rv, cv, tv, cell_keep h1 (hk _ s1 (lt_of_cell h1)), cell_keep h2 (hk _ s2 (lt_of_cell h2)), cell_keep h3 (hk _ s3 (lt_of_cell h3)), fun o => ?_, by omega, s1, s2, s3, s4, h6.mono (fun _ h _ => h) hk, h7.mono (fun _ h _ => h) hk, h8.mono (fun _ h _ => h) hk, h9.mono (fun _ h _ => h) hk⟩
 rw [← h4]
 exact World.cell?_of_block (w := w) (a := ⟨SB, o, none⟩) (hk _ s4 h5)
def goCells (m : Mk) (tv : Value) (limit tries : Nat) (br : Bool) (fv : Value) : Array Value := #[.int .i64 m.c, .int .i64 m.d, .int .i64 m.s, .int .i64 m.e, .int .i64 m.l, tv, .int .i64 (limit : Int), .int .i64 (tries : Int), .bool br, fv]
/-- What is done with each design. -/
structure VisG {τ : Type} (act : τ → Prop) (P : List (List Int) → Prop) (f : FuncId) (caps : Array Value) (vis : τ → List (List Int) → τ × Bool) (VI : τ → (Nat → Prop) → World → Prop) : Prop where
 enters : Enters f
 keep : ∀ s F w w', VI s F w → w.heap.size ≤ w'.heap.size → (∀ b, F b → w'.heap[b]? = w.heap[b]?) → VI s F w'
 lt : ∀ s F w, VI s F w → ∀ b, F b → b < w.heap.size
 still : ∀ s design, act s → (vis s design).2 = true → act (vis s design).1
 call : ∀ (s : τ) (F S : Nat → Prop) (w : World) (v : Value) (design : List (List Int)), VI s F w → V2 S w v design → (∀ b, S b → ¬ F b) → P design → act s →
  Calls Tryz.prog f (#[v] ++ caps) w fun e w' => ∃ F', e = .returned (.bool (vis s design).2) ∧ VI (vis s design).1 F' w' ∧ Chg F w w' ∧ ∀ b, F' b → F b ∨ w.heap.size ≤ b
def GF (XB : Nat) (F : Nat → Prop) (b : Nat) : Prop := b = XB ∨ F b
structure Gs {τ : Type} (m : Mk) (tv : Value) (limit : Nat) (fv : Value) (XB : Nat) (VI : τ → (Nat → Prop) → World → Prop) (s : GSt τ) (F : Nat → Prop) (w : World) : Prop where
 hh : w.heap[XB]? = some (.cells (goCells m tv limit s.1 s.2.1 fv) 124 (0, 0))
 vi : VI s.2.2 F w
 ne : ¬ F XB
 lt : ∀ b, F b → b < w.heap.size
 le : s.1 ≤ limit ∧ limit ≤ 4000
section
variable {τ : Type} {act : τ → Prop} {m : Mk} {tv fv : Value} {limit XB : Nat} {VI : τ → (Nat → Prop) → World → Prop} {s : GSt τ} {F : Nat → Prop} {w w' : World} {P : List (List Int) → Prop} {f : FuncId} {caps : Array Value} {vis : τ → List (List Int) → τ × Bool}
theorem Gs.keep (V : VisG act P f caps vis VI) (h : Gs m tv limit fv XB VI s F w) (hz : w.heap.size ≤ w'.heap.size) (hk : ∀ b, GF XB F b → w'.heap[b]? = w.heap[b]?) : Gs m tv limit fv XB VI s F w' :=
 ⟨by rw [hk XB (.inl rfl)]; exact h.hh, V.keep _ _ _ _ h.vi hz (fun b hb => hk b (.inr hb)), h.ne, fun b hb => Nat.lt_of_lt_of_le (h.lt b hb) hz, h.le⟩
theorem Gs.glt (h : Gs m tv limit fv XB VI s F w) {b : Nat} (hb : GF XB F b) : b < w.heap.size := by
 rcases hb with rfl | hb
 ·exact lt_of_heap h.hh
 ·exact h.lt b hb
theorem Gs.below (V : VisG act P f caps vis VI) (h : Gs m tv limit fv XB VI s F w) (hb : Below w.heap.size w w') : Gs m tv limit fv XB VI s F w' := h.keep V hb.size fun b hf => hb.block b (h.glt hf)
theorem Gs.cell (h : Gs m tv limit fv XB VI s F w) (o : Nat) : w.cell? ⟨XB, o, none⟩ = (goCells m tv limit s.1 s.2.1 fv)[o]? := by rw [cell_of_block h.hh]
end
theorem goStep_act {τ : Type} {act : τ → Prop} {vis : τ → List (List Int) → τ × Bool} {limit : Nat} {stay : List (List Int) → List Int → Bool} {rec : List (List Int) → GSt τ → GSt τ × Bool} (hr : ∀ c s, act s.2.2 → (rec c s).2 = true → act (rec c s).1.2.2) {cuts : List (List Int)} {s : GSt τ} {key : List Int} (h : act s.2.2)
  (h2 : (goStep limit stay rec cuts s key).2 = true) : act (goStep limit stay rec cuts s key).1.2.2 := by
 unfold goStep at h2 ⊢
 split
 ·exact h
 ·rename_i hne
  rw [if_neg hne] at h2
  split
  ·rename_i hs
   rw [if_pos hs] at h2
   exact hr _ _ h h2
  ·exact h
theorem runL_act {τ : Type} {act : τ → Prop} {f : GSt τ → List Int → GSt τ × Bool} (hf : ∀ s k, act s.2.2 → (f s k).2 = true → act (f s k).1.2.2) : ∀ (l : List (List Int)) (s : GSt τ), act s.2.2 → (runL f s l).2 = true → act (runL f s l).1.2.2
 | [], s, h, _ => h
 | k :: l, s, h, h2 => by
   unfold runL at h2 ⊢
   by_cases hk : (f s k).2 = true
   ·rw [if_pos hk] at h2 ⊢
    exact runL_act hf l _ (hf s k h hk) h2
   ·rw [if_neg hk] at h2
    simp at h2
theorem goF_act {τ : Type} {act : τ → Prop} {vis : τ → List (List Int) → τ × Bool} (still : ∀ s design, act s → (vis s design).2 = true → act (vis s design).1) {limit : Nat} {stay : List (List Int) → List Int → Bool} {keys : List (List Int)} : ∀ {d : Nat} {cuts : List (List Int)} {s : GSt τ}, act s.2.2 → (goF limit stay vis keys d cuts s).2 = true → act (goF limit stay vis keys d cuts s).1.2.2
 | 0, cuts, s, h, h2 => still _ _ h h2
 | d + 1, cuts, s, h, h2 => runL_act (fun s k hs h3 => goStep_act (vis := vis) (fun c s hs h4 => goF_act still hs h4) hs h3) keys s h h2
set_option maxRecDepth 100000 in
set_option maxHeartbeats 1000000 in
theorem l15Lists_any {S : Nat → Prop} (v : Value) (ls : List (List Int)) (W : World) (h : V2 S W v ls) (hl : ls.length ≤ 1000) (hr : ∀ k, k < ls.length → (getl ls k).length ≤ 1000 ∧ getl ls k ≠ []) :
  Calls Tryz.prog 218 #[v] W fun e' w' => ∃ v', e' = .returned v' ∧ (F2 W.heap.size w' v' ls ∧ PV v') ∧ Below W.heap.size W w' := by
 have hV := h
 obtain ⟨a, c, rfl, hm⟩ := h.form
 have hO0 := Out2.start W W.heap.size (Nat.le_refl _)
 have HO0 := Lib.hid hO0; clear hO0
 have Hr := Lib.hid hr; clear hr h
 go_enter Tryz.func218, Tryz.ntmps218
 go_wp2_with fail
 go_loopw [3, 4] (fun ou i wr => ∃ k : Nat, k ≤ ls.length ∧ i = .int .i64 (k : Int) ∧ Out2 W.heap.size wr ou (ls.take k) ∧ Below W.heap.size W wr) (fun _ i _ => ls.length - (intOf i).toNat)
 case atStart => exact ⟨0, Nat.zero_le _, rfl, HO0.out, (Below.refl _ _).alloc (Nat.le_refl _) _⟩
 case round =>
  obtain ⟨k, hk, rfl, hO, hB⟩ := hrel
  have hzr := hB.size
  by_cases hkk : k < ls.length
  ·obtain ⟨b1, off1, a1, c1, rfl, _, hc1, hr1⟩ := (hV.below hB).cell hkk
   have hlk := Hr.out k hkk
   have hlt : (ls.take k).length ≤ 1000 := by rw [List.length_take]; omega
   have hst : ls.take (k + 1) = ls.take k ++ [getl ls k] := take_getl hkk
   obtain ⟨pre, hpre⟩ : ∃ p, ls.take k = p := ⟨_, rfl⟩
   rw [hpre] at hO hst hlt
   have Hst := Lib.hid (And.intro hst hpre); clear hst hpre
   obtain ⟨vs, bk, g1, g2, g3⟩ := hO
   have G := Lib.hid (And.intro g1 (And.intro g2 g3)); clear g1 g2 g3
   have Hlk := Lib.hid hlk.2
   have hlk1 := hlk.1
   clear hlk
   go_wp2_with fail
   refine (l01Own_any _ (getl ls k) _ hr1 (fun e => absurd e Hlk.out) (by omega)).mono ?_
   rintro e' w2 ⟨rv, rfl, hown, hb2⟩
   obtain ⟨bx, hx, hbx⟩ := own_F1 hown
   obtain ⟨ra, rc, rfl, hrc1, hrc2, _⟩ := id hx
   have hO2 := own_keep G.out.1 hb2
   have hz2 := hb2.size
   have Hx := Lib.hid (And.intro hx hbx); clear hx hbx hown
   go_wp2_with (at_builtin; refine wp_app1 _ rfl _ _ 24 rfl W.heap.size 44 (.slice none 0 0) 24 Tryz.underlying24 inf_ints rfl _ _ _ rfl hO2 (.slice ra (getl ls k).length rc) _ rfl rfl (by omega) (by omega) (by omega) ?_; intro v1 w1 hown1 hgrow1 hblk1 hB1)
   go_roundw
   case rel => exact ⟨k + 1, by omega, by go_num, by rw [Hst.out.1]; exact Out2.push G.out.1 G.out.2.1 G.out.2.2 hzr hb2 Hx.out.1 (fun hn => Hx.out.2 hn) hown1 hgrow1 hblk1, (hB.trans (hb2.mono hzr)).trans hB1⟩
   case measure => simp [intOf]; omega
  ·obtain rfl : k = ls.length := by omega
   rw [List.take_length] at hO
   have hpv : PV _ := own_pv hO.own.choose_spec
   obtain ⟨oa, oc, rfl, _, _⟩ := hO.form
   have HO := Lib.hid (And.intro hO.f2 hpv); clear hO hpv
   go_wp2_with fail
   go_ret
   exact ⟨_, rfl, HO.out, hB⟩
/-- Design ls lies in blocks from lo on and below hi. -/
def In2 (lo hi : Nat) (w : World) (v : Value) (ls : List (List Int)) : Prop :=
 ∃ ob bk, X2 w v ls ob bk ∧ (ls ≠ [] → lo ≤ ob ∧ ob < hi) ∧ ∀ k, k < ls.length → getl ls k ≠ [] → lo ≤ bk k ∧ bk k < hi
theorem In2.of_F2 {lo : Nat} {w : World} {v : Value} {ls : List (List Int)} (h : F2 lo w v ls) : In2 lo w.heap.size w v ls := by
 obtain ⟨ob, bk, h1, h2, h3⟩ := h
 refine ⟨ob, bk, h1, fun hn => ⟨h2 hn, (h1.lt hn).1⟩, fun k hk hn => ⟨h3 k hk hn, (h1.lt ?_).2 k hk hn⟩⟩
 intro e; subst e; simp at hk
theorem In2.keep {lo hi : Nat} {w w' : World} {v : Value} {ls : List (List Int)} (h : In2 lo hi w v ls) (hk : ∀ b, lo ≤ b → b < hi → w'.heap[b]? = w.heap[b]?) : In2 lo hi w' v ls := by
 obtain ⟨ob, bk, h1, h2, h3⟩ := h
 exact ⟨ob, bk, h1.keep (fun hn => hk _ (h2 hn).1 (h2 hn).2) (fun k hlt hn => hk _ (h3 k hlt hn).1 (h3 k hlt hn).2), h2, h3⟩
theorem In2.f2 {lo hi : Nat} {w : World} {v : Value} {ls : List (List Int)} (h : In2 lo hi w v ls) : F2 lo w v ls := by
 obtain ⟨ob, bk, h1, h2, h3⟩ := h
 exact ⟨ob, bk, h1, fun hn => (h2 hn).1, fun k hk hn => (h3 k hk hn).1⟩
/-- v is a slice of the call's own (from block B on); design k lies in the blocks from L k on and below U k. -/
structure Out3 (B : Nat) (L U : Nat → Nat) (w : World) (v : Value) (vs : List Value) (ds : List (List (List Int))) : Prop where
 own : w.ownsRow B 24 1 v ds.length vs
 each : ∀ k, k < ds.length → ∃ rv, vs[k]? = some rv ∧ In2 (L k) (U k) w rv (getll ds k)
 apart : ∀ k, k < ds.length → B ≤ L k ∧ L k ≤ U k ∧ U k ≤ w.heap.size ∧ (∀ g, v.ownBlock = some g → g < L k ∨ U k ≤ g) ∧ ∀ j, j < k → U j ≤ L k
/-- The blocks in which the designs lie. -/
def T3 (L U : Nat → Nat) (v : Value) (n b : Nat) : Prop := v.ownBlock = some b ∨ ∃ k, k < n ∧ L k ≤ b ∧ b < U k
theorem Out3.keep {B : Nat} {L U : Nat → Nat} {w w' : World} {v : Value} {vs : List Value} {ds : List (List (List Int))} (h : Out3 B L U w v vs ds) (hz : w.heap.size ≤ w'.heap.size) (hk : ∀ b, T3 L U v ds.length b → w'.heap[b]? = w.heap[b]?) : Out3 B L U w' v vs ds := by
 refine ⟨⟨h.own.1, ?_⟩, fun k hlt => ?_, fun k hlt => ?_⟩
 ·rcases h.own.2 with h0 | ⟨g, cap, cur, rfl, h1, h2, h3⟩
  ·exact .inl h0
  ·exact .inr ⟨g, cap, cur, rfl, h1, by rw [hk g (.inl rfl)]; exact h2, h3⟩
 ·obtain ⟨rv, h1, h2⟩ := h.each k hlt
  exact ⟨rv, h1, h2.keep fun b hl hu => hk b (.inr ⟨k, hlt, hl, hu⟩)⟩
 ·obtain ⟨h1, h2, h3, h4⟩ := h.apart k hlt
  exact ⟨h1, h2, Nat.le_trans h3 hz, h4⟩
theorem Out3.lt {B : Nat} {L U : Nat → Nat} {w : World} {v : Value} {vs : List Value} {ds : List (List (List Int))} (h : Out3 B L U w v vs ds) {b : Nat} (hb : T3 L U v ds.length b) : B ≤ b ∧ b < w.heap.size := by
 rcases hb with hb | ⟨k, hk, hl, hu⟩
 ·exact h.own.lt b hb
 ·obtain ⟨h1, h2, h3, _⟩ := h.apart k hk
  exact ⟨by omega, by omega⟩
theorem Out3.form {B : Nat} {L U : Nat → Nat} {w : World} {v : Value} {vs : List Value} {ds : List (List (List Int))} (h : Out3 B L U w v vs ds) : ∃ a c, v = .slice a ds.length c ∧ ds.length ≤ c ∧ c ≤ maxLen := own_form h.own
theorem Out3.start (w : World) (B : Nat) (hb : B ≤ w.heap.size) : Out3 B (fun _ => 0) (fun _ => 0) (w.alloc (.cells #[] 24)) (.slice (some ⟨w.heap.size, 0, none⟩) 0 0) [] [] :=
 ⟨own_lit0 w B _ 1 hb, fun k hk => by simp at hk, fun k hk => by simp at hk⟩
theorem getll_app1 {ds : List (List (List Int))} {l : List (List Int)} {k : Nat} (h : k < ds.length) : getll (ds ++ [l]) k = getll ds k := by
 simp [getll, List.getElem?_append_left h]
theorem getll_app2 {ds : List (List (List Int))} {l : List (List Int)} : getll (ds ++ [l]) ds.length = l := by
 unfold getll; simp
/-- One design more. w: before its copy is made; w2: the copy is made; w1: it is appended. -/
theorem Out3.push {B : Nat} {L U : Nat → Nat} {w w2 w1 : World} {v v1 rv : Value} {vs : List Value} {ds : List (List (List Int))} {l : List (List Int)}
  (h : Out3 B L U w v vs ds) (hB : B ≤ w.heap.size) (hb : Below w.heap.size w w2) (hx : F2 w.heap.size w2 rv l)
  (hown : w1.ownsRow B 24 1 v1 (ds.length + 1) (vs ++ [rv])) (hg : w2.grownBy w1 v.ownBlock) (hblk : v1.ownBlock = v.ownBlock ∨ ∃ g, v1.ownBlock = some g ∧ w2.heap.size ≤ g) :
  Out3 B (fun k => if k < ds.length then L k else w.heap.size) (fun k => if k < ds.length then U k else w2.heap.size) w1 v1 (vs ++ [rv]) (ds ++ [l]) ∧
  (∀ b, T3 (fun k => if k < ds.length then L k else w.heap.size) (fun k => if k < ds.length then U k else w2.heap.size) v1 (ds ++ [l]).length b → T3 L U v ds.length b ∨ w.heap.size ≤ b) := by
 have hvl1 := h.own.1
 have hz := hb.size
 have hz1 := hg.size
 refine ⟨⟨by simpa using hown, fun k hk => ?_, fun k hk => ?_⟩, fun b hb' => ?_⟩
 ·by_cases hkl : k < ds.length
  ·obtain ⟨rv', h4, h5⟩ := h.each k hkl
   obtain ⟨a1, a2, a3, a4, a5⟩ := h.apart k hkl
   refine ⟨rv', by rw [List.getElem?_append_left (by omega)]; exact h4, ?_⟩
   rw [getll_app1 hkl]
   simp only [hkl, if_true]
   refine h5.keep fun b hl hu => ?_
   rw [hg.block b (by omega) (fun e => by have := a4 b e.symm; omega), hb.block b (by omega)]
  ·have e : k = ds.length := by simp at hk; omega
   subst e
   refine ⟨rv, by rw [List.getElem?_append_right (by omega)]; simp [show ds.length - vs.length = 0 by omega], ?_⟩
   rw [getll_app2]
   simp only [Nat.lt_irrefl, if_false]
   exact (In2.of_F2 hx).keep fun b hl hu => hg.block b hu (fun e => by have := (h.own.lt b e.symm).2; omega)
 ·by_cases hkl : k < ds.length
  ·simp only [hkl, if_true]
   obtain ⟨a1, a2, a3, a4, a5⟩ := h.apart k hkl
   refine ⟨a1, a2, by omega, fun g hgg => ?_, fun j hj => ?_⟩
   ·rcases hblk with e | ⟨g', e, hge⟩
    ·exact a4 g (e ▸ hgg)
    ·rw [hgg] at e; cases e; omega
   ·simp only [show j < ds.length by omega, if_true]; exact a5 j hj
  ·have e : k = ds.length := by simp at hk; omega
   subst e
   simp only [Nat.lt_irrefl, if_false]
   refine ⟨hB, hz, hz1, fun g hgg => ?_, fun j hj => ?_⟩
   ·rcases hblk with e | ⟨g', e, hge⟩
    ·have := (h.own.lt g (e ▸ hgg)).2; omega
    ·rw [hgg] at e; cases e; omega
   ·simp only [hj, if_true]; exact (h.apart j hj).2.2.1
 ·rcases hb' with hb' | ⟨k, hk, hl, hu⟩
  ·rcases hblk with e | ⟨g', e, hge⟩
   ·exact .inl (.inl (e ▸ hb'))
   ·rw [hb'] at e; cases e; right; omega
  ·by_cases hkl : k < ds.length
   ·simp only [hkl, if_true] at hl hu
    exact .inl (.inr ⟨k, hkl, hl, hu⟩)
   ·simp only [hkl, if_false] at hl
    exact .inr hl
theorem inf_intss : (Tryz.prog.info? 24).map (fun i => (i.zero, i.size, i.bytes)) = some (some (.slice none 0 0), 1, 24) := by kernel_rfl
end Go.Proofs.YtmjplkbmhdkggaaGreat
