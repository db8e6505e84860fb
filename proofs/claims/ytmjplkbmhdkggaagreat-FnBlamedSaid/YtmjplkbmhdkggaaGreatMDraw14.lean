/- The reference's draws of systems and cuts, some of them not valid. No conditions. -/
import Derived.Deep.RegionHeld3
import Derived.OwnWalk
import Derived.Test.YtmjplkbmhdkggaaGreatMDraw11
import Derived.Test.YtmjplkbmhdkggaaGreatMFalse
import Derived.Test.YtmjplkbmhdkggaaGreatMDraw2
import Derived.Test.YtmjplkbmhdkggaaGreatMBegins
import Derived.Test.YtmjplkbmhdkggaaGreatMShelf0
import Derived.Test.YtmjplkbmhdkggaaGreatMGen
import Derived.Test.YtmjplkbmhdkggaaGreatMRefFirst
namespace Go.Proofs.YtmjplkbmhdkggaaGreat
open Go.RowKit
set_option linter.unusedVariables false
set_option linter.unusedSimpArgs false
theorem F2.ob_le {B : Nat} {w : World} {ob off n c : Nat} {ls : List (List Int)} (h : F2 B w (.slice (some ⟨ob, off, none⟩) n c) ls) (hn : ls ≠ []) : B ≤ ob := by
 obtain ⟨ob', bk, ⟨a', c', e, h1, h2, h3, h4⟩, h5, h6⟩ := h
 simp only [Value.slice.injEq] at e
 obtain ⟨rfl, rfl, rfl⟩ := e
 obtain ⟨off', cs, e, ha, _⟩ := h3 hn
 simp only [Option.some.injEq, Addr.mk.injEq, and_true] at ha
 obtain ⟨rfl, rfl⟩ := ha
 exact h5 hn
theorem OV.keepb {B : Nat} {w w' : World} {v : Value} {ls : List (List Int)} (h : OV B w v ls) (hk : ∀ b, B ≤ b → b < w.heap.size → w'.heap[b]? = w.heap[b]?) : OV B w' v ls := by
 obtain ⟨vs, ⟨hl, h1⟩, h2⟩ := h
 refine ⟨vs, ⟨hl, ?_⟩, h2.keep fun b hb hlt => hk b hb.1 hlt⟩
 rcases h1 with h0 | ⟨g, cap, cur, hv, hb, hh, h3⟩
 ·exact .inl h0
 ·exact .inr ⟨g, cap, cur, hv, hb, (hk g hb (lt_of_heap hh)).trans hh, h3⟩
def DrawSys (B0 SB : Nat) (W : World) (e : Ending) (w' : World) : Prop :=
 ∃ (m : Mk) (u cv : Value) (T cuts : List (List Int)), e = .returned (.tuple #[.agg #[.int .i64 m.c, .int .i64 m.d, .int .i64 m.s, .int .i64 m.e, .int .i64 m.l, u], cv]) ∧ SmallM m ∧ V2 (fun b => W.heap.size ≤ b) w' u T ∧ T.length ≤ 12 ∧ V2 (fun b => W.heap.size ≤ b) w' cv cuts ∧ (1 ≤ cuts.length ∧ cuts.length ≤ 5) ∧ Src B0 SB w' ∧ Only SB W w'
set_option maxRecDepth 100000 in
set_option maxHeartbeats 4000000 in
theorem l15Draw_any (B0 SB : Nat) (W : World) (h : Src B0 SB W) :
  Calls Tryz.prog 68 #[.pointer (some ⟨SB, 0, none⟩)] W (DrawSys B0 SB W) := by
 have hSl := h.lt
 have hB0 : B0 ≤ SB := h.1
 obtain ⟨W1, hW1, hB01, hz01, HZ01, _, hh01⟩ := box_facts W #[.int .i64 0, .int .i64 0, .int .i64 0, .int .i64 0, .int .i64 0, .slice none 0 0] 33
 have hz1e := HZ01.out
 have hz1l : W1.heap.size ≤ W.heap.size + 1 := by omega
 have hs1' := h.below hB01
 have HL := Lib.hid (And.intro hs1' (And.intro hB01 (And.intro hh01 hW1))); clear hs1' h hh01 hB01 hz1e
 go_enter Tryz.func68, Tryz.ntmps68
 go_wp2_with fail
 rw [← hW1]
 clear hW1
 refine (l15Valid_any B0 SB _ HL.out.1).mono ?_
 rintro e' w2 ⟨m, u, T, C, rfl, hmk, ⟨hF, hTl, hC, hsh⟩, hs2, ho2⟩
 have hz2 := ho2.size
 obtain ⟨ta, tc, rfl, _⟩ := hF.v2.form
 obtain ⟨ob, off, b, o2, rc, u, rfl, hc1, hb5, hc2, _, _⟩ := hF.put (i := 0) (k := 0) (by omega) (by rw [hsh.1 0 (by omega)]; omega)
 simp only [Nat.add_zero] at hc1 hc2
 have hobl : ob < w2.heap.size := lt_of_cell hc1
 have hbl : b < w2.heap.size := lt_of_cell hc2
 have hobB : W1.heap.size ≤ ob := hF.ob_le (by intro e; rw [e] at hTl; simp at hTl)
 have hbo : b ≠ ob := hF.ne (i := 0) (by omega) (by have := hsh.1 0 (by omega); intro e; rw [e] at this; simp at this; omega) (by simpa using hc1)
 have hrl := hsh.1 0 (by omega)
 obtain ⟨rl, hrle⟩ : ∃ rl, (getl T 0).length = rl := ⟨_, rfl⟩
 rw [hrle] at hc1 hrl
 have hrl1 : ¬ rl ≤ 0 := by omega
 have hrl4 : 0 < rl := by omega
 have hTl1 : ¬ T.length ≤ 0 := by omega
 obtain ⟨w3, hw3⟩ : ∃ w3, w3 = w2.alloc (.cells #[.int .i64 m.c, .int .i64 m.d, .int .i64 m.s, .int .i64 m.e, .int .i64 m.l, .slice (some ⟨ob, off, none⟩) T.length tc] 33) := ⟨_, rfl⟩
 have hb23 : Below w2.heap.size w2 w3 := by rw [hw3]; exact (Below.refl _ _).alloc (Nat.le_refl _) _
 have hM3 : w3.heap[w2.heap.size]? = some (.cells #[.int .i64 m.c, .int .i64 m.d, .int .i64 m.s, .int .i64 m.e, .int .i64 m.l, .slice (some ⟨ob, off, none⟩) T.length tc] 33 (0, 0)) := by rw [hw3]; exact heap_alloc_self _ _
 have hR3 : w3.heap[W.heap.size]? = some (.cells #[.int .i64 0, .int .i64 0, .int .i64 0, .int .i64 0, .int .i64 0, .slice none 0 0] 33 (0, 0)) := (hb23.block _ (by omega)).trans (ho2.heap HL.out.2.2.1 (fun e => by omega))
 have ho3 : Only SB W w3 := ((Only.of_below HL.out.2.1).trans ho2).then_below hb23
 have hz3 : w2.heap.size < w3.heap.size := lt_of_heap hM3
 have hc3 : ∀ o, w3.cell? ⟨w2.heap.size, o, none⟩ = (#[.int .i64 m.c, .int .i64 m.d, .int .i64 m.s, .int .i64 m.e, .int .i64 m.l, .slice (some ⟨ob, off, none⟩) T.length tc] : Array Value)[o]? := fun o => by rw [cell_of_block hM3]
 have hc13 : w3.cell? ⟨ob, off, none⟩ = some (.slice (some ⟨b, o2, none⟩) rl rc) := cell_keep hc1 (hb23.block _ hobl)
 have H3 := Lib.hid (And.intro (hs2.below hb23) (And.intro ho3 (And.intro hM3 (And.intro hR3 (And.intro (hF.below hb23) (And.intro hmk (And.intro hsh (And.intro hw3 hc13)))))))); clear hs2 ho2 hb23 hM3 hR3 ho3 hw3 hF hmk hsh hc13 hc1 hc2 hrl hrle
 go_wp2_with fail
 rw [← H3.out.2.2.2.2.2.2.2.1]
 go_wp2_with fail
 refine (l15DrawCuts_any B0 SB m H3.out.2.2.2.2.2.1.1 _ _ _ ⟨by omega, by omega⟩ _ H3.out.1).mono ?_
 rintro e' w4 ⟨cv, cuts, rfl, ⟨hcO, hcl1, hcl2⟩, hs4, ho4⟩
 have hz4 := ho4.size
 obtain ⟨ca, cc, rfl, _, _⟩ := hcO.form
 have H4 := Lib.hid (And.intro hs4 (And.intro ho4 hcO)); clear hs4 ho4 hcO
 go_wp2_with fail
 refine (l01Next_any B0 SB 30 _ H4.out.1).mono ?_
 rintro e' w5 ⟨x, rfl, ⟨hx0, hx1⟩, hs5, ho5⟩
 have hz5 := ho5.size
 have ho35 := H4.out.2.1.trans ho5
 have hM5 := ho35.heap H3.out.2.2.1 (fun e => by omega)
 have hR5 := ho35.heap H3.out.2.2.2.1 (fun e => by omega)
 have hF5 := H3.out.2.2.2.2.1.only ho35 (by omega)
 have hcO5 := H4.out.2.2.only ho5 (by omega)
 have hc15 : w5.cell? ⟨ob, off, none⟩ = some (.slice (some ⟨b, o2, none⟩) rl rc) := cell_keep H3.out.2.2.2.2.2.2.2.2 (ho35.block _ (by omega) (fun e => by omega))
 have H5 := Lib.hid (And.intro hs5 (And.intro (H3.out.2.1.trans ho35) (And.intro hM5 (And.intro hR5 (And.intro hF5 hcO5))))); clear hs5 ho5 ho35 hM5 hR5 hF5 hcO5 hc3
 have hcM : ∀ o, w5.cell? ⟨w2.heap.size, o, none⟩ = (#[.int .i64 m.c, .int .i64 m.d, .int .i64 m.s, .int .i64 m.e, .int .i64 m.l, .slice (some ⟨ob, off, none⟩) T.length tc] : Array Value)[o]? := fun o => by rw [cell_of_block H5.out.2.2.1]
 have hcR : ∀ o, w5.cell? ⟨W.heap.size, o, none⟩ = (#[.int .i64 0, .int .i64 0, .int .i64 0, .int .i64 0, .int .i64 0, .slice none 0 0] : Array Value)[o]? := fun o => by rw [cell_of_block H5.out.2.2.2.1]
 have hfR := fun o => frozen_of_block H5.out.2.2.2.1 o
 have hmz : w2.heap.size < w5.heap.size := by omega
 by_cases hx : x = 0
 ·subst hx
  have hc5 : w5.cell? ⟨w2.heap.size, 5, none⟩ = some (.slice (some ⟨ob, off, none⟩) T.length tc) := hcM 5
  have hcd : w5.drew.cell? ⟨w2.heap.size, 5, none⟩ = some (.slice (some ⟨ob, off, none⟩) T.length tc) ∧ w5.drew.cell? ⟨ob, off, none⟩ = some (.slice (some ⟨b, o2, none⟩) rl rc) := ⟨hc5, hc15⟩
  go_wp2_with fail
  refine wp_region_noPanic ?_
  refine wp_region_held_drew (S := fun w' => w'.cell? ⟨w2.heap.size, 5, none⟩ = some (.slice (some ⟨ob, off, none⟩) T.length tc) ∧ w'.cell? ⟨ob, off, none⟩ = some (.slice (some ⟨b, o2, none⟩) rl rc)) (by kernel_rfl) hcd (fun hHeld => ?_)
  (refine wpAnyH_take (i := 0) (v := .pointer (some ⟨w2.heap.size, 5, none⟩)) rfl (by kernel_rfl) (by kernel_rfl) (by kernel_rfl) (fun _ _ _ h => h) (Or.inl ⟨by kernel_rfl, fun w hSw => by (try dsimp only at hSw); go_split_ands; go_simp⟩) (by assumption) ?_; simp only [Act.put, List.setIfInBounds_toArray, List.set_cons_zero, List.set_cons_succ])
  (refine wpAnyH_take (i := 1) (v := .slice (some ⟨ob, off, none⟩) T.length tc) rfl (by kernel_rfl) (by kernel_rfl) (by kernel_rfl) (fun _ _ _ h => h) (Or.inl ⟨by kernel_rfl, fun w hSw => by (try dsimp only at hSw); go_split_ands; go_simp⟩) (by assumption) ?_; simp only [Act.put, List.setIfInBounds_toArray, List.set_cons_zero, List.set_cons_succ])
  (refine wpAnyH_take (i := 2) (v := .pointer (some ⟨ob, off, none⟩)) rfl (by kernel_rfl) (by kernel_rfl) (by kernel_rfl) (fun _ _ _ h => h) (Or.inl ⟨by kernel_rfl, fun w hSw => by (try dsimp only at hSw); go_split_ands; go_simp⟩) (by assumption) ?_; simp only [Act.put, List.setIfInBounds_toArray, List.set_cons_zero, List.set_cons_succ])
  (refine wpAnyH_take (i := 3) (v := .slice (some ⟨b, o2, none⟩) rl rc) rfl (by kernel_rfl) (by kernel_rfl) (by kernel_rfl) (fun _ _ _ h => h) (Or.inl ⟨by kernel_rfl, fun w hSw => by (try dsimp only at hSw); go_split_ands; go_simp⟩) (by assumption) ?_; simp only [Act.put, List.setIfInBounds_toArray, List.set_cons_zero, List.set_cons_succ])
  (refine wpAnyH_take (i := 4) (v := .pointer (some ⟨SB, 0, none⟩)) rfl (by kernel_rfl) (by kernel_rfl) (by kernel_rfl) (fun _ _ _ h => h) (Or.inl ⟨by kernel_rfl, fun w hSw => by (try dsimp only at hSw); go_split_ands; go_simp⟩) (by assumption) ?_; simp only [Act.put, List.setIfInBounds_toArray, List.set_cons_zero, List.set_cons_succ])
  have hL := lit_V1 w5 2 [-1, 0, 2] (by simp)
  have hbi : Below w5.heap.size w5 (w5.alloc (.cells #[.int .i64 (-1), .int .i64 0, .int .i64 2] 2)).drew := ((Below.refl w5.heap.size w5).alloc (Nat.le_refl _) _).drew
  obtain ⟨wa, hwa⟩ : ∃ wa, wa = (w5.alloc (.cells #[.int .i64 (-1), .int .i64 0, .int .i64 2] 2)).drew := ⟨_, rfl⟩
  have hL : V1 (fun b => b = w5.heap.size) wa (.slice (some ⟨w5.heap.size, 0, none⟩) 3 3) [-1, 0, 2] := by rw [hwa]; exact hL
  rw [← hwa] at hbi
  have hca : wa.cell? ⟨w2.heap.size, 5, none⟩ = some (.slice (some ⟨ob, off, none⟩) T.length tc) ∧ wa.cell? ⟨ob, off, none⟩ = some (.slice (some ⟨b, o2, none⟩) rl rc) := ⟨by rw [(bcell hbi).1 _ _ hmz]; exact hc5, by rw [(bcell hbi).1 _ _ (by omega)]; exact hc15⟩
  have HA := Lib.hid (And.intro hL (And.intro hbi (And.intro (H5.out.1.below hbi) (And.intro (H5.out.2.1.then_below hbi) (And.intro (H5.out.2.2.2.2.1.below hbi) hwa))))); clear hL hbi hwa
  refine wpAnyH_ready (rs := [5]) (by kernel_rfl) (by simp) (AllReadyH.cons rfl (fun K hK => ?_) AllReadyH.nil)
  go_simp
  rw [← HA.out.2.2.2.2.2]
  (refine hK.out _ _ hca (fun hHeld => ?_); clear hK K; (try simp only [Act.put, List.setIfInBounds_toArray, List.set_cons_zero, List.set_cons_succ]))
  have hza : w5.heap.size ≤ wa.heap.size := HA.out.2.1.size
  refine wpAnyH_ready (rs := [6]) (by kernel_rfl) (by simp) (AllReadyH.cons rfl (fun K hK => ?_) AllReadyH.nil)
  go_simp
  go_at_call 129
  refine (l01Pick_any B0 SB _ [-1, 0, 2] wa HA.out.2.2.1 HA.out.1 (fun b hb => by omega) (by simp)).mono ?_
  rintro e' wb ⟨y, rfl, hy, hsb, hob⟩
  have hzb : wa.heap.size ≤ wb.heap.size := hob.size
  have hOb := HA.out.2.2.2.2.1.only hob (by omega)
  have hcb : wb.cell? ⟨w2.heap.size, 5, none⟩ = some (.slice (some ⟨ob, off, none⟩) T.length tc) ∧ wb.cell? ⟨ob, off, none⟩ = some (.slice (some ⟨b, o2, none⟩) rl rc) := ⟨cell_keep hca.1 (hob.block _ (by omega) (fun e => by omega)), cell_keep hca.2 (hob.block _ (by omega) (fun e => by omega))⟩
  have hMb := hob.heap (heap_below H5.out.2.2.1 HA.out.2.1 hmz) (fun e => by omega)
  have hRb := hob.heap (heap_below H5.out.2.2.2.1 HA.out.2.1 (by omega)) (fun e => by omega)
  have hCb := (H5.out.2.2.2.2.2.below HA.out.2.1).only hob (by omega)
  obtain ⟨ob', off', b', o2', rc', u', e1, hc1', hb5', hc2', hfz', hput'⟩ := hOb.put (i := 0) (k := 0) (by omega) (by rw [H3.out.2.2.2.2.2.2.1.1 0 (by omega)]; omega)
  simp only [Option.some.injEq, Addr.mk.injEq, and_true] at e1
  obtain ⟨rfl, rfl⟩ := e1
  simp only [Nat.add_zero] at hc1' hc2' hfz' hput'
  rw [hcb.2] at hc1'
  simp only [Option.some.injEq, Value.slice.injEq, Addr.mk.injEq, and_true] at hc1'
  obtain ⟨⟨rfl, rfl⟩, hrl2, rfl⟩ := hc1'
  obtain ⟨wc, hwc⟩ : ∃ wc, wc = wb.setCell ⟨b, o2, none⟩ (.int .i64 y) := ⟨_, rfl⟩
  have hfin := hput' y
  rw [← hwc] at hfin
  have hsc : Src B0 SB wc := hsb.only (b := b) (off := o2) (by omega) (by omega) _ hwc
  have hoc : Only SB W wc := by rw [hwc]; exact (HA.out.2.2.2.1.trans hob).setNew (by omega) _
  have hMc : wc.heap[w2.heap.size]? = _ := (show wc.heap[w2.heap.size]? = wb.heap[w2.heap.size]? by rw [hwc]; exact heap_setCell_other _ (by omega)).trans hMb
  have hRc : wc.heap[W.heap.size]? = _ := (show wc.heap[W.heap.size]? = wb.heap[W.heap.size]? by rw [hwc]; exact heap_setCell_other _ (by omega)).trans hRb
  have hCc : OV w3.heap.size wc (.slice ca cuts.length cc) cuts := hCb.keepb (fun i h1 h2 => by rw [hwc]; exact heap_setCell_other _ (by omega))
  have HC := Lib.hid (And.intro hfin (And.intro hsc (And.intro hoc (And.intro hwc (And.intro hMc (And.intro hRc hCc)))))); clear hfin hsc hoc hwc hput' hsb hob hOb hrl2 hMb hRb hCb hMc hRc hCc
  dsimp only
  (refine hK.out _ _ hcb (fun hHeld => ?_); clear hK K; (try simp only [Act.put, List.setIfInBounds_toArray, List.set_cons_zero, List.set_cons_succ]))
  (refine wpAnyH_ready (rs := [7]) (by kernel_rfl) (by simp) (AllReadyH.cons rfl (fun K hK => ?_) AllReadyH.nil); go_simp)
  (refine hK.out _ _ hcb (fun hHeld => ?_); clear hK K; (try simp only [Act.put, List.setIfInBounds_toArray, List.set_cons_zero, List.set_cons_succ]))
  (refine wpAnyH_ready (rs := [8]) (by kernel_rfl) (by simp) (AllReadyH.cons rfl (fun K hK => ?_) AllReadyH.nil); go_simp)
  rw [← HC.out.2.2.2.1]
  have hcc : wc.cell? ⟨w2.heap.size, 5, none⟩ = some (.slice (some ⟨ob, off, none⟩) T.length tc) ∧ wc.cell? ⟨ob, off, none⟩ = some (.slice (some ⟨b, o2, none⟩) rl rc) := by rw [HC.out.2.2.2.1]; exact ⟨cell_keep hcb.1 (heap_setCell_other _ (by omega)), cell_keep hcb.2 (heap_setCell_other _ (fun e => hbo e.symm))⟩
  (refine hK.out _ _ hcc (fun hHeld => ?_); clear hK K; (try simp only [Act.put, List.setIfInBounds_toArray, List.set_cons_zero, List.set_cons_succ]))
  refine wpAnyH_done (by kernel_rfl) (NoPanic.normal ?_) _
  have hcMc : ∀ o, wc.cell? ⟨w2.heap.size, o, none⟩ = (#[.int .i64 m.c, .int .i64 m.d, .int .i64 m.s, .int .i64 m.e, .int .i64 m.l, .slice (some ⟨ob, off, none⟩) T.length tc] : Array Value)[o]? := fun o => by rw [cell_of_block HC.out.2.2.2.2.1]
  have hcRc : ∀ o, wc.cell? ⟨W.heap.size, o, none⟩ = (#[.int .i64 0, .int .i64 0, .int .i64 0, .int .i64 0, .int .i64 0, .slice none 0 0] : Array Value)[o]? := fun o => by rw [cell_of_block HC.out.2.2.2.2.2.1]
  have hfRc := fun o => frozen_of_block HC.out.2.2.2.2.2.1 o
  clear hcM hcR hfR hcc hcb hca hcd hc5 hc15
  have hdone := putS_facts HC.out.2.1 HC.out.2.2.1 HC.out.2.2.2.2.2.1 (by omega) (Nat.le_refl _) (by omega) (.int .i64 m.c) (.int .i64 m.d) (.int .i64 m.s) (.int .i64 m.e) (.int .i64 m.l) (.slice (some ⟨ob, off, none⟩) T.length tc)
  obtain ⟨wz, hwz⟩ : ∃ wz, wz = putS wc W.heap.size (.int .i64 m.c) (.int .i64 m.d) (.int .i64 m.s) (.int .i64 m.e) (.int .i64 m.l) (.slice (some ⟨ob, off, none⟩) T.length tc) := ⟨_, rfl⟩
  rw [← hwz] at hdone
  obtain ⟨hd1, hd2, hd3, hd4⟩ := hdone
  have hFz : V2 (fun b => W.heap.size ≤ b) wz (.slice (some ⟨ob, off, none⟩) T.length tc) (setT T 0 0 y) := V2.mono (S := fun b => W1.heap.size ≤ b) (HC.out.1.v2) (fun b hb _ => by have hb : W1.heap.size ≤ b := hb; omega) (fun b hb _ => hd4 b (by have hb : W1.heap.size ≤ b := hb; omega))
  have hcz := (OV.keepb (w' := wz) (HC.out.2.2.2.2.2.2) (fun b h1 h2 => hd4 b (by omega))).base (show W.heap.size ≤ w3.heap.size by omega)
  have hz0 : wz.cell? ⟨W.heap.size, 0, none⟩ = some (.int .i64 m.c) := by rw [cell_of_block hd3]; rfl
  have hz1 : wz.cell? ⟨W.heap.size, 1, none⟩ = some (.int .i64 m.d) := by rw [cell_of_block hd3]; rfl
  have hz2 : wz.cell? ⟨W.heap.size, 2, none⟩ = some (.int .i64 m.s) := by rw [cell_of_block hd3]; rfl
  have hz3 : wz.cell? ⟨W.heap.size, 3, none⟩ = some (.int .i64 m.e) := by rw [cell_of_block hd3]; rfl
  have hz4 : wz.cell? ⟨W.heap.size, 4, none⟩ = some (.int .i64 m.l) := by rw [cell_of_block hd3]; rfl
  have hz5 : wz.cell? ⟨W.heap.size, 5, none⟩ = some (.slice (some ⟨ob, off, none⟩) T.length tc) := by rw [cell_of_block hd3]; rfl
  have HZ := Lib.hid (And.intro hd1 (And.intro hd2 (And.intro hFz (And.intro hcz (And.intro hwz (And.intro hz0 (And.intro hz1 (And.intro hz2 (And.intro hz3 (And.intro hz4 (And.intro hz5 hd4))))))))))); clear hd1 hd2 hd3 hd4 hFz hcz hwz hz0 hz1 hz2 hz3 hz4 hz5
  go_wp2_with fail
  have hwz := HZ.out.2.2.2.2.1
  unfold putS putR at hwz
  rw [← hwz]
  clear hwz
  obtain ⟨hd1, hd2, hFz, hcz, hwzz, hz0, hz1, hz2, hz3, hz4, hz5, hd4⟩ := HZ.out
  clear hwzz
  skip
  exact bodyPost_ret (v := .tuple #[.agg #[.int .i64 m.c, .int .i64 m.d, .int .i64 m.s, .int .i64 m.e, .int .i64 m.l, (.slice (some ⟨ob, off, none⟩) T.length tc)], .slice ca cuts.length cc]) (by simp [results, Tryz.results68, go_sem, hz0, hz1, hz2, hz3, hz4, hz5]) rfl ⟨m, _, _, (setT T 0 0 y), cuts, rfl, (smallM_ok H3.out.2.2.2.2.2.1.1), hFz, (by rw [setT_len]; omega), hcz.v2, by omega, hd1, hd2⟩
 ·have hx0d : (x == 0) = false := by simp [hx]
  by_cases hx1' : x = 1
  ·subst hx1'
   have hc5 : w5.cell? ⟨w2.heap.size, 5, none⟩ = some (.slice (some ⟨ob, off, none⟩) T.length tc) := hcM 5
   have hbD : Below w5.heap.size w5 w5.drew := (Below.refl _ _).drew
   have hcd : w5.drew.cell? ⟨w2.heap.size, 5, none⟩ = some (.slice (some ⟨ob, off, none⟩) T.length tc) := hc5
   go_wp2_with fail
   refine wp_region_noPanic ?_
   refine wp_region_held_drew (S := fun w' => w'.cell? ⟨w2.heap.size, 5, none⟩ = some (.slice (some ⟨ob, off, none⟩) T.length tc)) (by kernel_rfl) hcd (fun hHeld => ?_)
   (refine wpAnyH_take (i := 0) (v := .pointer (some ⟨SB, 0, none⟩)) rfl (by kernel_rfl) (by kernel_rfl) (by kernel_rfl) (fun _ _ _ h => h) (Or.inl ⟨by kernel_rfl, fun w hSw => by (try dsimp only at hSw); go_split_ands; go_simp⟩) (by assumption) ?_; simp only [Act.put, List.setIfInBounds_toArray, List.set_cons_zero, List.set_cons_succ])
   (refine wpAnyH_take (i := 2) (v := .pointer (some ⟨w2.heap.size, 5, none⟩)) rfl (by kernel_rfl) (by kernel_rfl) (by kernel_rfl) (fun _ _ _ h => h) (Or.inl ⟨by kernel_rfl, fun w hSw => by (try dsimp only at hSw); go_split_ands; go_simp⟩) (by assumption) ?_; simp only [Act.put, List.setIfInBounds_toArray, List.set_cons_zero, List.set_cons_succ])
   (refine wpAnyH_take (i := 3) (v := .slice (some ⟨ob, off, none⟩) T.length tc) rfl (by kernel_rfl) (by kernel_rfl) (by kernel_rfl) (fun _ _ _ h => h) (Or.inl ⟨by kernel_rfl, fun w hSw => by (try dsimp only at hSw); go_split_ands; go_simp⟩) (by assumption) ?_; simp only [Act.put, List.setIfInBounds_toArray, List.set_cons_zero, List.set_cons_succ])
   (refine wpAnyH_take (i := 5) (v := .slice ca cuts.length cc) rfl (by kernel_rfl) (by kernel_rfl) (by kernel_rfl) (fun _ _ _ h => h) (Or.inl ⟨by kernel_rfl, fun w hSw => by (try dsimp only at hSw); go_split_ands; go_simp⟩) (by assumption) ?_; simp only [Act.put, List.setIfInBounds_toArray, List.set_cons_zero, List.set_cons_succ])
   refine wpAnyH_ready (rs := [1]) (by kernel_rfl) (by simp) (AllReadyH.cons rfl (fun K hK => ?_) AllReadyH.nil)
   go_simp
   go_at_call 130
   refine (l02Draw_any B0 SB _ (H5.out.1.below hbD)).mono ?_
   rintro e' wb ⟨m2, rfl, hm2, hsb, hob⟩
   have hobD : Only SB w5 wb := (Only.of_below hbD).trans hob
   have hzb := hobD.size
   have hcb : wb.cell? ⟨w2.heap.size, 5, none⟩ = some (.slice (some ⟨ob, off, none⟩) T.length tc) := cell_keep hc5 (hobD.block _ (by omega) (fun e => by omega))
   have hRb := hobD.heap H5.out.2.2.2.1 (fun e => by omega)
   have hC := Lib.hid (And.intro hsb (And.intro (H5.out.2.1.trans hobD) (And.intro hRb (And.intro (H5.out.2.2.2.2.1.only hobD (by omega)) (And.intro (H5.out.2.2.2.2.2.only hobD (by omega)) hm2))))); clear hsb hob hobD hRb hm2 hcR hfR hcM hcd hc5 hc15
   have hcRc : ∀ o, wb.cell? ⟨W.heap.size, o, none⟩ = (#[.int .i64 0, .int .i64 0, .int .i64 0, .int .i64 0, .int .i64 0, .slice none 0 0] : Array Value)[o]? := fun o => by rw [cell_of_block hC.out.2.2.1]
   have hfRc := fun o => frozen_of_block hC.out.2.2.1 o
   dsimp only
   (refine hK.out _ _ hcb (fun hHeld => ?_); clear hK K; (try simp only [Act.put, List.setIfInBounds_toArray, List.set_cons_zero, List.set_cons_succ]))
   (refine wpAnyH_ready (rs := [4]) (by kernel_rfl) (by simp) (AllReadyH.cons rfl (fun K hK => ?_) AllReadyH.nil); go_simp)
   (refine hK.out _ _ hcb (fun hHeld => ?_); clear hK K; (try simp only [Act.put, List.setIfInBounds_toArray, List.set_cons_zero, List.set_cons_succ]))
   (refine wpAnyH_ready (rs := [6]) (by kernel_rfl) (by simp) (AllReadyH.cons rfl (fun K hK => ?_) AllReadyH.nil); go_simp)
   have hdone := putS_facts hC.out.1 hC.out.2.1 hC.out.2.2.1 (by omega) (Nat.le_refl _) (by omega) (.int .i64 m2.c) (.int .i64 m2.d) (.int .i64 m2.s) (.int .i64 m2.e) (.int .i64 m2.l) (.slice (some ⟨ob, off, none⟩) T.length tc)
   obtain ⟨wz, hwz⟩ : ∃ wz, wz = putS wb W.heap.size (.int .i64 m2.c) (.int .i64 m2.d) (.int .i64 m2.s) (.int .i64 m2.e) (.int .i64 m2.l) (.slice (some ⟨ob, off, none⟩) T.length tc) := ⟨_, rfl⟩
   rw [← hwz] at hdone
   obtain ⟨hd1, hd2, hd3, hd4⟩ := hdone
   have hFz : V2 (fun b => W.heap.size ≤ b) wz (.slice (some ⟨ob, off, none⟩) T.length tc) T := V2.mono (S := fun b => W1.heap.size ≤ b) (hC.out.2.2.2.1.v2) (fun b hb _ => by have hb : W1.heap.size ≤ b := hb; omega) (fun b hb _ => hd4 b (by have hb : W1.heap.size ≤ b := hb; omega))
   have hcz := (OV.keepb (w' := wz) (hC.out.2.2.2.2.1) (fun b h1 h2 => hd4 b (by omega))).base (show W.heap.size ≤ w3.heap.size by omega)
   have hz0 : wz.cell? ⟨W.heap.size, 0, none⟩ = some (.int .i64 m2.c) := by rw [cell_of_block hd3]; rfl
   have hz1 : wz.cell? ⟨W.heap.size, 1, none⟩ = some (.int .i64 m2.d) := by rw [cell_of_block hd3]; rfl
   have hz2 : wz.cell? ⟨W.heap.size, 2, none⟩ = some (.int .i64 m2.s) := by rw [cell_of_block hd3]; rfl
   have hz3 : wz.cell? ⟨W.heap.size, 3, none⟩ = some (.int .i64 m2.e) := by rw [cell_of_block hd3]; rfl
   have hz4 : wz.cell? ⟨W.heap.size, 4, none⟩ = some (.int .i64 m2.l) := by rw [cell_of_block hd3]; rfl
   have hz5 : wz.cell? ⟨W.heap.size, 5, none⟩ = some (.slice (some ⟨ob, off, none⟩) T.length tc) := by rw [cell_of_block hd3]; rfl
   have HZ := Lib.hid (And.intro hd1 (And.intro hd2 (And.intro hFz (And.intro hcz (And.intro hwz (And.intro hz0 (And.intro hz1 (And.intro hz2 (And.intro hz3 (And.intro hz4 (And.intro hz5 hd4))))))))))); clear hd1 hd2 hd3 hd4 hFz hcz hwz hz0 hz1 hz2 hz3 hz4 hz5
   skip
   have hwz := HZ.out.2.2.2.2.1
   unfold putS putR at hwz
   rw [← hwz]
   clear hwz
   obtain ⟨hd1, hd2, hFz, hcz, hwzz, hz0, hz1, hz2, hz3, hz4, hz5, hd4⟩ := HZ.out
   clear hwzz
   (have hcw := cell_keep hcb (hd4 _ (by omega)); (refine hK.out _ _ hcw (fun hHeld => ?_); clear hK K; (try simp only [Act.put, List.setIfInBounds_toArray, List.set_cons_zero, List.set_cons_succ])); (refine wpAnyH_ready (rs := [7]) (by kernel_rfl) (by simp) (AllReadyH.cons rfl (fun K hK => ?_) AllReadyH.nil); go_simp); (refine hK.out _ _ hcw (fun hHeld => ?_); clear hK K; (try simp only [Act.put, List.setIfInBounds_toArray, List.set_cons_zero, List.set_cons_succ])); refine wpAnyH_done (by kernel_rfl) (NoPanic.normal ?_) _; go_wp2_with fail)
   exact bodyPost_ret (v := .tuple #[.agg #[.int .i64 m2.c, .int .i64 m2.d, .int .i64 m2.s, .int .i64 m2.e, .int .i64 m2.l, (.slice (some ⟨ob, off, none⟩) T.length tc)], .slice ca cuts.length cc]) (by simp [results, Tryz.results68, go_sem, hz0, hz1, hz2, hz3, hz4, hz5]) rfl ⟨m2, _, _, T, cuts, rfl, hC.out.2.2.2.2.2, hFz, (by omega), hcz.v2, by omega, hd1, hd2⟩
  ·have hx1d : (x == 1) = false := by simp [hx1']
   by_cases hx2 : x = 2
   ·subst hx2
    have hcA : ∀ w' : World, w'.heap[w2.heap.size]? = w5.heap[w2.heap.size]? → w'.cell? ⟨w2.heap.size, 0, none⟩ = some (.int .i64 m.c) ∧ w'.cell? ⟨w2.heap.size, 1, none⟩ = some (.int .i64 m.d) ∧ w'.cell? ⟨w2.heap.size, 2, none⟩ = some (.int .i64 m.s) ∧ w'.cell? ⟨w2.heap.size, 3, none⟩ = some (.int .i64 m.e) ∧ w'.cell? ⟨w2.heap.size, 4, none⟩ = some (.int .i64 m.l) := fun w' hw => by
     refine ⟨?_, ?_, ?_, ?_, ?_⟩ <;> exact cell_keep (hcM _) hw
    have hbD : Below w5.heap.size w5 w5.drew := (Below.refl _ _).drew
    have hcd := hcA w5.drew rfl
    clear hx hx1'
    go_wp2_with fail
    refine wp_region_noPanic ?_
    refine wp_region_held_drew (S := fun w' => w'.cell? ⟨w2.heap.size, 0, none⟩ = some (.int .i64 m.c) ∧ w'.cell? ⟨w2.heap.size, 1, none⟩ = some (.int .i64 m.d) ∧ w'.cell? ⟨w2.heap.size, 2, none⟩ = some (.int .i64 m.s) ∧ w'.cell? ⟨w2.heap.size, 3, none⟩ = some (.int .i64 m.e) ∧ w'.cell? ⟨w2.heap.size, 4, none⟩ = some (.int .i64 m.l)) (by kernel_rfl) hcd (fun hHeld => ?_)
    (refine wpAnyH_take (i := 0) (v := .pointer (some ⟨w2.heap.size, 0, none⟩)) rfl (by kernel_rfl) (by kernel_rfl) (by kernel_rfl) (fun _ _ _ h => h) (Or.inl ⟨by kernel_rfl, fun w hSw => by (try dsimp only at hSw); go_split_ands; go_simp⟩) (by assumption) ?_; simp only [Act.put, List.setIfInBounds_toArray, List.set_cons_zero, List.set_cons_succ])
    (refine wpAnyH_take (i := 1) (v := .agg #[.int .i64 m.c, .int .i64 m.d, .int .i64 m.s, .int .i64 m.e, .int .i64 m.l]) rfl (by kernel_rfl) (by kernel_rfl) (by kernel_rfl) (fun _ _ _ h => h) (Or.inl ⟨by kernel_rfl, fun w hSw => by (try dsimp only at hSw); go_split_ands; go_simp⟩) (by assumption) ?_; simp only [Act.put, List.setIfInBounds_toArray, List.set_cons_zero, List.set_cons_succ])
    (refine wpAnyH_take (i := 2) (v := .pointer (some ⟨SB, 0, none⟩)) rfl (by kernel_rfl) (by kernel_rfl) (by kernel_rfl) (fun _ _ _ h => h) (Or.inl ⟨by kernel_rfl, fun w hSw => by (try dsimp only at hSw); go_split_ands; go_simp⟩) (by assumption) ?_; simp only [Act.put, List.setIfInBounds_toArray, List.set_cons_zero, List.set_cons_succ])
    (refine wpAnyH_take (i := 5) (v := .slice ca cuts.length cc) rfl (by kernel_rfl) (by kernel_rfl) (by kernel_rfl) (fun _ _ _ h => h) (Or.inl ⟨by kernel_rfl, fun w hSw => by (try dsimp only at hSw); go_split_ands; go_simp⟩) (by assumption) ?_; simp only [Act.put, List.setIfInBounds_toArray, List.set_cons_zero, List.set_cons_succ])
    refine wpAnyH_ready (rs := [3]) (by kernel_rfl) (by simp) (AllReadyH.cons rfl (fun K hK => ?_) AllReadyH.nil)
    go_simp
    go_at_call 131
    refine (l11Draw_any B0 SB _ (H5.out.1.below hbD)).mono ?_
    rintro e' wb ⟨tv, T2, rfl, ⟨hV2, hT2⟩, hsb, hob⟩
    obtain ⟨ta2, tc2, rfl, _⟩ := hV2.form
    have hobD : Only SB w5 wb := (Only.of_below hbD).trans hob
    have hzb := hobD.size
    have hcb := hcA wb (hobD.block _ (by omega) (fun e => by omega))
    have hRb := hobD.heap H5.out.2.2.2.1 (fun e => by omega)
    have hV2' : V2 (fun b => W1.heap.size ≤ b) wb (.slice ta2 T2.length tc2) T2 := hV2.mono (fun b hb _ => by have hb : w5.drew.heap.size ≤ b := hb; have hb : w5.heap.size ≤ b := hb; omega) (fun _ _ _ => rfl)
    have hC := Lib.hid (And.intro hsb (And.intro (H5.out.2.1.trans hobD) (And.intro hRb (And.intro hV2' (H5.out.2.2.2.2.2.only hobD (by omega)))))); clear hsb hob hobD hRb hcR hfR hcM hcd hcA hc15 hV2 hV2'
    have hcRc : ∀ o, wb.cell? ⟨W.heap.size, o, none⟩ = (#[.int .i64 0, .int .i64 0, .int .i64 0, .int .i64 0, .int .i64 0, .slice none 0 0] : Array Value)[o]? := fun o => by rw [cell_of_block hC.out.2.2.1]
    have hfRc := fun o => frozen_of_block hC.out.2.2.1 o
    dsimp only
    (refine hK.out _ _ hcb (fun hHeld => ?_); clear hK K; (try simp only [Act.put, List.setIfInBounds_toArray, List.set_cons_zero, List.set_cons_succ]))
    (refine wpAnyH_ready (rs := [4]) (by kernel_rfl) (by simp) (AllReadyH.cons rfl (fun K hK => ?_) AllReadyH.nil); go_simp)
    (refine hK.out _ _ hcb (fun hHeld => ?_); clear hK K; (try simp only [Act.put, List.setIfInBounds_toArray, List.set_cons_zero, List.set_cons_succ]))
    (refine wpAnyH_ready (rs := [6]) (by kernel_rfl) (by simp) (AllReadyH.cons rfl (fun K hK => ?_) AllReadyH.nil); go_simp)
    have hdone := putS_facts hC.out.1 hC.out.2.1 hC.out.2.2.1 (by omega) (Nat.le_refl _) (by omega) (.int .i64 m.c) (.int .i64 m.d) (.int .i64 m.s) (.int .i64 m.e) (.int .i64 m.l) (.slice ta2 T2.length tc2)
    obtain ⟨wz, hwz⟩ : ∃ wz, wz = putS wb W.heap.size (.int .i64 m.c) (.int .i64 m.d) (.int .i64 m.s) (.int .i64 m.e) (.int .i64 m.l) (.slice ta2 T2.length tc2) := ⟨_, rfl⟩
    rw [← hwz] at hdone
    obtain ⟨hd1, hd2, hd3, hd4⟩ := hdone
    have hFz : V2 (fun b => W.heap.size ≤ b) wz (.slice ta2 T2.length tc2) T2 := V2.mono (S := fun b => W1.heap.size ≤ b) hC.out.2.2.2.1 (fun b hb _ => by have hb : W1.heap.size ≤ b := hb; omega) (fun b hb _ => hd4 b (by have hb : W1.heap.size ≤ b := hb; omega))
    have hcz := (OV.keepb (w' := wz) (hC.out.2.2.2.2) (fun b h1 h2 => hd4 b (by omega))).base (show W.heap.size ≤ w3.heap.size by omega)
    have hz0 : wz.cell? ⟨W.heap.size, 0, none⟩ = some (.int .i64 m.c) := by rw [cell_of_block hd3]; rfl
    have hz1 : wz.cell? ⟨W.heap.size, 1, none⟩ = some (.int .i64 m.d) := by rw [cell_of_block hd3]; rfl
    have hz2 : wz.cell? ⟨W.heap.size, 2, none⟩ = some (.int .i64 m.s) := by rw [cell_of_block hd3]; rfl
    have hz3 : wz.cell? ⟨W.heap.size, 3, none⟩ = some (.int .i64 m.e) := by rw [cell_of_block hd3]; rfl
    have hz4 : wz.cell? ⟨W.heap.size, 4, none⟩ = some (.int .i64 m.l) := by rw [cell_of_block hd3]; rfl
    have hz5 : wz.cell? ⟨W.heap.size, 5, none⟩ = some (.slice ta2 T2.length tc2) := by rw [cell_of_block hd3]; rfl
    have HZ := Lib.hid (And.intro hd1 (And.intro hd2 (And.intro hFz (And.intro hcz (And.intro hwz (And.intro hz0 (And.intro hz1 (And.intro hz2 (And.intro hz3 (And.intro hz4 (And.intro hz5 hd4))))))))))); clear hd1 hd2 hd3 hd4 hFz hcz hwz hz0 hz1 hz2 hz3 hz4 hz5
    skip
    have hwz := HZ.out.2.2.2.2.1
    unfold putS putR at hwz
    rw [← hwz]
    clear hwz
    obtain ⟨hd1, hd2, hFz, hcz, hwzz, hz0, hz1, hz2, hz3, hz4, hz5, hd4⟩ := HZ.out
    clear hwzz
    (have hcw := And.intro (cell_keep hcb.1 (hd4 _ (by omega))) (And.intro (cell_keep hcb.2.1 (hd4 _ (by omega))) (And.intro (cell_keep hcb.2.2.1 (hd4 _ (by omega))) (And.intro (cell_keep hcb.2.2.2.1 (hd4 _ (by omega))) (cell_keep hcb.2.2.2.2 (hd4 _ (by omega)))))); (refine hK.out _ _ hcw (fun hHeld => ?_); clear hK K; (try simp only [Act.put, List.setIfInBounds_toArray, List.set_cons_zero, List.set_cons_succ])); (refine wpAnyH_ready (rs := [7]) (by kernel_rfl) (by simp) (AllReadyH.cons rfl (fun K hK => ?_) AllReadyH.nil); go_simp); (refine hK.out _ _ hcw (fun hHeld => ?_); clear hK K; (try simp only [Act.put, List.setIfInBounds_toArray, List.set_cons_zero, List.set_cons_succ])); refine wpAnyH_done (by kernel_rfl) (NoPanic.normal ?_) _; go_wp2_with fail)
    exact bodyPost_ret (v := .tuple #[.agg #[.int .i64 m.c, .int .i64 m.d, .int .i64 m.s, .int .i64 m.e, .int .i64 m.l, (.slice ta2 T2.length tc2)], .slice ca cuts.length cc]) (by simp [results, Tryz.results68, go_sem, hz0, hz1, hz2, hz3, hz4, hz5]) rfl ⟨m, _, _, T2, cuts, rfl, (smallM_ok H3.out.2.2.2.2.2.1.1), hFz, (by omega), hcz.v2, by omega, hd1, hd2⟩
   ·have hx2d : (x == 2) = false := by simp [hx2]
    clear hx hx1' hx2
    have hdone := putS_facts H5.out.1 H5.out.2.1 H5.out.2.2.2.1 (by omega) (Nat.le_refl _) (by omega) (.int .i64 m.c) (.int .i64 m.d) (.int .i64 m.s) (.int .i64 m.e) (.int .i64 m.l) (.slice (some ⟨ob, off, none⟩) T.length tc)
    obtain ⟨wz, hwz⟩ : ∃ wz, wz = putS w5 W.heap.size (.int .i64 m.c) (.int .i64 m.d) (.int .i64 m.s) (.int .i64 m.e) (.int .i64 m.l) (.slice (some ⟨ob, off, none⟩) T.length tc) := ⟨_, rfl⟩
    rw [← hwz] at hdone
    obtain ⟨hd1, hd2, hd3, hd4⟩ := hdone
    have hFz : V2 (fun b => W.heap.size ≤ b) wz (.slice (some ⟨ob, off, none⟩) T.length tc) T := V2.mono (S := fun b => W1.heap.size ≤ b) (H5.out.2.2.2.2.1.v2) (fun b hb _ => by have hb : W1.heap.size ≤ b := hb; omega) (fun b hb _ => hd4 b (by have hb : W1.heap.size ≤ b := hb; omega))
    have hcz := (OV.keepb (w' := wz) (H5.out.2.2.2.2.2) (fun b h1 h2 => hd4 b (by omega))).base (show W.heap.size ≤ w3.heap.size by omega)
    have hz0 : wz.cell? ⟨W.heap.size, 0, none⟩ = some (.int .i64 m.c) := by rw [cell_of_block hd3]; rfl
    have hz1 : wz.cell? ⟨W.heap.size, 1, none⟩ = some (.int .i64 m.d) := by rw [cell_of_block hd3]; rfl
    have hz2 : wz.cell? ⟨W.heap.size, 2, none⟩ = some (.int .i64 m.s) := by rw [cell_of_block hd3]; rfl
    have hz3 : wz.cell? ⟨W.heap.size, 3, none⟩ = some (.int .i64 m.e) := by rw [cell_of_block hd3]; rfl
    have hz4 : wz.cell? ⟨W.heap.size, 4, none⟩ = some (.int .i64 m.l) := by rw [cell_of_block hd3]; rfl
    have hz5 : wz.cell? ⟨W.heap.size, 5, none⟩ = some (.slice (some ⟨ob, off, none⟩) T.length tc) := by rw [cell_of_block hd3]; rfl
    have HZ := Lib.hid (And.intro hd1 (And.intro hd2 (And.intro hFz (And.intro hcz (And.intro hwz (And.intro hz0 (And.intro hz1 (And.intro hz2 (And.intro hz3 (And.intro hz4 (And.intro hz5 hd4))))))))))); clear hd1 hd2 hd3 hd4 hFz hcz hwz hz0 hz1 hz2 hz3 hz4 hz5
    go_wp2_with fail
    have hwz := HZ.out.2.2.2.2.1
    unfold putS putR at hwz
    rw [← hwz]
    clear hwz
    obtain ⟨hd1, hd2, hFz, hcz, hwzz, hz0, hz1, hz2, hz3, hz4, hz5, hd4⟩ := HZ.out
    clear hwzz
    skip
    exact bodyPost_ret (v := .tuple #[.agg #[.int .i64 m.c, .int .i64 m.d, .int .i64 m.s, .int .i64 m.e, .int .i64 m.l, (.slice (some ⟨ob, off, none⟩) T.length tc)], .slice ca cuts.length cc]) (by simp [results, Tryz.results68, go_sem, hz0, hz1, hz2, hz3, hz4, hz5]) rfl ⟨m, _, _, T, cuts, rfl, (smallM_ok H3.out.2.2.2.2.2.1.1), hFz, (by omega), hcz.v2, by omega, hd1, hd2⟩
theorem mem_lock {n : Nat} {t cuts : List (List Int)} {d c : Nat} {x : Int} (hc : c < n) : x ∈ getl (lockR n t cuts d) c ↔ ∃ k ∈ doorCuts t cuts d cuts.length, geti k c = x := by
 rw [lockR, hullR_get hc, (diffI_sort _).2]
 unfold colOf
 rw [List.mem_map]
/-- The tries, whether the limit was met, and what is kept of the designs. -/
abbrev GSt (τ : Type) := Nat × Bool × τ
section
variable {τ : Type}
end
set_option maxRecDepth 100000 in
set_option maxHeartbeats 2000000 in
theorem l18Rows_any {S S' : Nat → Prop} (m : Mk) (u v : Value) (t cuts : List (List Int)) (key door n : Nat) (W : World) (hf : Fits m t cuts) (hk : key < cuts.length) (hd : door < (getl t 0).length) (hn : (n : Int) = m.c) (h : V2 S W u t) (hc : V2 S' W v cuts) :
  Calls Tryz.prog 75 #[.agg #[.int .i64 m.c, .int .i64 m.d, .int .i64 m.s, .int .i64 m.e, .int .i64 m.l, u], v, .int .i64 key, .int .i64 door] W fun e' w' => ∃ v', e' = .returned v' ∧ F2 W.heap.size w' v' (reasRows t cuts key door n) ∧ Below W.heap.size W w' := by
 obtain ⟨a, c, rfl, hmx⟩ := h.form
 obtain ⟨a', c', rfl, hmx'⟩ := hc.form
 have hmk := Mk.ok_iff.1 hf.ok
 have hrows := hf.rows
 have hfew := hf.few
 have hn6 : n ≤ 6 := by omega
 have hdd : ∀ k, k < t.length → door < (getl t k).length := fun k hk => by rw [hf.cols k hk]; exact hd
 have hcc : ∀ k, k < cuts.length → (getl cuts k).length = n := fun k hk => by have := hf.lens k hk; omega
 have Hdd := Lib.hid hdd; clear hdd
 have Hcc := Lib.hid hcc; clear hcc
 have Hf := Lib.hid hf; clear hf hmk
 have hn1 : (n : Int) ≤ m.c := by omega
 have hn2 : m.c ≤ n := by omega
 clear hn
 obtain ⟨W1, hW1, hB01, hz01, HZ01, hc01, hh01⟩ := box_facts W #[.int .i64 m.c, .int .i64 m.d, .int .i64 m.s, .int .i64 m.e, .int .i64 m.l, .slice a t.length c] 33
 have hV1 := h.below hB01
 have hC1 := hc.below hB01
 have hout0 := Out2.start W1 W1.heap.size (Nat.le_refl _)
 have Hout0 := Lib.hid hout0; clear hout0
 go_enter Tryz.func75, Tryz.ntmps75
 go_wp2_with fail
 rw [← hW1, show W.heap.size + 1 = W1.heap.size from HZ01.out.symm]
 have HW1 := Lib.hid hW1; clear hW1 hh01
 have Hc01 := Lib.hid hc01; clear hc01
 go_loopw [9, 10, 11, 12] (fun ou i _ _ wr => ∃ x : Nat, x ≤ n ∧ i = .int .i64 (x : Int) ∧ Out2 W1.heap.size wr ou (reasRows t cuts key door x) ∧ Below W1.heap.size W1 wr) (fun _ i _ _ _ => n - (intOf i).toNat)
 case atStart => exact ⟨0, Nat.zero_le _, rfl, Hout0.out, (Below.refl _ _).alloc (Nat.le_refl _) _⟩
 case round =>
  obtain ⟨x, hx, rfl, hO, hB⟩ := hrel
  obtain ⟨wo, rfl⟩ : ∃ wo, wo = wr := ⟨_, rfl⟩
  have hzr := hB.size
  have hxo : ∀ o, wo.cell? ⟨W.heap.size, o, none⟩ = (#[.int .i64 m.c, .int .i64 m.d, .int .i64 m.s, .int .i64 m.e, .int .i64 m.l, .slice a t.length c] : Array Value)[o]? := fun o => by rw [(bcell hB).1 _ _ hz01, Hc01.out]
  by_cases hxn : x < n
  ·obtain ⟨wrB, hwrB⟩ : ∃ B, B = wo.heap.size := ⟨_, rfl⟩
   have hown0 := own_lit0 wo wrB 2 1 (by omega)
   have HO := Lib.hid hO; clear hO
   have hdx : decide ((x : Int) < m.c) = true := by simp; omega
   go_wp2_with fail
   clear hxo
   go_loopw [11, 12] (fun ro i wn => ∃ k : Nat, k ≤ cuts.length ∧ i = .int .i64 (k : Int) ∧ wn.ownsRow wrB 2 1 ro (reasRow t cuts key door x k).length ((reasRow t cuts key door x k).map (Value.int .i64)) ∧ Below wrB wo wn) (fun _ i _ => cuts.length - (intOf i).toNat)
   case atStart => exact ⟨0, Nat.zero_le _, rfl, hown0, (Below.refl _ _).alloc (by omega) _⟩
   case round =>
    obtain ⟨k, hk2, rfl, hown, hBn⟩ := hrel
    have hrl := reasRow_len t cuts key door x k
    have hzn := hBn.size
    have hBW := hB.trans (hBn.mono (by omega))
    have hxb : ∀ o, wr.cell? ⟨W.heap.size, o, none⟩ = (#[.int .i64 m.c, .int .i64 m.d, .int .i64 m.s, .int .i64 m.e, .int .i64 m.l, .slice a t.length c] : Array Value)[o]? := fun o => by rw [(bcell hBW).1 _ _ hz01, Hc01.out]
    by_cases hkk : k < cuts.length
    ·have hkt : k < t.length := by omega
     obtain ⟨b1, off1, a1, c1, rfl, _, hc1, hr1⟩ := (hC1.below hBW).cell hkk
     obtain ⟨b2, off2, a2, c2, rfl, _, hc2, hr2⟩ := (hV1.below hBW).cell hkt
     obtain ⟨b3, off3, rfl, _, hc3⟩ := hr2.cell (Hdd.out k hkt)
     have hxk2 : x < (getl cuts k).length := by rw [Hcc.out k hkk]; exact hxn
     have hxk1 : x < (getl cuts key).length := by rw [Hcc.out key hk]; exact hxn
     obtain ⟨b4, off4, rfl, _, hc4⟩ := hr1.cell hxk2
     obtain ⟨b5, off5, a5, c5, e5, _, hc5, hr5⟩ := (hC1.below hBW).cell hk
     simp only [Option.some.injEq, Addr.mk.injEq, and_true] at e5
     obtain ⟨rfl, rfl⟩ := e5
     obtain ⟨b6, off6, rfl, _, hc6⟩ := hr5.cell hxk1
     have hl2 := hr2.len
     have hl1 := hr1.len
     have hl5 := hr5.len
     have hdk := Hdd.out k hkt
     unfold maxLen at hl1 hl2 hl5
     by_cases h1 : geti (getl t k) door = 1
     ·have e2 : (geti (getl t k) door == 1) = true := by simp [h1]
      by_cases h2 : geti (getl cuts k) x = geti (getl cuts key) x
      ·have e3 : (geti (getl cuts k) x == geti (getl cuts key) x) = true := by simp [h2]
       have hst : reasRow t cuts key door x (k + 1) = reasRow t cuts key door x k ++ [(k : Int)] := by rw [reasRow, if_pos ⟨h1, h2⟩]
       have Hst := Lib.hid hst; clear hst
       have H1 := Lib.hid h1; clear h1
       have H2 := Lib.hid h2; clear h2
       go_wp2_with fail
       go_quiet (fail)
       have hown' : (wr.drewN nq).ownsRow wrB 2 1 u11 (reasRow t cuts key door x k).length ((reasRow t cuts key door x k).map (Value.int .i64)) := hown
       have hzq : wr.heap.size ≤ (wr.drewN nq).heap.size := Nat.le_refl _
       go_wp2_with (at_builtin; refine wp_app1 _ rfl _ _ 44 rfl wrB 2 (.int .i64 0) 8 Tryz.underlying44 inf_int rfl _ _ _ rfl hown' (.int .i64 k) _ rfl rfl (by omega) (by omega) (by omega) ?_; intro v1 w1 hown1 hgrow1 hblk1 hB1)
       go_roundw
       case rel => exact ⟨k + 1, by omega, by go_num, by rw [Hst.out, List.map_append, List.length_append]; exact hown1, (below_drewN hBn _).trans (hB1.mono (Nat.le_refl _))⟩
       case measure => simp [intOf]; omega
      ·have e3 : (geti (getl cuts k) x == geti (getl cuts key) x) = false := by simp [h2]
       have hst : reasRow t cuts key door x (k + 1) = reasRow t cuts key door x k := by rw [reasRow, if_neg (fun h => h2 h.2)]
       have Hst := Lib.hid hst; clear hst
       have H1 := Lib.hid h1; clear h1
       have H2 := Lib.hid h2; clear h2
       go_wp2_with fail
       go_quiet (fail)
       go_wp2_with fail
       go_roundw
       case rel => exact ⟨k + 1, by omega, by go_num, by rw [Hst.out]; exact hown, below_drewN hBn _⟩
       case measure => simp [intOf]; omega
     ·have e2 : (geti (getl t k) door == 1) = false := by simp [h1]
      have hst : reasRow t cuts key door x (k + 1) = reasRow t cuts key door x k := by rw [reasRow, if_neg (fun h => h1 h.1)]
      have Hst := Lib.hid hst; clear hst
      have H1 := Lib.hid h1; clear h1
      go_wp2_with fail
      go_quiet (fail)
      go_wp2_with fail
      go_roundw
      case rel => exact ⟨k + 1, by omega, by go_num, by rw [Hst.out]; exact hown, below_drewN hBn _⟩
      case measure => simp [intOf]; omega
    ·obtain rfl : k = cuts.length := by omega
     obtain ⟨vs, bk, g1, g2, g3⟩ := HO.out
     have hBwo : Below wo.heap.size wo wr := hBn.mono (by omega)
     obtain ⟨bx1, hx1, hbx⟩ := own_F1 hown
     have hO4 := own_chg g1 (Chg.of_below (F := fun _ => False) hBwo) (fun _ _ h => h)
     obtain ⟨ra, rc, rfl, hrc1, hrc2⟩ := own_form hown
     have hlx := Nat.le_of_eq (reasRows_len t cuts key door x)
     have G := Lib.hid (And.intro g1 (And.intro g2 g3)); clear g1 g2 g3
     have Hx1 := Lib.hid (And.intro hx1 hbx); clear hx1 hbx hown hxb
     go_wp2_with (at_builtin; refine wp_app1 _ rfl _ _ 24 rfl W1.heap.size 44 (.slice none 0 0) 24 Tryz.underlying24 inf_ints rfl _ _ _ rfl hO4 (.slice ra (reasRow t cuts key door x cuts.length).length rc) _ rfl rfl (by omega) (by omega) (by omega) ?_; intro v1 w1 hown1 hgrow1 hblk1 hB1)
     go_roundw
     case rel => exact ⟨x + 1, by omega, by go_num, by rw [reasRows_succ]; exact Out2.push G.out.1 G.out.2.1 G.out.2.2 hzr hBwo Hx1.out.1 (fun hn => by have := Hx1.out.2 hn; omega) hown1 hgrow1 hblk1, (hB.trans (hBwo.mono hzr)).trans hB1⟩
     case measure => simp [intOf]; omega
  ·obtain rfl : x = n := by omega
   have hfx := hO.f2
   go_wp2_with fail
   go_ret
   exact ⟨_, rfl, F2.mono hfx (by omega), hB01.trans (hB.mono (by omega))⟩
/-- Cuts, one more. -/
structure PartOk (m : Mk) (t cuts : List (List Int)) : Prop where
 sys : isSys m t = true
 few : cuts.length ≤ t.length
 keys : allKeys m cuts = true
theorem PartOk.c {m : Mk} {t cuts : List (List Int)} (h : PartOk m t cuts) : partC m t cuts = 0 := partC_ok.2 ⟨h.sys, h.few, h.keys⟩
theorem PartOk.fits {m : Mk} {t cuts : List (List Int)} (h : PartOk m t cuts) : Fits m t cuts := fits_of h.c
theorem PartOk.more {m : Mk} {t cuts : List (List Int)} (h : PartOk m t cuts) (hl : cuts.length < t.length) {key : List Int} (hk : isKeyB m key = true) : PartOk m t (cuts ++ [key]) := by
 refine ⟨h.sys, by simp; omega, allKeys_iff.2 fun k hkl => ?_⟩
 by_cases e : k < cuts.length
 ·rw [getl_append1 e]; exact allKeys_iff.1 h.keys k e
 ·have e2 : k = cuts.length := by simp at hkl; omega
  subst e2
  rw [getl_last]; exact hk
theorem PartOk.nil {m : Mk} {t : List (List Int)} (h : isSys m t = true) : PartOk m t [] := ⟨h, Nat.zero_le _, allKeys_iff.2 fun k hk => by simp at hk⟩
abbrev DSt := GSt (List (List (List Int)))
/-- A design of the search: cuts for all rows. -/
structure DesOk (m : Mk) (t ds : List (List Int)) : Prop where
 part : PartOk m t ds
 full : ds.length ≤ t.length
theorem DesOk.few {m : Mk} {t ds : List (List Int)} (h : DesOk m t ds) : ds.length ≤ 10 ∧ ∀ k, k < ds.length → (getl ds k).length ≤ 6 ∧ getl ds k ≠ [] := by
 have hf := h.part.fits
 have hr := hf.rows
 have hm := Mk.ok_iff.1 hf.ok
 refine ⟨by have := h.full; omega, fun k hk => ?_⟩
 have := hf.lens k hk
 exact ⟨by omega, fun e => by rw [e] at this; simp at this; omega⟩
/-- What the function that staysOpen returns stands on. -/
def StayAt (S : Nat → Prop) (m : Mk) (t cuts : List (List Int)) (locks : List (List (List Int))) (LB RB CB SB : Nat) (w : World) : Prop :=
 ∃ lv rv cv tv, w.cell? ⟨LB, 0, none⟩ = some lv ∧ w.cell? ⟨RB, 0, none⟩ = some rv ∧ w.cell? ⟨CB, 0, none⟩ = some cv ∧ (∀ o, w.cell? ⟨SB, o, none⟩ = (#[.int .i64 m.c, .int .i64 m.d, .int .i64 m.s, .int .i64 m.e, .int .i64 m.l, tv] : Array Value)[o]?) ∧ SB < w.heap.size ∧
   S LB ∧ S RB ∧ S CB ∧ S SB ∧ V3 S w lv locks ∧ V1 S w rv (getl t cuts.length) ∧ V2 S w cv cuts ∧ V2 S w tv t
theorem StayAt.keep {S : Nat → Prop} {m : Mk} {t cuts : List (List Int)} {locks : List (List (List Int))} {LB RB CB SB : Nat} {w w' : World} (h : StayAt S m t cuts locks LB RB CB SB w) (hz : w.heap.size ≤ w'.heap.size) (hk : Keep S w w') : StayAt S m t cuts locks LB RB CB SB w' := by
 obtain ⟨lv, rv, cv, tv, h1, h2, h3, h4, h5, s1, s2, s3, s4, h6, h7, h8, h9⟩ := h
 refine ⟨lv, rv, cv, tv, cell_keep h1 (hk _ s1 (lt_of_cell h1)), cell_keep h2 (hk _ s2 (lt_of_cell h2)), cell_keep h3 (hk _ s3 (lt_of_cell h3)), fun o => ?_, by omega, s1, s2, s3, s4, h6.mono (fun _ h _ => h) hk, h7.mono (fun _ h _ => h) hk, h8.mono (fun _ h _ => h) hk, h9.mono (fun _ h _ => h) hk⟩
 rw [← h4]
 exact World.cell?_of_block (w := w) (a := ⟨SB, o, none⟩) (hk _ s4 h5)
def goCells (m : Mk) (tv : Value) (limit tries : Nat) (br : Bool) (fv : Value) : Array Value := #[.int .i64 m.c, .int .i64 m.d, .int .i64 m.s, .int .i64 m.e, .int .i64 m.l, tv, .int .i64 (limit : Int), .int .i64 (tries : Int), .bool br, fv]
/-- What is done with each design. -/
structure VisG {τ : Type} (act : τ → Prop) (P : List (List Int) → Prop) (f : FuncId) (caps : Array Value) (vis : τ → List (List Int) → τ × Bool) (VI : τ → (Nat → Prop) → World → Prop) : Prop where
 enters : Enters f
 keep : ∀ s F w w', VI s F w → w.heap.size ≤ w'.heap.size → (∀ b, F b → w'.heap[b]? = w.heap[b]?) → VI s F w'
 lt : ∀ s F w, VI s F w → ∀ b, F b → b < w.heap.size
 still : ∀ s design, act s → (vis s design).2 = true → act (vis s design).1
 call : ∀ (s : τ) (F S : Nat → Prop) (w : World) (v : Value) (design : List (List Int)), VI s F w → V2 S w v design → (∀ b, S b → ¬ F b) → P design → act s →
  Calls Tryz.prog f (#[v] ++ caps) w fun e w' => ∃ F', e = .returned (.bool (vis s design).2) ∧ VI (vis s design).1 F' w' ∧ Chg F w w' ∧ ∀ b, F' b → F b ∨ w.heap.size ≤ b
def GF (XB : Nat) (F : Nat → Prop) (b : Nat) : Prop := b = XB ∨ F b
structure Gs {τ : Type} (m : Mk) (tv : Value) (limit : Nat) (fv : Value) (XB : Nat) (VI : τ → (Nat → Prop) → World → Prop) (s : GSt τ) (F : Nat → Prop) (w : World) : Prop where
 hh : w.heap[XB]? = some (.cells (goCells m tv limit s.1 s.2.1 fv) 124 (0, 0))
 vi : VI s.2.2 F w
 ne : ¬ F XB
 lt : ∀ b, F b → b < w.heap.size
 le : s.1 ≤ limit ∧ limit ≤ 4000
section
variable {τ : Type} {act : τ → Prop} {m : Mk} {tv fv : Value} {limit XB : Nat} {VI : τ → (Nat → Prop) → World → Prop} {s : GSt τ} {F : Nat → Prop} {w w' : World} {P : List (List Int) → Prop} {f : FuncId} {caps : Array Value} {vis : τ → List (List Int) → τ × Bool}
theorem Gs.keep (V : VisG act P f caps vis VI) (h : Gs m tv limit fv XB VI s F w) (hz : w.heap.size ≤ w'.heap.size) (hk : ∀ b, GF XB F b → w'.heap[b]? = w.heap[b]?) : Gs m tv limit fv XB VI s F w' :=
 ⟨by rw [hk XB (.inl rfl)]; exact h.hh, V.keep _ _ _ _ h.vi hz (fun b hb => hk b (.inr hb)), h.ne, fun b hb => Nat.lt_of_lt_of_le (h.lt b hb) hz, h.le⟩
theorem Gs.glt (h : Gs m tv limit fv XB VI s F w) {b : Nat} (hb : GF XB F b) : b < w.heap.size := by
 rcases hb with rfl | hb
 ·exact lt_of_heap h.hh
 ·exact h.lt b hb
theorem Gs.below (V : VisG act P f caps vis VI) (h : Gs m tv limit fv XB VI s F w) (hb : Below w.heap.size w w') : Gs m tv limit fv XB VI s F w' := h.keep V hb.size fun b hf => hb.block b (h.glt hf)
theorem Gs.cell (h : Gs m tv limit fv XB VI s F w) (o : Nat) : w.cell? ⟨XB, o, none⟩ = (goCells m tv limit s.1 s.2.1 fv)[o]? := by rw [cell_of_block h.hh]
end
/-- Design ls lies in blocks from lo on and below hi. -/
def In2 (lo hi : Nat) (w : World) (v : Value) (ls : List (List Int)) : Prop :=
 ∃ ob bk, X2 w v ls ob bk ∧ (ls ≠ [] → lo ≤ ob ∧ ob < hi) ∧ ∀ k, k < ls.length → getl ls k ≠ [] → lo ≤ bk k ∧ bk k < hi
theorem In2.of_F2 {lo : Nat} {w : World} {v : Value} {ls : List (List Int)} (h : F2 lo w v ls) : In2 lo w.heap.size w v ls := by
 obtain ⟨ob, bk, h1, h2, h3⟩ := h
 refine ⟨ob, bk, h1, fun hn => ⟨h2 hn, (h1.lt hn).1⟩, fun k hk hn => ⟨h3 k hk hn, (h1.lt ?_).2 k hk hn⟩⟩
 intro e; subst e; simp at hk
theorem In2.keep {lo hi : Nat} {w w' : World} {v : Value} {ls : List (List Int)} (h : In2 lo hi w v ls) (hk : ∀ b, lo ≤ b → b < hi → w'.heap[b]? = w.heap[b]?) : In2 lo hi w' v ls := by
 obtain ⟨ob, bk, h1, h2, h3⟩ := h
 exact ⟨ob, bk, h1.keep (fun hn => hk _ (h2 hn).1 (h2 hn).2) (fun k hlt hn => hk _ (h3 k hlt hn).1 (h3 k hlt hn).2), h2, h3⟩
theorem In2.f2 {lo hi : Nat} {w : World} {v : Value} {ls : List (List Int)} (h : In2 lo hi w v ls) : F2 lo w v ls := by
 obtain ⟨ob, bk, h1, h2, h3⟩ := h
 exact ⟨ob, bk, h1, fun hn => (h2 hn).1, fun k hk hn => (h3 k hk hn).1⟩
/-- v is a slice of the call's own (from block B on); design k lies in the blocks from L k on and below U k. -/
structure Out3 (B : Nat) (L U : Nat → Nat) (w : World) (v : Value) (vs : List Value) (ds : List (List (List Int))) : Prop where
 own : w.ownsRow B 24 1 v ds.length vs
 each : ∀ k, k < ds.length → ∃ rv, vs[k]? = some rv ∧ In2 (L k) (U k) w rv (getll ds k)
 apart : ∀ k, k < ds.length → B ≤ L k ∧ L k ≤ U k ∧ U k ≤ w.heap.size ∧ (∀ g, v.ownBlock = some g → g < L k ∨ U k ≤ g) ∧ ∀ j, j < k → U j ≤ L k
/-- The blocks in which the designs lie. -/
def T3 (L U : Nat → Nat) (v : Value) (n b : Nat) : Prop := v.ownBlock = some b ∨ ∃ k, k < n ∧ L k ≤ b ∧ b < U k
theorem Out3.keep {B : Nat} {L U : Nat → Nat} {w w' : World} {v : Value} {vs : List Value} {ds : List (List (List Int))} (h : Out3 B L U w v vs ds) (hz : w.heap.size ≤ w'.heap.size) (hk : ∀ b, T3 L U v ds.length b → w'.heap[b]? = w.heap[b]?) : Out3 B L U w' v vs ds := by
 refine ⟨⟨h.own.1, ?_⟩, fun k hlt => ?_, fun k hlt => ?_⟩
 ·rcases h.own.2 with h0 | ⟨g, cap, cur, rfl, h1, h2, h3⟩
  ·exact .inl h0
  ·exact .inr ⟨g, cap, cur, rfl, h1, by rw [hk g (.inl rfl)]; exact h2, h3⟩
 ·obtain ⟨rv, h1, h2⟩ := h.each k hlt
  exact ⟨rv, h1, h2.keep fun b hl hu => hk b (.inr ⟨k, hlt, hl, hu⟩)⟩
 ·obtain ⟨h1, h2, h3, h4⟩ := h.apart k hlt
  exact ⟨h1, h2, Nat.le_trans h3 hz, h4⟩
theorem Out3.lt {B : Nat} {L U : Nat → Nat} {w : World} {v : Value} {vs : List Value} {ds : List (List (List Int))} (h : Out3 B L U w v vs ds) {b : Nat} (hb : T3 L U v ds.length b) : B ≤ b ∧ b < w.heap.size := by
 rcases hb with hb | ⟨k, hk, hl, hu⟩
 ·exact h.own.lt b hb
 ·obtain ⟨h1, h2, h3, _⟩ := h.apart k hk
  exact ⟨by omega, by omega⟩
theorem Out3.form {B : Nat} {L U : Nat → Nat} {w : World} {v : Value} {vs : List Value} {ds : List (List (List Int))} (h : Out3 B L U w v vs ds) : ∃ a c, v = .slice a ds.length c ∧ ds.length ≤ c ∧ c ≤ maxLen := own_form h.own
theorem Out3.start (w : World) (B : Nat) (hb : B ≤ w.heap.size) : Out3 B (fun _ => 0) (fun _ => 0) (w.alloc (.cells #[] 24)) (.slice (some ⟨w.heap.size, 0, none⟩) 0 0) [] [] :=
 ⟨own_lit0 w B _ 1 hb, fun k hk => by simp at hk, fun k hk => by simp at hk⟩
theorem getll_app1 {ds : List (List (List Int))} {l : List (List Int)} {k : Nat} (h : k < ds.length) : getll (ds ++ [l]) k = getll ds k := by
 simp [getll, List.getElem?_append_left h]
theorem getll_app2 {ds : List (List (List Int))} {l : List (List Int)} : getll (ds ++ [l]) ds.length = l := by
 unfold getll; simp
/-- One design more. w: before its copy is made; w2: the copy is made; w1: it is appended. -/
theorem Out3.push {B : Nat} {L U : Nat → Nat} {w w2 w1 : World} {v v1 rv : Value} {vs : List Value} {ds : List (List (List Int))} {l : List (List Int)}
  (h : Out3 B L U w v vs ds) (hB : B ≤ w.heap.size) (hb : Below w.heap.size w w2) (hx : F2 w.heap.size w2 rv l)
  (hown : w1.ownsRow B 24 1 v1 (ds.length + 1) (vs ++ [rv])) (hg : w2.grownBy w1 v.ownBlock) (hblk : v1.ownBlock = v.ownBlock ∨ ∃ g, v1.ownBlock = some g ∧ w2.heap.size ≤ g) :
  Out3 B (fun k => if k < ds.length then L k else w.heap.size) (fun k => if k < ds.length then U k else w2.heap.size) w1 v1 (vs ++ [rv]) (ds ++ [l]) ∧
  (∀ b, T3 (fun k => if k < ds.length then L k else w.heap.size) (fun k => if k < ds.length then U k else w2.heap.size) v1 (ds ++ [l]).length b → T3 L U v ds.length b ∨ w.heap.size ≤ b) := by
 have hvl1 := h.own.1
 have hz := hb.size
 have hz1 := hg.size
 refine ⟨⟨by simpa using hown, fun k hk => ?_, fun k hk => ?_⟩, fun b hb' => ?_⟩
 ·by_cases hkl : k < ds.length
  ·obtain ⟨rv', h4, h5⟩ := h.each k hkl
   obtain ⟨a1, a2, a3, a4, a5⟩ := h.apart k hkl
   refine ⟨rv', by rw [List.getElem?_append_left (by omega)]; exact h4, ?_⟩
   rw [getll_app1 hkl]
   simp only [hkl, if_true]
   refine h5.keep fun b hl hu => ?_
   rw [hg.block b (by omega) (fun e => by have := a4 b e.symm; omega), hb.block b (by omega)]
  ·have e : k = ds.length := by simp at hk; omega
   subst e
   refine ⟨rv, by rw [List.getElem?_append_right (by omega)]; simp [show ds.length - vs.length = 0 by omega], ?_⟩
   rw [getll_app2]
   simp only [Nat.lt_irrefl, if_false]
   exact (In2.of_F2 hx).keep fun b hl hu => hg.block b hu (fun e => by have := (h.own.lt b e.symm).2; omega)
 ·by_cases hkl : k < ds.length
  ·simp only [hkl, if_true]
   obtain ⟨a1, a2, a3, a4, a5⟩ := h.apart k hkl
   refine ⟨a1, a2, by omega, fun g hgg => ?_, fun j hj => ?_⟩
   ·rcases hblk with e | ⟨g', e, hge⟩
    ·exact a4 g (e ▸ hgg)
    ·rw [hgg] at e; cases e; omega
   ·simp only [show j < ds.length by omega, if_true]; exact a5 j hj
  ·have e : k = ds.length := by simp at hk; omega
   subst e
   simp only [Nat.lt_irrefl, if_false]
   refine ⟨hB, hz, hz1, fun g hgg => ?_, fun j hj => ?_⟩
   ·rcases hblk with e | ⟨g', e, hge⟩
    ·have := (h.own.lt g (e ▸ hgg)).2; omega
    ·rw [hgg] at e; cases e; omega
   ·simp only [hj, if_true]; exact (h.apart j hj).2.2.1
 ·rcases hb' with hb' | ⟨k, hk, hl, hu⟩
  ·rcases hblk with e | ⟨g', e, hge⟩
   ·exact .inl (.inl (e ▸ hb'))
   ·rw [hb'] at e; cases e; right; omega
  ·by_cases hkl : k < ds.length
   ·simp only [hkl, if_true] at hl hu
    exact .inl (.inr ⟨k, hkl, hl, hu⟩)
   ·simp only [hkl, if_false] at hl
    exact .inr hl
def RG (RB : Nat) (fv : Value) (b : Nat) : Prop := b = RB ∨ fv.ownBlock = some b
def sgCells (m : Mk) (tv fv : Value) (limit : Nat) (most : Int) (s : DSt) : Array Value := #[.int .i64 m.c, .int .i64 m.d, .int .i64 m.s, .int .i64 m.e, .int .i64 m.l, tv, .int .i64 (limit : Int), .int .i64 most, .int .i64 (s.1 : Int), .bool s.2.1, fv]
structure Sg (m : Mk) (tv : Value) (limit : Nat) (most : Int) (RB B : Nat) (s : DSt) (fv : Value) (w : World) : Prop where
 hh : w.heap[RB]? = some (.cells (sgCells m tv fv limit most s) 199 (0, 0))
 own : ∃ vs, w.ownsRow B 24 1 fv s.2.2.length vs ∧ ∀ k, k < s.2.2.length → ∃ rv, vs[k]? = some rv ∧ V2 (fun b => ¬ RG RB fv b) w rv (getll s.2.2 k)
 ne : fv.ownBlock ≠ some RB
 le : s.1 ≤ limit ∧ limit ≤ 4000
 lo : B ≤ w.heap.size
section
variable {m : Mk} {tv fv : Value} {limit : Nat} {most : Int} {RB B : Nat} {s : DSt} {w w' : World}
theorem Sg.below (h : Sg m tv limit most RB B s fv w) (hb : Below w.heap.size w w') : Sg m tv limit most RB B s fv w' := by
 obtain ⟨vs, h1, h2⟩ := h.own
 exact ⟨heap_below h.hh hb (lt_of_heap h.hh), ⟨vs, own_keep h1 hb, fun k hk => by obtain ⟨rv, g1, g2⟩ := h2 k hk; exact ⟨rv, g1, g2.below hb⟩⟩, h.ne, h.le, Nat.le_trans h.lo hb.size⟩
theorem Sg.lt (h : Sg m tv limit most RB B s fv w) {b : Nat} (hb : RG RB fv b) : b < w.heap.size := by
 rcases hb with rfl | hb
 ·exact lt_of_heap h.hh
 ·obtain ⟨vs, h1, _⟩ := h.own; exact (h1.lt _ hb).2
theorem Sg.cell (h : Sg m tv limit most RB B s fv w) (o : Nat) : w.cell? ⟨RB, o, none⟩ = (sgCells m tv fv limit most s)[o]? := by rw [cell_of_block h.hh]
theorem Sg.form (h : Sg m tv limit most RB B s fv w) : ∃ a c, fv = .slice a s.2.2.length c ∧ s.2.2.length ≤ c ∧ c ≤ maxLen := by
 obtain ⟨vs, h1, _⟩ := h.own; exact own_form h1
/-- A number or a mark in the state's own block. -/
theorem Sg.put {s' : DSt} {o : Nat} {v : Value} (h : Sg m tv limit most RB B s fv w) (hc : (sgCells m tv fv limit most s).setIfInBounds o v = sgCells m tv fv limit most s') (hs : s'.2.2 = s.2.2) (hle : s'.1 ≤ limit) : Sg m tv limit most RB B s' fv (w.setCell ⟨RB, o, none⟩ v) ∧ Chg (RG RB fv) w (w.setCell ⟨RB, o, none⟩ v) := by
 obtain ⟨vs, h1, h2⟩ := h.own
 have hC : Chg (fun b => b = RB) w (w.setCell ⟨RB, o, none⟩ v) := (Chg.refl (fun b => b = RB) _).setCell (p := ⟨RB, o, none⟩) (.inl rfl) _
 refine ⟨⟨by rw [heap_setCell_self h.hh]; rw [hc], ⟨vs, by rw [hs]; exact own_chg h1 hC (fun g hg e => h.ne (e ▸ hg)), fun k hk => ?_⟩, h.ne, ⟨hle, h.le.2⟩, by simpa using h.lo⟩, hC.mono (fun b hb => .inl hb)⟩
 obtain ⟨rv, g1, g2⟩ := h2 k (by rw [hs] at hk; exact hk)
 rw [hs]
 exact ⟨rv, g1, g2.mono (fun _ h _ => h) (hC.keep fun b hb e => hb (.inl e))⟩
end
theorem Fits.snoc {m : Mk} {t cuts : List (List Int)} {k : List Int} (h : Fits m t cuts) (hl : cuts.length < t.length) (hk : isKeyB m k = true) : Fits m t (cuts ++ [k]) := by
 have hkey : ∀ j, j < (cuts ++ [k]).length → isKeyB m (getl (cuts ++ [k]) j) = true := fun j hj => by
  by_cases e : j < cuts.length
  ·rw [getl_app1 e]; exact h.keys j e
  ·have e2 : j = cuts.length := by simp at hj; omega
   subst e2
   rw [getl_app2]; exact hk
 exact ⟨h.ok, h.rows, h.cols, h.doors, h.bits, by simp; omega, hkey, fun j hj => (isKey_iff.1 (hkey j hj)).1, fun j hj c hc => (isKey_iff.1 (hkey j hj)).2.1 _ (geti_mem hc)⟩
/-- A system in a box of its own, while more is drawn. -/
structure DrAt (B0 SB : Nat) (W W1 w3 : World) (m : Mk) (tv : Value) (T : List (List Int)) (w : World) : Prop where
 src : Src B0 SB w
 only : Only SB W w
 hm : w.heap[w3.heap.size]? = some (.cells #[.int .i64 m.c, .int .i64 m.d, .int .i64 m.s, .int .i64 m.e, .int .i64 m.l, tv] 33 (0, 0))
 hr : w.heap[W.heap.size]? = some (.cells #[.int .i64 0, .int .i64 0, .int .i64 0, .int .i64 0, .int .i64 0, .slice none 0 0] 33 (0, 0))
 tab : V2 (fun b => W1.heap.size ≤ b ∧ b < w3.heap.size) w tv T
theorem DrAt.step {B0 SB : Nat} {W W1 w3 w w' : World} {m : Mk} {tv : Value} {T : List (List Int)} (h : DrAt B0 SB W W1 w3 m tv T w) (hs : Src B0 SB w') (ho : Only SB w w') (h1 : SB < W.heap.size) (h2 : SB < W1.heap.size) (h3 : SB < w3.heap.size) : DrAt B0 SB W W1 w3 m tv T w' :=
 ⟨hs, h.only.trans ho, ho.heap h.hm (fun e => by omega), ho.heap h.hr (fun e => by omega), h.tab.mono (fun _ h _ => h) (fun b hb hlt => ho.block b hlt (fun e => by have := hb.1; omega))⟩
end Go.Proofs.YtmjplkbmhdkggaaGreat
