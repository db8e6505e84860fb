/- Whether open partial cuts stay open with one more key: staysOpen as it is called. No conditions. -/
import Derived.Test.YtmjplkbmhdkggaaGreatMStay
import Derived.Test.YtmjplkbmhdkggaaGreatMEach5
namespace Go.Proofs.YtmjplkbmhdkggaaGreat
open Go.RowKit
set_option linter.unusedVariables false
set_option linter.unusedSimpArgs false
set_option maxRecDepth 100000 in
set_option maxHeartbeats 2000000 in
theorem staysOpen_any {S : Nat → Prop} (m : Mk) (u v : Value) (t cuts : List (List Int)) (n : Nat) (W : World) (hf : Fits m t cuts) (hn : (n : Int) = m.c) (hct : cuts.length < t.length) (h : V2 S W u t) (hc : V2 S W v cuts) :
  Calls Tryz.prog 189 #[.agg #[.int .i64 m.c, .int .i64 m.d, .int .i64 m.s, .int .i64 m.e, .int .i64 m.l, u], v] W (StayPost (fun b => S b ∧ b < W.heap.size ∨ W.heap.size ≤ b) m t cuts (locksTo n t cuts (getl t 0).length) W) := by
 obtain ⟨ta, tc, rfl, htm⟩ := h.form
 obtain ⟨ca, cc, rfl, hcm⟩ := hc.form
 obtain ⟨WA, hWA⟩ : ∃ WA, WA = (W.alloc (.cells #[.int .i64 m.c, .int .i64 m.d, .int .i64 m.s, .int .i64 m.e, .int .i64 m.l, .slice ta t.length tc] 33)).alloc (.cells #[.slice ca cuts.length cc] 24) := ⟨_, rfl⟩
 have hbA : Below W.heap.size W WA := by rw [hWA]; exact by (repeat (first | (with_reducible refine Below.setCell ?_ ?_ _) | (with_reducible refine Below.alloc ?_ ?_ _) | (with_reducible refine Below.drew ?_) | (with_reducible refine below_drewN ?_ _) | (with_reducible exact Below.refl _ _) | (with_reducible assumption) | (with_reducible refine Below.trans ?_ (Below.mono (by with_reducible assumption) ?_)) | go_size))
 have hzA : WA.heap.size = W.heap.size + 2 := by rw [hWA]; simp
 have hA0 : WA.heap[W.heap.size]? = some (.cells #[.int .i64 m.c, .int .i64 m.d, .int .i64 m.s, .int .i64 m.e, .int .i64 m.l, .slice ta t.length tc] 33 (0, 0)) := by rw [hWA]; simp only [heap_alloc_at, World.size_alloc]; simp
 have hA1 : WA.heap[W.heap.size + 1]? = some (.cells #[.slice ca cuts.length cc] 24 (0, 0)) := by rw [hWA]; simp only [heap_alloc_at, World.size_alloc]; simp
 have htN := h.mono (S' := fun b => S b ∧ b < W.heap.size) (fun b h1 h2 => ⟨h1, h2⟩) (fun _ _ _ => rfl)
 have hcN := hc.mono (S' := fun b => S b ∧ b < W.heap.size) (fun b h1 h2 => ⟨h1, h2⟩) (fun _ _ _ => rfl)
 obtain ⟨b1, off1, a1, c1, rfl, hs1, hc1, hr1⟩ := htN.cell hct
 have hlk := fun w (hb : Below W.heap.size W w) => partLocks_any m (.slice (some ⟨b1, off1, none⟩) t.length tc) (.slice ca cuts.length cc) t cuts n w hf hn (htN.below hb) (hcN.below hb)
 have hcti : (cuts.length : Int) < (t.length : Int) := by omega
 have hS0 : ∀ o, WA.cell? ⟨W.heap.size, o, none⟩ = (#[.int .i64 m.c, .int .i64 m.d, .int .i64 m.s, .int .i64 m.e, .int .i64 m.l, .slice (some ⟨b1, off1, none⟩) t.length tc] : Array Value)[o]? := fun o => cell_of_block hA0 o
 have hC0 : WA.cell? ⟨W.heap.size + 1, 0, none⟩ = some (.slice ca cuts.length cc) := by rw [cell_of_block hA1]; rfl
 have hc1A := cell_keep hc1 (hbA.block _ (lt_of_cell hc1))
 have H := Lib.hid (And.intro hlk (And.intro htN (And.intro hcN (And.intro hbA (And.intro hr1 (And.intro hWA (And.intro hA0 hA1))))))); clear hlk htN hcN hbA hr1 hA0 hA1 h hc
 go_enter Tryz.func189, Tryz.ntmps189
 go_wp2_with fail
 rw [← hWA]
 have HWA := Lib.hid hWA; clear hWA
 have hSk : ∀ w', Below WA.heap.size WA w' → (∀ o, w'.cell? ⟨W.heap.size, o, none⟩ = (#[.int .i64 m.c, .int .i64 m.d, .int .i64 m.s, .int .i64 m.e, .int .i64 m.l, .slice (some ⟨b1, off1, none⟩) t.length tc] : Array Value)[o]?) ∧ w'.cell? ⟨W.heap.size + 1, 0, none⟩ = some (.slice ca cuts.length cc) ∧ w'.cell? ⟨b1, off1 + cuts.length, none⟩ = some (.slice a1 (getl t cuts.length).length c1) ∧ Below WA.heap.size WA w' := fun w' hb =>
  ⟨fun o => by rw [(bcell hb).1 _ _ (by omega), hS0], cell_keep hC0 (hb.block _ (lt_of_cell hC0)), cell_keep hc1A (hb.block _ (lt_of_cell hc1A)), hb⟩
 have hlkA := fun w (hb : Below WA.heap.size WA w) => H.out.1 w (H.out.2.2.2.1.trans (hb.mono (by omega)))
 have HlkA := Lib.hid hlkA; clear hlkA
 have hSD := hSk WA.drew ((Below.refl _ _).drew)
 refine wp_region_noPanic ?_
 refine wp_region_held_drew (S := fun w' => (∀ o, w'.cell? ⟨W.heap.size, o, none⟩ = (#[.int .i64 m.c, .int .i64 m.d, .int .i64 m.s, .int .i64 m.e, .int .i64 m.l, .slice (some ⟨b1, off1, none⟩) t.length tc] : Array Value)[o]?) ∧ w'.cell? ⟨W.heap.size + 1, 0, none⟩ = some (.slice ca cuts.length cc) ∧ w'.cell? ⟨b1, off1 + cuts.length, none⟩ = some (.slice a1 (getl t cuts.length).length c1) ∧ Below WA.heap.size WA w') (by kernel_rfl) hSD (fun hHeld => ?_)
 (refine wpAnyH_take (i := 0) (v := .agg #[.int .i64 m.c, .int .i64 m.d, .int .i64 m.s, .int .i64 m.e, .int .i64 m.l, .slice (some ⟨b1, off1, none⟩) t.length tc]) rfl (by kernel_rfl) (by kernel_rfl) (by kernel_rfl) (fun _ _ _ h => h) (Or.inl ⟨by kernel_rfl, fun w hSw => by (try dsimp only at hSw); go_split_ands; go_simp⟩) (by assumption) ?_; simp only [Act.put, List.setIfInBounds_toArray, List.set_cons_zero, List.set_cons_succ])
 (refine wpAnyH_take (i := 1) (v := .slice ca cuts.length cc) rfl (by kernel_rfl) (by kernel_rfl) (by kernel_rfl) (fun _ _ _ h => h) (Or.inl ⟨by kernel_rfl, fun w hSw => by (try dsimp only at hSw); go_split_ands; go_simp⟩) (by assumption) ?_; simp only [Act.put, List.setIfInBounds_toArray, List.set_cons_zero, List.set_cons_succ])
 (refine wpAnyH_take (i := 3) (v := .pointer (some ⟨W.heap.size, 5, none⟩)) rfl (by kernel_rfl) (by kernel_rfl) (by kernel_rfl) (fun _ _ _ h => h) (Or.inl ⟨by kernel_rfl, fun w hSw => by (try dsimp only at hSw); go_split_ands; go_simp⟩) (by assumption) ?_; simp only [Act.put, List.setIfInBounds_toArray, List.set_cons_zero, List.set_cons_succ])
 (refine wpAnyH_take (i := 4) (v := .slice (some ⟨b1, off1, none⟩) t.length tc) rfl (by kernel_rfl) (by kernel_rfl) (by kernel_rfl) (fun _ _ _ h => h) (Or.inl ⟨by kernel_rfl, fun w hSw => by (try dsimp only at hSw); go_split_ands; go_simp⟩) (by assumption) ?_; simp only [Act.put, List.setIfInBounds_toArray, List.set_cons_zero, List.set_cons_succ])
 (refine wpAnyH_take (i := 5) (v := .slice ca cuts.length cc) rfl (by kernel_rfl) (by kernel_rfl) (by kernel_rfl) (fun _ _ _ h => h) (Or.inl ⟨by kernel_rfl, fun w hSw => by (try dsimp only at hSw); go_split_ands; go_simp⟩) (by assumption) ?_; simp only [Act.put, List.setIfInBounds_toArray, List.set_cons_zero, List.set_cons_succ])
 (refine wpAnyH_take (i := 6) (v := .int .i64 (cuts.length : Int)) rfl (by kernel_rfl) (by kernel_rfl) (by kernel_rfl) (fun _ _ _ h => h) (Or.inl ⟨by kernel_rfl, fun w hSw => by (try dsimp only at hSw); go_split_ands; go_simp⟩) (by assumption) ?_; simp only [Act.put, List.setIfInBounds_toArray, List.set_cons_zero, List.set_cons_succ])
 (refine wpAnyH_take (i := 7) (v := .pointer (some ⟨b1, off1 + cuts.length, none⟩)) rfl (by kernel_rfl) (by kernel_rfl) (by kernel_rfl) (fun _ _ _ h => h) (Or.inl ⟨by kernel_rfl, fun w hSw => by (try dsimp only at hSw); go_split_ands; go_simp⟩) (by assumption) ?_; simp only [Act.put, List.setIfInBounds_toArray, List.set_cons_zero, List.set_cons_succ])
 (refine wpAnyH_take (i := 8) (v := .slice a1 (getl t cuts.length).length c1) rfl (by kernel_rfl) (by kernel_rfl) (by kernel_rfl) (fun _ _ _ h => h) (Or.inl ⟨by kernel_rfl, fun w hSw => by (try dsimp only at hSw); go_split_ands; go_simp⟩) (by assumption) ?_; simp only [Act.put, List.setIfInBounds_toArray, List.set_cons_zero, List.set_cons_succ])
 have hzA1 := Nat.le_of_eq hzA
 have hzA2 := Nat.le_of_eq hzA.symm
 clear hzA
 have hbD : Below WA.heap.size WA WA.drew := (Below.refl _ _).drew
 refine wpAnyH_ready (rs := [2, 9, 10]) (by kernel_rfl) (by simp) (AllReadyH.cons rfl (fun K hK => ?_) (AllReadyH.cons rfl (fun K hK => ?_) (AllReadyH.cons rfl (fun K hK => ?_) AllReadyH.nil)))
 ·go_simp
  go_at_call 123
  refine (HlkA.out _ hbD).mono ?_
  rintro e' wl ⟨lv, rfl, hLk, hbl⟩
  obtain ⟨la, lc, rfl, hlm⟩ := hLk.form
  dsimp only
  have hbw : Below WA.heap.size WA wl := hbD.trans (hbl.mono hbD.size)
  have hzl := hbl.size
  (try simp only [World.size_drew, World.size_alloc] at hzl)
  have hSl := hSk _ hbw
  (refine hK.out _ _ hSl (fun hHeld => ?_); clear hK K; (try simp only [Act.put, List.setIfInBounds_toArray, List.set_cons_zero, List.set_cons_succ]))
  refine wpAnyH_ready (rs := [9, 10]) (by kernel_rfl) (by simp) (AllReadyH.cons rfl (fun K hK => ?_) (AllReadyH.cons rfl (fun K hK => ?_) AllReadyH.nil))
  ·go_simp
   have hbLB : Below WA.heap.size WA ((wl).alloc (.cells #[.slice none 0 0] 132)) := hbw.alloc hbw.size _
   have hLB : ((wl).alloc (.cells #[.slice none 0 0] 132)).heap[wl.heap.size]? = some (.cells #[.slice none 0 0] 132 (0, 0)) := by have h0 := heap_alloc_self (wl) (.cells #[.slice none 0 0] 132); simpa using h0
   have hSLB := hSk _ hbLB
   (refine hK.out _ _ hSLB (fun hHeld => ?_); clear hK K; (try simp only [Act.put, List.setIfInBounds_toArray, List.set_cons_zero, List.set_cons_succ]))
   refine wpAnyH_ready (rs := [10]) (by kernel_rfl) (by simp) (AllReadyH.cons rfl (fun K hK => ?_) AllReadyH.nil)
   go_simp
   have hbRB : Below WA.heap.size WA (((wl).alloc (.cells #[.slice none 0 0] 132)).alloc (.cells #[.slice none 0 0] 44)) := hbLB.alloc hbLB.size _
   have hRB : (((wl).alloc (.cells #[.slice none 0 0] 132)).alloc (.cells #[.slice none 0 0] 44)).heap[wl.heap.size + 1]? = some (.cells #[.slice none 0 0] 44 (0, 0)) := by have h0 := heap_alloc_self ((wl).alloc (.cells #[.slice none 0 0] 132)) (.cells #[.slice none 0 0] 44); simpa using h0
   have hLB : (((wl).alloc (.cells #[.slice none 0 0] 132)).alloc (.cells #[.slice none 0 0] 44)).heap[wl.heap.size]? = some (.cells #[.slice none 0 0] 132 (0, 0)) := (Below.heap_alloc _ _ _ (lt_of_heap hLB)).trans hLB
   have hSRB := hSk _ hbRB
   (refine hK.out _ _ hSRB (fun hHeld => ?_); clear hK K; (try simp only [Act.put, List.setIfInBounds_toArray, List.set_cons_zero, List.set_cons_succ]))
   have hBX := hbRB
   obtain ⟨wx, hwx⟩ : ∃ wx, ((wl).alloc (.cells #[.slice none 0 0] 132)).alloc (.cells #[.slice none 0 0] 44) = wx := ⟨_, rfl⟩
   rw [hwx] at hLB hRB hBX ⊢
   have hLl := lt_of_heap hLB
   have hRl := lt_of_heap hRB
   have hXz : WA.heap.size ≤ (WA.drew).heap.size := by first | exact hbD.size | exact hbLB.size | exact hbRB.size
   (try simp only [World.size_drew, World.size_alloc] at hXz)
   have hLk2 : V3 (fun b => (b ≠ wl.heap.size ∧ b ≠ wl.heap.size + 1) ∧ WA.heap.size ≤ b) wx (.slice la (locksTo n t cuts (getl t 0).length).length lc) (locksTo n t cuts (getl t 0).length) := hLk.mono (fun b h1 h2 => by (try simp only [World.size_drew, World.size_alloc] at h1); refine ⟨⟨?_, ?_⟩, ?_⟩ <;> omega) (fun b _ hlt => by subst hwx; first | rfl | exact Below.heap_alloc _ _ _ hlt | (exact (Below.heap_alloc _ _ _ (by simp; omega)).trans (Below.heap_alloc _ _ _ hlt)))
   have hne1 : ¬ wl.heap.size = wl.heap.size + 1 := by omega
   have hne2 : ¬ wl.heap.size + 1 = wl.heap.size := by omega
   have cLB := cell_of_block hLB 0
   have cRB := cell_of_block hRB 0
   simp only [List.getElem?_toArray, List.getElem?_cons_zero] at cLB cRB
   have fLB := frozen_of_block hLB 0
   have fRB := frozen_of_block hRB 0
   have hb1 := hBX.setCell (p := ⟨wl.heap.size, 0, none⟩) (show WA.heap.size ≤ wl.heap.size by omega) (.slice la (locksTo n t cuts (getl t 0).length).length lc)
   have hb2 := hb1.setCell (p := ⟨wl.heap.size + 1, 0, none⟩) (show WA.heap.size ≤ wl.heap.size + 1 by omega) (.slice a1 (getl t cuts.length).length c1)
   have hT1 := hSk _ hb1
   have hT2 := hSk _ hb2
   have hhL : ((wx.setCell ⟨wl.heap.size, 0, none⟩ (.slice la (locksTo n t cuts (getl t 0).length).length lc)).setCell ⟨wl.heap.size + 1, 0, none⟩ (.slice a1 (getl t cuts.length).length c1)).heap[wl.heap.size]? = some (.cells #[.slice la (locksTo n t cuts (getl t 0).length).length lc] 132 (0, 0)) := by
    rw [heap_setCell_other _ hne1, heap_setCell_self hLB]; rfl
   have hhR : ((wx.setCell ⟨wl.heap.size, 0, none⟩ (.slice la (locksTo n t cuts (getl t 0).length).length lc)).setCell ⟨wl.heap.size + 1, 0, none⟩ (.slice a1 (getl t cuts.length).length c1)).heap[wl.heap.size + 1]? = some (.cells #[.slice a1 (getl t cuts.length).length c1] 44 (0, 0)) := by
    rw [heap_setCell_self (by rw [heap_setCell_other _ hne2]; exact hRB)]; rfl
   have hLk3 := hLk2.mono (S' := fun b => S b ∧ b < W.heap.size ∨ W.heap.size ≤ b) (fun b h1 _ => .inr (by have := h1.2; omega)) (fun b hb _ => (heap_setCell_other (b := wl.heap.size + 1) (off := 0) (.slice a1 (getl t cuts.length).length c1) hb.1.2).trans (heap_setCell_other (b := wl.heap.size) (off := 0) (.slice la (locksTo n t cuts (getl t 0).length).length lc) hb.1.1))
   have hBW := H.out.2.2.2.1.trans (hb2.mono (by omega))
   have HE := Lib.hid (And.intro hhL (And.intro hhR (And.intro hLk3 (And.intro hBW hT2)))); clear hhL hhR hLk3 hBW hb2 hLk2
   (refine wpAnyH_ready (rs := [11]) (by kernel_rfl) (by simp) (AllReadyH.cons rfl (fun K hK => ?_) AllReadyH.nil); go_simp)
   (refine hK.out _ _ hT1 (fun hHeld => ?_); clear hK K; (try simp only [Act.put, List.setIfInBounds_toArray, List.set_cons_zero, List.set_cons_succ]))
   (refine wpAnyH_ready (rs := [12]) (by kernel_rfl) (by simp) (AllReadyH.cons rfl (fun K hK => ?_) AllReadyH.nil); go_simp)
   (refine hK.out _ _ hT2 (fun hHeld => ?_); clear hK K; (try simp only [Act.put, List.setIfInBounds_toArray, List.set_cons_zero, List.set_cons_succ]))
   refine wpAnyH_done (by kernel_rfl) (NoPanic.normal ?_) _
   clear hT1 hT2 cLB cRB fLB fRB
   go_wp2_with fail
   go_ret
   refine ⟨wl.heap.size, wl.heap.size + 1, W.heap.size + 1, W.heap.size, rfl, ⟨_, _, _, _, by rw [cell_of_block HE.out.1]; rfl, by rw [cell_of_block HE.out.2.1]; rfl, HE.out.2.2.2.2.2.1, HE.out.2.2.2.2.1, ?_, .inr (by omega), .inr (by omega), .inr (by omega), .inr (by omega), HE.out.2.2.1, (H.out.2.2.2.2.1.below HE.out.2.2.2.1).mono (fun b hb _ => .inl hb) (fun _ _ _ => rfl), (H.out.2.2.1.below HE.out.2.2.2.1).mono (fun b hb _ => .inl hb) (fun _ _ _ => rfl), (H.out.2.1.below HE.out.2.2.2.1).mono (fun b hb _ => .inl hb) (fun _ _ _ => rfl)⟩, HE.out.2.2.2.1⟩
   have h1 := HE.out.2.2.2.2.2.2.2.size
   omega
  ·go_simp
   have hbRB : Below WA.heap.size WA ((wl).alloc (.cells #[.slice none 0 0] 44)) := hbw.alloc hbw.size _
   have hRB : ((wl).alloc (.cells #[.slice none 0 0] 44)).heap[wl.heap.size]? = some (.cells #[.slice none 0 0] 44 (0, 0)) := by have h0 := heap_alloc_self (wl) (.cells #[.slice none 0 0] 44); simpa using h0
   have hSRB := hSk _ hbRB
   (refine hK.out _ _ hSRB (fun hHeld => ?_); clear hK K; (try simp only [Act.put, List.setIfInBounds_toArray, List.set_cons_zero, List.set_cons_succ]))
   refine wpAnyH_ready (rs := [9]) (by kernel_rfl) (by simp) (AllReadyH.cons rfl (fun K hK => ?_) AllReadyH.nil)
   go_simp
   have hbLB : Below WA.heap.size WA (((wl).alloc (.cells #[.slice none 0 0] 44)).alloc (.cells #[.slice none 0 0] 132)) := hbRB.alloc hbRB.size _
   have hLB : (((wl).alloc (.cells #[.slice none 0 0] 44)).alloc (.cells #[.slice none 0 0] 132)).heap[wl.heap.size + 1]? = some (.cells #[.slice none 0 0] 132 (0, 0)) := by have h0 := heap_alloc_self ((wl).alloc (.cells #[.slice none 0 0] 44)) (.cells #[.slice none 0 0] 132); simpa using h0
   have hRB : (((wl).alloc (.cells #[.slice none 0 0] 44)).alloc (.cells #[.slice none 0 0] 132)).heap[wl.heap.size]? = some (.cells #[.slice none 0 0] 44 (0, 0)) := (Below.heap_alloc _ _ _ (lt_of_heap hRB)).trans hRB
   have hSLB := hSk _ hbLB
   (refine hK.out _ _ hSLB (fun hHeld => ?_); clear hK K; (try simp only [Act.put, List.setIfInBounds_toArray, List.set_cons_zero, List.set_cons_succ]))
   have hBX := hbLB
   obtain ⟨wx, hwx⟩ : ∃ wx, ((wl).alloc (.cells #[.slice none 0 0] 44)).alloc (.cells #[.slice none 0 0] 132) = wx := ⟨_, rfl⟩
   rw [hwx] at hLB hRB hBX ⊢
   have hLl := lt_of_heap hLB
   have hRl := lt_of_heap hRB
   have hXz : WA.heap.size ≤ (WA.drew).heap.size := by first | exact hbD.size | exact hbLB.size | exact hbRB.size
   (try simp only [World.size_drew, World.size_alloc] at hXz)
   have hLk2 : V3 (fun b => (b ≠ wl.heap.size + 1 ∧ b ≠ wl.heap.size) ∧ WA.heap.size ≤ b) wx (.slice la (locksTo n t cuts (getl t 0).length).length lc) (locksTo n t cuts (getl t 0).length) := hLk.mono (fun b h1 h2 => by (try simp only [World.size_drew, World.size_alloc] at h1); refine ⟨⟨?_, ?_⟩, ?_⟩ <;> omega) (fun b _ hlt => by subst hwx; first | rfl | exact Below.heap_alloc _ _ _ hlt | (exact (Below.heap_alloc _ _ _ (by simp; omega)).trans (Below.heap_alloc _ _ _ hlt)))
   have hne1 : ¬ wl.heap.size + 1 = wl.heap.size := by omega
   have hne2 : ¬ wl.heap.size = wl.heap.size + 1 := by omega
   have cLB := cell_of_block hLB 0
   have cRB := cell_of_block hRB 0
   simp only [List.getElem?_toArray, List.getElem?_cons_zero] at cLB cRB
   have fLB := frozen_of_block hLB 0
   have fRB := frozen_of_block hRB 0
   have hb1 := hBX.setCell (p := ⟨wl.heap.size + 1, 0, none⟩) (show WA.heap.size ≤ wl.heap.size + 1 by omega) (.slice la (locksTo n t cuts (getl t 0).length).length lc)
   have hb2 := hb1.setCell (p := ⟨wl.heap.size, 0, none⟩) (show WA.heap.size ≤ wl.heap.size by omega) (.slice a1 (getl t cuts.length).length c1)
   have hT1 := hSk _ hb1
   have hT2 := hSk _ hb2
   have hhL : ((wx.setCell ⟨wl.heap.size + 1, 0, none⟩ (.slice la (locksTo n t cuts (getl t 0).length).length lc)).setCell ⟨wl.heap.size, 0, none⟩ (.slice a1 (getl t cuts.length).length c1)).heap[wl.heap.size + 1]? = some (.cells #[.slice la (locksTo n t cuts (getl t 0).length).length lc] 132 (0, 0)) := by
    rw [heap_setCell_other _ hne1, heap_setCell_self hLB]; rfl
   have hhR : ((wx.setCell ⟨wl.heap.size + 1, 0, none⟩ (.slice la (locksTo n t cuts (getl t 0).length).length lc)).setCell ⟨wl.heap.size, 0, none⟩ (.slice a1 (getl t cuts.length).length c1)).heap[wl.heap.size]? = some (.cells #[.slice a1 (getl t cuts.length).length c1] 44 (0, 0)) := by
    rw [heap_setCell_self (by rw [heap_setCell_other _ hne2]; exact hRB)]; rfl
   have hLk3 := hLk2.mono (S' := fun b => S b ∧ b < W.heap.size ∨ W.heap.size ≤ b) (fun b h1 _ => .inr (by have := h1.2; omega)) (fun b hb _ => (heap_setCell_other (b := wl.heap.size) (off := 0) (.slice a1 (getl t cuts.length).length c1) hb.1.2).trans (heap_setCell_other (b := wl.heap.size + 1) (off := 0) (.slice la (locksTo n t cuts (getl t 0).length).length lc) hb.1.1))
   have hBW := H.out.2.2.2.1.trans (hb2.mono (by omega))
   have HE := Lib.hid (And.intro hhL (And.intro hhR (And.intro hLk3 (And.intro hBW hT2)))); clear hhL hhR hLk3 hBW hb2 hLk2
   (refine wpAnyH_ready (rs := [11]) (by kernel_rfl) (by simp) (AllReadyH.cons rfl (fun K hK => ?_) AllReadyH.nil); go_simp)
   (refine hK.out _ _ hT1 (fun hHeld => ?_); clear hK K; (try simp only [Act.put, List.setIfInBounds_toArray, List.set_cons_zero, List.set_cons_succ]))
   (refine wpAnyH_ready (rs := [12]) (by kernel_rfl) (by simp) (AllReadyH.cons rfl (fun K hK => ?_) AllReadyH.nil); go_simp)
   (refine hK.out _ _ hT2 (fun hHeld => ?_); clear hK K; (try simp only [Act.put, List.setIfInBounds_toArray, List.set_cons_zero, List.set_cons_succ]))
   refine wpAnyH_done (by kernel_rfl) (NoPanic.normal ?_) _
   clear hT1 hT2 cLB cRB fLB fRB
   go_wp2_with fail
   go_ret
   refine ⟨wl.heap.size + 1, wl.heap.size, W.heap.size + 1, W.heap.size, rfl, ⟨_, _, _, _, by rw [cell_of_block HE.out.1]; rfl, by rw [cell_of_block HE.out.2.1]; rfl, HE.out.2.2.2.2.2.1, HE.out.2.2.2.2.1, ?_, .inr (by omega), .inr (by omega), .inr (by omega), .inr (by omega), HE.out.2.2.1, (H.out.2.2.2.2.1.below HE.out.2.2.2.1).mono (fun b hb _ => .inl hb) (fun _ _ _ => rfl), (H.out.2.2.1.below HE.out.2.2.2.1).mono (fun b hb _ => .inl hb) (fun _ _ _ => rfl), (H.out.2.1.below HE.out.2.2.2.1).mono (fun b hb _ => .inl hb) (fun _ _ _ => rfl)⟩, HE.out.2.2.2.1⟩
   have h1 := HE.out.2.2.2.2.2.2.2.size
   omega
 ·go_simp
  have hbLB : Below WA.heap.size WA ((WA.drew).alloc (.cells #[.slice none 0 0] 132)) := hbD.alloc hbD.size _
  have hLB : ((WA.drew).alloc (.cells #[.slice none 0 0] 132)).heap[WA.heap.size]? = some (.cells #[.slice none 0 0] 132 (0, 0)) := by have h0 := heap_alloc_self (WA.drew) (.cells #[.slice none 0 0] 132); simpa using h0
  have hSLB := hSk _ hbLB
  (refine hK.out _ _ hSLB (fun hHeld => ?_); clear hK K; (try simp only [Act.put, List.setIfInBounds_toArray, List.set_cons_zero, List.set_cons_succ]))
  refine wpAnyH_ready (rs := [2, 10]) (by kernel_rfl) (by simp) (AllReadyH.cons rfl (fun K hK => ?_) (AllReadyH.cons rfl (fun K hK => ?_) AllReadyH.nil))
  ·go_simp
   go_at_call 123
   refine (HlkA.out _ hbLB).mono ?_
   rintro e' wl ⟨lv, rfl, hLk, hbl⟩
   obtain ⟨la, lc, rfl, hlm⟩ := hLk.form
   dsimp only
   have hbw : Below WA.heap.size WA wl := hbLB.trans (hbl.mono hbLB.size)
   have hzl := hbl.size
   (try simp only [World.size_drew, World.size_alloc] at hzl)
   have hSl := hSk _ hbw
   (refine hK.out _ _ hSl (fun hHeld => ?_); clear hK K; (try simp only [Act.put, List.setIfInBounds_toArray, List.set_cons_zero, List.set_cons_succ]))
   have hLB : wl.heap[WA.heap.size]? = some (.cells #[.slice none 0 0] 132 (0, 0)) := (hbl.block _ (lt_of_heap hLB)).trans hLB
   refine wpAnyH_ready (rs := [10]) (by kernel_rfl) (by simp) (AllReadyH.cons rfl (fun K hK => ?_) AllReadyH.nil)
   go_simp
   have hbRB : Below WA.heap.size WA ((wl).alloc (.cells #[.slice none 0 0] 44)) := hbw.alloc hbw.size _
   have hRB : ((wl).alloc (.cells #[.slice none 0 0] 44)).heap[wl.heap.size]? = some (.cells #[.slice none 0 0] 44 (0, 0)) := by have h0 := heap_alloc_self (wl) (.cells #[.slice none 0 0] 44); simpa using h0
   have hLB : ((wl).alloc (.cells #[.slice none 0 0] 44)).heap[WA.heap.size]? = some (.cells #[.slice none 0 0] 132 (0, 0)) := (Below.heap_alloc _ _ _ (lt_of_heap hLB)).trans hLB
   have hSRB := hSk _ hbRB
   (refine hK.out _ _ hSRB (fun hHeld => ?_); clear hK K; (try simp only [Act.put, List.setIfInBounds_toArray, List.set_cons_zero, List.set_cons_succ]))
   have hBX := hbRB
   obtain ⟨wx, hwx⟩ : ∃ wx, (wl).alloc (.cells #[.slice none 0 0] 44) = wx := ⟨_, rfl⟩
   rw [hwx] at hLB hRB hBX ⊢
   have hLl := lt_of_heap hLB
   have hRl := lt_of_heap hRB
   have hXz : WA.heap.size ≤ ((WA.drew).alloc (.cells #[.slice none 0 0] 132)).heap.size := by first | exact hbD.size | exact hbLB.size | exact hbRB.size
   (try simp only [World.size_drew, World.size_alloc] at hXz)
   have hLk2 : V3 (fun b => (b ≠ WA.heap.size ∧ b ≠ wl.heap.size) ∧ WA.heap.size ≤ b) wx (.slice la (locksTo n t cuts (getl t 0).length).length lc) (locksTo n t cuts (getl t 0).length) := hLk.mono (fun b h1 h2 => by (try simp only [World.size_drew, World.size_alloc] at h1); refine ⟨⟨?_, ?_⟩, ?_⟩ <;> omega) (fun b _ hlt => by subst hwx; first | rfl | exact Below.heap_alloc _ _ _ hlt | (exact (Below.heap_alloc _ _ _ (by simp; omega)).trans (Below.heap_alloc _ _ _ hlt)))
   have hne1 : ¬ WA.heap.size = wl.heap.size := by omega
   have hne2 : ¬ wl.heap.size = WA.heap.size := by omega
   have cLB := cell_of_block hLB 0
   have cRB := cell_of_block hRB 0
   simp only [List.getElem?_toArray, List.getElem?_cons_zero] at cLB cRB
   have fLB := frozen_of_block hLB 0
   have fRB := frozen_of_block hRB 0
   have hb1 := hBX.setCell (p := ⟨WA.heap.size, 0, none⟩) (show WA.heap.size ≤ WA.heap.size by omega) (.slice la (locksTo n t cuts (getl t 0).length).length lc)
   have hb2 := hb1.setCell (p := ⟨wl.heap.size, 0, none⟩) (show WA.heap.size ≤ wl.heap.size by omega) (.slice a1 (getl t cuts.length).length c1)
   have hT1 := hSk _ hb1
   have hT2 := hSk _ hb2
   have hhL : ((wx.setCell ⟨WA.heap.size, 0, none⟩ (.slice la (locksTo n t cuts (getl t 0).length).length lc)).setCell ⟨wl.heap.size, 0, none⟩ (.slice a1 (getl t cuts.length).length c1)).heap[WA.heap.size]? = some (.cells #[.slice la (locksTo n t cuts (getl t 0).length).length lc] 132 (0, 0)) := by
    rw [heap_setCell_other _ hne1, heap_setCell_self hLB]; rfl
   have hhR : ((wx.setCell ⟨WA.heap.size, 0, none⟩ (.slice la (locksTo n t cuts (getl t 0).length).length lc)).setCell ⟨wl.heap.size, 0, none⟩ (.slice a1 (getl t cuts.length).length c1)).heap[wl.heap.size]? = some (.cells #[.slice a1 (getl t cuts.length).length c1] 44 (0, 0)) := by
    rw [heap_setCell_self (by rw [heap_setCell_other _ hne2]; exact hRB)]; rfl
   have hLk3 := hLk2.mono (S' := fun b => S b ∧ b < W.heap.size ∨ W.heap.size ≤ b) (fun b h1 _ => .inr (by have := h1.2; omega)) (fun b hb _ => (heap_setCell_other (b := wl.heap.size) (off := 0) (.slice a1 (getl t cuts.length).length c1) hb.1.2).trans (heap_setCell_other (b := WA.heap.size) (off := 0) (.slice la (locksTo n t cuts (getl t 0).length).length lc) hb.1.1))
   have hBW := H.out.2.2.2.1.trans (hb2.mono (by omega))
   have HE := Lib.hid (And.intro hhL (And.intro hhR (And.intro hLk3 (And.intro hBW hT2)))); clear hhL hhR hLk3 hBW hb2 hLk2
   (refine wpAnyH_ready (rs := [11]) (by kernel_rfl) (by simp) (AllReadyH.cons rfl (fun K hK => ?_) AllReadyH.nil); go_simp)
   (refine hK.out _ _ hT1 (fun hHeld => ?_); clear hK K; (try simp only [Act.put, List.setIfInBounds_toArray, List.set_cons_zero, List.set_cons_succ]))
   (refine wpAnyH_ready (rs := [12]) (by kernel_rfl) (by simp) (AllReadyH.cons rfl (fun K hK => ?_) AllReadyH.nil); go_simp)
   (refine hK.out _ _ hT2 (fun hHeld => ?_); clear hK K; (try simp only [Act.put, List.setIfInBounds_toArray, List.set_cons_zero, List.set_cons_succ]))
   refine wpAnyH_done (by kernel_rfl) (NoPanic.normal ?_) _
   clear hT1 hT2 cLB cRB fLB fRB
   go_wp2_with fail
   go_ret
   refine ⟨WA.heap.size, wl.heap.size, W.heap.size + 1, W.heap.size, rfl, ⟨_, _, _, _, by rw [cell_of_block HE.out.1]; rfl, by rw [cell_of_block HE.out.2.1]; rfl, HE.out.2.2.2.2.2.1, HE.out.2.2.2.2.1, ?_, .inr (by omega), .inr (by omega), .inr (by omega), .inr (by omega), HE.out.2.2.1, (H.out.2.2.2.2.1.below HE.out.2.2.2.1).mono (fun b hb _ => .inl hb) (fun _ _ _ => rfl), (H.out.2.2.1.below HE.out.2.2.2.1).mono (fun b hb _ => .inl hb) (fun _ _ _ => rfl), (H.out.2.1.below HE.out.2.2.2.1).mono (fun b hb _ => .inl hb) (fun _ _ _ => rfl)⟩, HE.out.2.2.2.1⟩
   have h1 := HE.out.2.2.2.2.2.2.2.size
   omega
  ·go_simp
   have hbRB : Below WA.heap.size WA (((WA.drew).alloc (.cells #[.slice none 0 0] 132)).alloc (.cells #[.slice none 0 0] 44)) := hbLB.alloc hbLB.size _
   have hRB : (((WA.drew).alloc (.cells #[.slice none 0 0] 132)).alloc (.cells #[.slice none 0 0] 44)).heap[WA.heap.size + 1]? = some (.cells #[.slice none 0 0] 44 (0, 0)) := by have h0 := heap_alloc_self ((WA.drew).alloc (.cells #[.slice none 0 0] 132)) (.cells #[.slice none 0 0] 44); simpa using h0
   have hLB : (((WA.drew).alloc (.cells #[.slice none 0 0] 132)).alloc (.cells #[.slice none 0 0] 44)).heap[WA.heap.size]? = some (.cells #[.slice none 0 0] 132 (0, 0)) := (Below.heap_alloc _ _ _ (lt_of_heap hLB)).trans hLB
   have hSRB := hSk _ hbRB
   (refine hK.out _ _ hSRB (fun hHeld => ?_); clear hK K; (try simp only [Act.put, List.setIfInBounds_toArray, List.set_cons_zero, List.set_cons_succ]))
   refine wpAnyH_ready (rs := [2]) (by kernel_rfl) (by simp) (AllReadyH.cons rfl (fun K hK => ?_) AllReadyH.nil)
   go_simp
   go_at_call 123
   refine (HlkA.out _ hbRB).mono ?_
   rintro e' wl ⟨lv, rfl, hLk, hbl⟩
   obtain ⟨la, lc, rfl, hlm⟩ := hLk.form
   dsimp only
   have hbw : Below WA.heap.size WA wl := hbRB.trans (hbl.mono hbRB.size)
   have hzl := hbl.size
   (try simp only [World.size_drew, World.size_alloc] at hzl)
   have hSl := hSk _ hbw
   (refine hK.out _ _ hSl (fun hHeld => ?_); clear hK K; (try simp only [Act.put, List.setIfInBounds_toArray, List.set_cons_zero, List.set_cons_succ]))
   have hLB : wl.heap[WA.heap.size]? = some (.cells #[.slice none 0 0] 132 (0, 0)) := (hbl.block _ (lt_of_heap hLB)).trans hLB
   have hRB : wl.heap[WA.heap.size + 1]? = some (.cells #[.slice none 0 0] 44 (0, 0)) := (hbl.block _ (lt_of_heap hRB)).trans hRB
   have hBX := hbw
   obtain ⟨wx, hwx⟩ : ∃ wx, wl = wx := ⟨_, rfl⟩
   rw [hwx] at hLB hRB hBX ⊢
   have hLl := lt_of_heap hLB
   have hRl := lt_of_heap hRB
   have hXz : WA.heap.size ≤ (((WA.drew).alloc (.cells #[.slice none 0 0] 132)).alloc (.cells #[.slice none 0 0] 44)).heap.size := by first | exact hbD.size | exact hbLB.size | exact hbRB.size
   (try simp only [World.size_drew, World.size_alloc] at hXz)
   have hLk2 : V3 (fun b => (b ≠ WA.heap.size ∧ b ≠ WA.heap.size + 1) ∧ WA.heap.size ≤ b) wx (.slice la (locksTo n t cuts (getl t 0).length).length lc) (locksTo n t cuts (getl t 0).length) := hLk.mono (fun b h1 h2 => by (try simp only [World.size_drew, World.size_alloc] at h1); refine ⟨⟨?_, ?_⟩, ?_⟩ <;> omega) (fun b _ hlt => by subst hwx; first | rfl | exact Below.heap_alloc _ _ _ hlt | (exact (Below.heap_alloc _ _ _ (by simp; omega)).trans (Below.heap_alloc _ _ _ hlt)))
   have hne1 : ¬ WA.heap.size = WA.heap.size + 1 := by omega
   have hne2 : ¬ WA.heap.size + 1 = WA.heap.size := by omega
   have cLB := cell_of_block hLB 0
   have cRB := cell_of_block hRB 0
   simp only [List.getElem?_toArray, List.getElem?_cons_zero] at cLB cRB
   have fLB := frozen_of_block hLB 0
   have fRB := frozen_of_block hRB 0
   have hb1 := hBX.setCell (p := ⟨WA.heap.size, 0, none⟩) (show WA.heap.size ≤ WA.heap.size by omega) (.slice la (locksTo n t cuts (getl t 0).length).length lc)
   have hb2 := hb1.setCell (p := ⟨WA.heap.size + 1, 0, none⟩) (show WA.heap.size ≤ WA.heap.size + 1 by omega) (.slice a1 (getl t cuts.length).length c1)
   have hT1 := hSk _ hb1
   have hT2 := hSk _ hb2
   have hhL : ((wx.setCell ⟨WA.heap.size, 0, none⟩ (.slice la (locksTo n t cuts (getl t 0).length).length lc)).setCell ⟨WA.heap.size + 1, 0, none⟩ (.slice a1 (getl t cuts.length).length c1)).heap[WA.heap.size]? = some (.cells #[.slice la (locksTo n t cuts (getl t 0).length).length lc] 132 (0, 0)) := by
    rw [heap_setCell_other _ hne1, heap_setCell_self hLB]; rfl
   have hhR : ((wx.setCell ⟨WA.heap.size, 0, none⟩ (.slice la (locksTo n t cuts (getl t 0).length).length lc)).setCell ⟨WA.heap.size + 1, 0, none⟩ (.slice a1 (getl t cuts.length).length c1)).heap[WA.heap.size + 1]? = some (.cells #[.slice a1 (getl t cuts.length).length c1] 44 (0, 0)) := by
    rw [heap_setCell_self (by rw [heap_setCell_other _ hne2]; exact hRB)]; rfl
   have hLk3 := hLk2.mono (S' := fun b => S b ∧ b < W.heap.size ∨ W.heap.size ≤ b) (fun b h1 _ => .inr (by have := h1.2; omega)) (fun b hb _ => (heap_setCell_other (b := WA.heap.size + 1) (off := 0) (.slice a1 (getl t cuts.length).length c1) hb.1.2).trans (heap_setCell_other (b := WA.heap.size) (off := 0) (.slice la (locksTo n t cuts (getl t 0).length).length lc) hb.1.1))
   have hBW := H.out.2.2.2.1.trans (hb2.mono (by omega))
   have HE := Lib.hid (And.intro hhL (And.intro hhR (And.intro hLk3 (And.intro hBW hT2)))); clear hhL hhR hLk3 hBW hb2 hLk2
   (refine wpAnyH_ready (rs := [11]) (by kernel_rfl) (by simp) (AllReadyH.cons rfl (fun K hK => ?_) AllReadyH.nil); go_simp)
   (refine hK.out _ _ hT1 (fun hHeld => ?_); clear hK K; (try simp only [Act.put, List.setIfInBounds_toArray, List.set_cons_zero, List.set_cons_succ]))
   (refine wpAnyH_ready (rs := [12]) (by kernel_rfl) (by simp) (AllReadyH.cons rfl (fun K hK => ?_) AllReadyH.nil); go_simp)
   (refine hK.out _ _ hT2 (fun hHeld => ?_); clear hK K; (try simp only [Act.put, List.setIfInBounds_toArray, List.set_cons_zero, List.set_cons_succ]))
   refine wpAnyH_done (by kernel_rfl) (NoPanic.normal ?_) _
   clear hT1 hT2 cLB cRB fLB fRB
   go_wp2_with fail
   go_ret
   refine ⟨WA.heap.size, WA.heap.size + 1, W.heap.size + 1, W.heap.size, rfl, ⟨_, _, _, _, by rw [cell_of_block HE.out.1]; rfl, by rw [cell_of_block HE.out.2.1]; rfl, HE.out.2.2.2.2.2.1, HE.out.2.2.2.2.1, ?_, .inr (by omega), .inr (by omega), .inr (by omega), .inr (by omega), HE.out.2.2.1, (H.out.2.2.2.2.1.below HE.out.2.2.2.1).mono (fun b hb _ => .inl hb) (fun _ _ _ => rfl), (H.out.2.2.1.below HE.out.2.2.2.1).mono (fun b hb _ => .inl hb) (fun _ _ _ => rfl), (H.out.2.1.below HE.out.2.2.2.1).mono (fun b hb _ => .inl hb) (fun _ _ _ => rfl)⟩, HE.out.2.2.2.1⟩
   have h1 := HE.out.2.2.2.2.2.2.2.size
   omega
 ·go_simp
  have hbRB : Below WA.heap.size WA ((WA.drew).alloc (.cells #[.slice none 0 0] 44)) := hbD.alloc hbD.size _
  have hRB : ((WA.drew).alloc (.cells #[.slice none 0 0] 44)).heap[WA.heap.size]? = some (.cells #[.slice none 0 0] 44 (0, 0)) := by have h0 := heap_alloc_self (WA.drew) (.cells #[.slice none 0 0] 44); simpa using h0
  have hSRB := hSk _ hbRB
  (refine hK.out _ _ hSRB (fun hHeld => ?_); clear hK K; (try simp only [Act.put, List.setIfInBounds_toArray, List.set_cons_zero, List.set_cons_succ]))
  refine wpAnyH_ready (rs := [2, 9]) (by kernel_rfl) (by simp) (AllReadyH.cons rfl (fun K hK => ?_) (AllReadyH.cons rfl (fun K hK => ?_) AllReadyH.nil))
  ·go_simp
   go_at_call 123
   refine (HlkA.out _ hbRB).mono ?_
   rintro e' wl ⟨lv, rfl, hLk, hbl⟩
   obtain ⟨la, lc, rfl, hlm⟩ := hLk.form
   dsimp only
   have hbw : Below WA.heap.size WA wl := hbRB.trans (hbl.mono hbRB.size)
   have hzl := hbl.size
   (try simp only [World.size_drew, World.size_alloc] at hzl)
   have hSl := hSk _ hbw
   (refine hK.out _ _ hSl (fun hHeld => ?_); clear hK K; (try simp only [Act.put, List.setIfInBounds_toArray, List.set_cons_zero, List.set_cons_succ]))
   have hRB : wl.heap[WA.heap.size]? = some (.cells #[.slice none 0 0] 44 (0, 0)) := (hbl.block _ (lt_of_heap hRB)).trans hRB
   refine wpAnyH_ready (rs := [9]) (by kernel_rfl) (by simp) (AllReadyH.cons rfl (fun K hK => ?_) AllReadyH.nil)
   go_simp
   have hbLB : Below WA.heap.size WA ((wl).alloc (.cells #[.slice none 0 0] 132)) := hbw.alloc hbw.size _
   have hLB : ((wl).alloc (.cells #[.slice none 0 0] 132)).heap[wl.heap.size]? = some (.cells #[.slice none 0 0] 132 (0, 0)) := by have h0 := heap_alloc_self (wl) (.cells #[.slice none 0 0] 132); simpa using h0
   have hRB : ((wl).alloc (.cells #[.slice none 0 0] 132)).heap[WA.heap.size]? = some (.cells #[.slice none 0 0] 44 (0, 0)) := (Below.heap_alloc _ _ _ (lt_of_heap hRB)).trans hRB
   have hSLB := hSk _ hbLB
   (refine hK.out _ _ hSLB (fun hHeld => ?_); clear hK K; (try simp only [Act.put, List.setIfInBounds_toArray, List.set_cons_zero, List.set_cons_succ]))
   have hBX := hbLB
   obtain ⟨wx, hwx⟩ : ∃ wx, (wl).alloc (.cells #[.slice none 0 0] 132) = wx := ⟨_, rfl⟩
   rw [hwx] at hLB hRB hBX ⊢
   have hLl := lt_of_heap hLB
   have hRl := lt_of_heap hRB
   have hXz : WA.heap.size ≤ ((WA.drew).alloc (.cells #[.slice none 0 0] 44)).heap.size := by first | exact hbD.size | exact hbLB.size | exact hbRB.size
   (try simp only [World.size_drew, World.size_alloc] at hXz)
   have hLk2 : V3 (fun b => (b ≠ wl.heap.size ∧ b ≠ WA.heap.size) ∧ WA.heap.size ≤ b) wx (.slice la (locksTo n t cuts (getl t 0).length).length lc) (locksTo n t cuts (getl t 0).length) := hLk.mono (fun b h1 h2 => by (try simp only [World.size_drew, World.size_alloc] at h1); refine ⟨⟨?_, ?_⟩, ?_⟩ <;> omega) (fun b _ hlt => by subst hwx; first | rfl | exact Below.heap_alloc _ _ _ hlt | (exact (Below.heap_alloc _ _ _ (by simp; omega)).trans (Below.heap_alloc _ _ _ hlt)))
   have hne1 : ¬ wl.heap.size = WA.heap.size := by omega
   have hne2 : ¬ WA.heap.size = wl.heap.size := by omega
   have cLB := cell_of_block hLB 0
   have cRB := cell_of_block hRB 0
   simp only [List.getElem?_toArray, List.getElem?_cons_zero] at cLB cRB
   have fLB := frozen_of_block hLB 0
   have fRB := frozen_of_block hRB 0
   have hb1 := hBX.setCell (p := ⟨wl.heap.size, 0, none⟩) (show WA.heap.size ≤ wl.heap.size by omega) (.slice la (locksTo n t cuts (getl t 0).length).length lc)
   have hb2 := hb1.setCell (p := ⟨WA.heap.size, 0, none⟩) (show WA.heap.size ≤ WA.heap.size by omega) (.slice a1 (getl t cuts.length).length c1)
   have hT1 := hSk _ hb1
   have hT2 := hSk _ hb2
   have hhL : ((wx.setCell ⟨wl.heap.size, 0, none⟩ (.slice la (locksTo n t cuts (getl t 0).length).length lc)).setCell ⟨WA.heap.size, 0, none⟩ (.slice a1 (getl t cuts.length).length c1)).heap[wl.heap.size]? = some (.cells #[.slice la (locksTo n t cuts (getl t 0).length).length lc] 132 (0, 0)) := by
    rw [heap_setCell_other _ hne1, heap_setCell_self hLB]; rfl
   have hhR : ((wx.setCell ⟨wl.heap.size, 0, none⟩ (.slice la (locksTo n t cuts (getl t 0).length).length lc)).setCell ⟨WA.heap.size, 0, none⟩ (.slice a1 (getl t cuts.length).length c1)).heap[WA.heap.size]? = some (.cells #[.slice a1 (getl t cuts.length).length c1] 44 (0, 0)) := by
    rw [heap_setCell_self (by rw [heap_setCell_other _ hne2]; exact hRB)]; rfl
   have hLk3 := hLk2.mono (S' := fun b => S b ∧ b < W.heap.size ∨ W.heap.size ≤ b) (fun b h1 _ => .inr (by have := h1.2; omega)) (fun b hb _ => (heap_setCell_other (b := WA.heap.size) (off := 0) (.slice a1 (getl t cuts.length).length c1) hb.1.2).trans (heap_setCell_other (b := wl.heap.size) (off := 0) (.slice la (locksTo n t cuts (getl t 0).length).length lc) hb.1.1))
   have hBW := H.out.2.2.2.1.trans (hb2.mono (by omega))
   have HE := Lib.hid (And.intro hhL (And.intro hhR (And.intro hLk3 (And.intro hBW hT2)))); clear hhL hhR hLk3 hBW hb2 hLk2
   (refine wpAnyH_ready (rs := [11]) (by kernel_rfl) (by simp) (AllReadyH.cons rfl (fun K hK => ?_) AllReadyH.nil); go_simp)
   (refine hK.out _ _ hT1 (fun hHeld => ?_); clear hK K; (try simp only [Act.put, List.setIfInBounds_toArray, List.set_cons_zero, List.set_cons_succ]))
   (refine wpAnyH_ready (rs := [12]) (by kernel_rfl) (by simp) (AllReadyH.cons rfl (fun K hK => ?_) AllReadyH.nil); go_simp)
   (refine hK.out _ _ hT2 (fun hHeld => ?_); clear hK K; (try simp only [Act.put, List.setIfInBounds_toArray, List.set_cons_zero, List.set_cons_succ]))
   refine wpAnyH_done (by kernel_rfl) (NoPanic.normal ?_) _
   clear hT1 hT2 cLB cRB fLB fRB
   go_wp2_with fail
   go_ret
   refine ⟨wl.heap.size, WA.heap.size, W.heap.size + 1, W.heap.size, rfl, ⟨_, _, _, _, by rw [cell_of_block HE.out.1]; rfl, by rw [cell_of_block HE.out.2.1]; rfl, HE.out.2.2.2.2.2.1, HE.out.2.2.2.2.1, ?_, .inr (by omega), .inr (by omega), .inr (by omega), .inr (by omega), HE.out.2.2.1, (H.out.2.2.2.2.1.below HE.out.2.2.2.1).mono (fun b hb _ => .inl hb) (fun _ _ _ => rfl), (H.out.2.2.1.below HE.out.2.2.2.1).mono (fun b hb _ => .inl hb) (fun _ _ _ => rfl), (H.out.2.1.below HE.out.2.2.2.1).mono (fun b hb _ => .inl hb) (fun _ _ _ => rfl)⟩, HE.out.2.2.2.1⟩
   have h1 := HE.out.2.2.2.2.2.2.2.size
   omega
  ·go_simp
   have hbLB : Below WA.heap.size WA (((WA.drew).alloc (.cells #[.slice none 0 0] 44)).alloc (.cells #[.slice none 0 0] 132)) := hbRB.alloc hbRB.size _
   have hLB : (((WA.drew).alloc (.cells #[.slice none 0 0] 44)).alloc (.cells #[.slice none 0 0] 132)).heap[WA.heap.size + 1]? = some (.cells #[.slice none 0 0] 132 (0, 0)) := by have h0 := heap_alloc_self ((WA.drew).alloc (.cells #[.slice none 0 0] 44)) (.cells #[.slice none 0 0] 132); simpa using h0
   have hRB : (((WA.drew).alloc (.cells #[.slice none 0 0] 44)).alloc (.cells #[.slice none 0 0] 132)).heap[WA.heap.size]? = some (.cells #[.slice none 0 0] 44 (0, 0)) := (Below.heap_alloc _ _ _ (lt_of_heap hRB)).trans hRB
   have hSLB := hSk _ hbLB
   (refine hK.out _ _ hSLB (fun hHeld => ?_); clear hK K; (try simp only [Act.put, List.setIfInBounds_toArray, List.set_cons_zero, List.set_cons_succ]))
   refine wpAnyH_ready (rs := [2]) (by kernel_rfl) (by simp) (AllReadyH.cons rfl (fun K hK => ?_) AllReadyH.nil)
   go_simp
   go_at_call 123
   refine (HlkA.out _ hbLB).mono ?_
   rintro e' wl ⟨lv, rfl, hLk, hbl⟩
   obtain ⟨la, lc, rfl, hlm⟩ := hLk.form
   dsimp only
   have hbw : Below WA.heap.size WA wl := hbLB.trans (hbl.mono hbLB.size)
   have hzl := hbl.size
   (try simp only [World.size_drew, World.size_alloc] at hzl)
   have hSl := hSk _ hbw
   (refine hK.out _ _ hSl (fun hHeld => ?_); clear hK K; (try simp only [Act.put, List.setIfInBounds_toArray, List.set_cons_zero, List.set_cons_succ]))
   have hRB : wl.heap[WA.heap.size]? = some (.cells #[.slice none 0 0] 44 (0, 0)) := (hbl.block _ (lt_of_heap hRB)).trans hRB
   have hLB : wl.heap[WA.heap.size + 1]? = some (.cells #[.slice none 0 0] 132 (0, 0)) := (hbl.block _ (lt_of_heap hLB)).trans hLB
   have hBX := hbw
   obtain ⟨wx, hwx⟩ : ∃ wx, wl = wx := ⟨_, rfl⟩
   rw [hwx] at hLB hRB hBX ⊢
   have hLl := lt_of_heap hLB
   have hRl := lt_of_heap hRB
   have hXz : WA.heap.size ≤ (((WA.drew).alloc (.cells #[.slice none 0 0] 44)).alloc (.cells #[.slice none 0 0] 132)).heap.size := by first | exact hbD.size | exact hbLB.size | exact hbRB.size
   (try simp only [World.size_drew, World.size_alloc] at hXz)
   have hLk2 : V3 (fun b => (b ≠ WA.heap.size + 1 ∧ b ≠ WA.heap.size) ∧ WA.heap.size ≤ b) wx (.slice la (locksTo n t cuts (getl t 0).length).length lc) (locksTo n t cuts (getl t 0).length) := hLk.mono (fun b h1 h2 => by (try simp only [World.size_drew, World.size_alloc] at h1); refine ⟨⟨?_, ?_⟩, ?_⟩ <;> omega) (fun b _ hlt => by subst hwx; first | rfl | exact Below.heap_alloc _ _ _ hlt | (exact (Below.heap_alloc _ _ _ (by simp; omega)).trans (Below.heap_alloc _ _ _ hlt)))
   have hne1 : ¬ WA.heap.size + 1 = WA.heap.size := by omega
   have hne2 : ¬ WA.heap.size = WA.heap.size + 1 := by omega
   have cLB := cell_of_block hLB 0
   have cRB := cell_of_block hRB 0
   simp only [List.getElem?_toArray, List.getElem?_cons_zero] at cLB cRB
   have fLB := frozen_of_block hLB 0
   have fRB := frozen_of_block hRB 0
   have hb1 := hBX.setCell (p := ⟨WA.heap.size + 1, 0, none⟩) (show WA.heap.size ≤ WA.heap.size + 1 by omega) (.slice la (locksTo n t cuts (getl t 0).length).length lc)
   have hb2 := hb1.setCell (p := ⟨WA.heap.size, 0, none⟩) (show WA.heap.size ≤ WA.heap.size by omega) (.slice a1 (getl t cuts.length).length c1)
   have hT1 := hSk _ hb1
   have hT2 := hSk _ hb2
   have hhL : ((wx.setCell ⟨WA.heap.size + 1, 0, none⟩ (.slice la (locksTo n t cuts (getl t 0).length).length lc)).setCell ⟨WA.heap.size, 0, none⟩ (.slice a1 (getl t cuts.length).length c1)).heap[WA.heap.size + 1]? = some (.cells #[.slice la (locksTo n t cuts (getl t 0).length).length lc] 132 (0, 0)) := by
    rw [heap_setCell_other _ hne1, heap_setCell_self hLB]; rfl
   have hhR : ((wx.setCell ⟨WA.heap.size + 1, 0, none⟩ (.slice la (locksTo n t cuts (getl t 0).length).length lc)).setCell ⟨WA.heap.size, 0, none⟩ (.slice a1 (getl t cuts.length).length c1)).heap[WA.heap.size]? = some (.cells #[.slice a1 (getl t cuts.length).length c1] 44 (0, 0)) := by
    rw [heap_setCell_self (by rw [heap_setCell_other _ hne2]; exact hRB)]; rfl
   have hLk3 := hLk2.mono (S' := fun b => S b ∧ b < W.heap.size ∨ W.heap.size ≤ b) (fun b h1 _ => .inr (by have := h1.2; omega)) (fun b hb _ => (heap_setCell_other (b := WA.heap.size) (off := 0) (.slice a1 (getl t cuts.length).length c1) hb.1.2).trans (heap_setCell_other (b := WA.heap.size + 1) (off := 0) (.slice la (locksTo n t cuts (getl t 0).length).length lc) hb.1.1))
   have hBW := H.out.2.2.2.1.trans (hb2.mono (by omega))
   have HE := Lib.hid (And.intro hhL (And.intro hhR (And.intro hLk3 (And.intro hBW hT2)))); clear hhL hhR hLk3 hBW hb2 hLk2
   (refine wpAnyH_ready (rs := [11]) (by kernel_rfl) (by simp) (AllReadyH.cons rfl (fun K hK => ?_) AllReadyH.nil); go_simp)
   (refine hK.out _ _ hT1 (fun hHeld => ?_); clear hK K; (try simp only [Act.put, List.setIfInBounds_toArray, List.set_cons_zero, List.set_cons_succ]))
   (refine wpAnyH_ready (rs := [12]) (by kernel_rfl) (by simp) (AllReadyH.cons rfl (fun K hK => ?_) AllReadyH.nil); go_simp)
   (refine hK.out _ _ hT2 (fun hHeld => ?_); clear hK K; (try simp only [Act.put, List.setIfInBounds_toArray, List.set_cons_zero, List.set_cons_succ]))
   refine wpAnyH_done (by kernel_rfl) (NoPanic.normal ?_) _
   clear hT1 hT2 cLB cRB fLB fRB
   go_wp2_with fail
   go_ret
   refine ⟨WA.heap.size + 1, WA.heap.size, W.heap.size + 1, W.heap.size, rfl, ⟨_, _, _, _, by rw [cell_of_block HE.out.1]; rfl, by rw [cell_of_block HE.out.2.1]; rfl, HE.out.2.2.2.2.2.1, HE.out.2.2.2.2.1, ?_, .inr (by omega), .inr (by omega), .inr (by omega), .inr (by omega), HE.out.2.2.1, (H.out.2.2.2.2.1.below HE.out.2.2.2.1).mono (fun b hb _ => .inl hb) (fun _ _ _ => rfl), (H.out.2.2.1.below HE.out.2.2.2.1).mono (fun b hb _ => .inl hb) (fun _ _ _ => rfl), (H.out.2.1.below HE.out.2.2.2.1).mono (fun b hb _ => .inl hb) (fun _ _ _ => rfl)⟩, HE.out.2.2.2.1⟩
   have h1 := HE.out.2.2.2.2.2.2.2.size
   omega
end Go.Proofs.YtmjplkbmhdkggaaGreat
