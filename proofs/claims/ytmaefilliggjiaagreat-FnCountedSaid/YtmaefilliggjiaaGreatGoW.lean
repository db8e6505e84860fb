/- The search for designs from a key on. No conditions. -/
import Derived.Test.YtmaefilliggjiaaGreatMGoJ
namespace Go.Proofs.YtmaefilliggjiaaGreat
open Go.RowKit
set_option linter.unusedVariables false
set_option linter.unusedSimpArgs false
set_option maxRecDepth 100000 in
set_option maxHeartbeats 1000000 in
theorem goBack_any {τ : Type} {act : τ → Prop} {P : List (List Int) → Prop} {vf : FuncId} {vcaps : Array Value} {vis : τ → List (List Int) → τ × Bool} {VI : τ → (Nat → Prop) → World → Prop} (V : VisG act P vf vcaps vis VI)
  (m : Mk) (t : List (List Int)) (n : Nat) (hn : (n : Int) = m.c) (hPd : ∀ ds, PartOk m t ds → ds.length = t.length → falseL n t ds = [] → P ds) (limit : Nat) (tv : Value) (XB d : Nat)
  (fr : List Int) (fad : Addr) (frc : Nat) (hfk : isKeyB m fr = true) (cuts : List (List Int)) (cv : Value) (s : GSt τ) (F : Nat → Prop) (W : World) (hcd : cuts.length + (d + 1) = t.length) (hfr : V1 (fun b => ¬ GF XB F b) W (.slice (some fad) fr.length frc) fr)
  (ask : GoAsk act m t n tv limit (.func (.func vf) #[] vcaps) XB VI cuts cv s F W) :
  Calls Tryz.prog 101 #[.pointer (some ⟨XB, 0, none⟩), cv, .slice (some fad) fr.length frc] W (GoPost m tv limit (.func (.func vf) #[] vcaps) XB VI F W (runL (goStep limit (stayP n t) (goF limit (stayP n t) vis (keysOf m) d) cuts) s (behind m fr))) := by
 have ih := go_any V m t n hn hPd limit tv XB d
 obtain ⟨hG, ht, hc, hcp, hok, hop, hact⟩ := ask
 have hmk := hok.fits.ok
 obtain ⟨ta, tc, rfl, htm⟩ := ht.form
 obtain ⟨ca, cc, rfl, hcm⟩ := hc.form
 obtain ⟨WA, hWA⟩ : ∃ WA, WA = ((W.alloc (.cells #[.pointer (some ⟨XB, 0, none⟩)] 100)).alloc (.cells #[.slice ca cuts.length cc] 26)).alloc (.cells #[.slice (some fad) fr.length frc] 35) := ⟨_, rfl⟩
 have hbA : Below W.heap.size W WA := by rw [hWA]; exact by (repeat (first | (with_reducible refine Below.setCell ?_ ?_ _) | (with_reducible refine Below.alloc ?_ ?_ _) | (with_reducible refine Below.drew ?_) | (with_reducible refine below_drewN ?_ _) | (with_reducible exact Below.refl _ _) | (with_reducible assumption) | (with_reducible refine Below.trans ?_ (Below.mono (by with_reducible assumption) ?_)) | go_size))
 have hzA : WA.heap.size = W.heap.size + 3 := by rw [hWA]; simp
 have hA0 : WA.heap[W.heap.size]? = some (.cells #[.pointer (some ⟨XB, 0, none⟩)] 100 (0, 0)) := by rw [hWA]; simp only [heap_alloc_at, World.size_alloc]; (repeat rw [if_neg (by omega)]); simp
 have hA1 : WA.heap[W.heap.size + 1]? = some (.cells #[.slice ca cuts.length cc] 26 (0, 0)) := by rw [hWA]; simp only [heap_alloc_at, World.size_alloc]; simp
 have hA2 : WA.heap[W.heap.size + 1 + 1]? = some (.cells #[.slice (some fad) fr.length frc] 35 (0, 0)) := by rw [hWA]; simp only [heap_alloc_at, World.size_alloc]; simp
 have cA0 : WA.cell? ⟨W.heap.size, 0, none⟩ = some (.pointer (some ⟨XB, 0, none⟩)) := by rw [cell_of_block hA0]; rfl
 have cA1 : WA.cell? ⟨W.heap.size + 1, 0, none⟩ = some (.slice ca cuts.length cc) := by rw [cell_of_block hA1]; rfl
 have cA2 : WA.cell? ⟨W.heap.size + 1 + 1, 0, none⟩ = some (.slice (some fad) fr.length frc) := by rw [cell_of_block hA2]; rfl
 have hGA := hG.below V hbA
 have cX5 : WA.cell? ⟨XB, 5, none⟩ = some (.slice ta t.length tc) := by rw [hGA.cell]; rfl
 have cX9 : WA.cell? ⟨XB, 9, none⟩ = some (.func (.func vf) #[] vcaps) := by rw [hGA.cell]; rfl
 have hlt : cuts.length < t.length := by omega
 have e1 : ((cuts.length : Int) == (t.length : Int)) = false := by rw [beq_eq_false_iff_ne]; omega
 have cS : ∀ o, WA.cell? ⟨XB, o, none⟩ = (goCells m (.slice ta t.length tc) limit s.1 s.2.1 (.func (.func vf) #[] vcaps))[o]? := fun o => hGA.cell o
 have cX0 : WA.cell? ⟨XB, 0, none⟩ = some (.int .i64 m.c) := by rw [cS]; rfl
 have cX1 : WA.cell? ⟨XB, 1, none⟩ = some (.int .i64 m.d) := by rw [cS]; rfl
 have cX2 : WA.cell? ⟨XB, 2, none⟩ = some (.int .i64 m.s) := by rw [cS]; rfl
 have cX3 : WA.cell? ⟨XB, 3, none⟩ = some (.int .i64 m.e) := by rw [cS]; rfl
 have cX4 : WA.cell? ⟨XB, 4, none⟩ = some (.int .i64 m.l) := by rw [cS]; rfl
 have htA := (ht.below hbA).mono (S' := fun b => ¬ GF XB F b ∧ b < WA.heap.size) (fun b h1 h2 => ⟨h1, h2⟩) (fun _ _ _ => rfl)
 have hcA := (hc.below hbA).mono (S' := fun b => ¬ GF XB F b ∧ b < WA.heap.size) (fun b h1 h2 => ⟨h1, h2⟩) (fun _ _ _ => rfl)
 have hso := fun w (hb : Below WA.heap.size WA w) => staysOpen_any m (.slice ta t.length tc) (.slice ca cuts.length cc) t cuts n w hok.fits hn hlt (htA.below hb) (hcA.below hb)
 have Hno := Lib.hid (show ∀ b, W.heap.size ≤ b → ¬ GF XB F b from fun b hb h => by have := hG.glt h; omega)
 have hek := fun (LB RB CB2 SB MB ST : Nat) (w : World) => go_eachb V m t n hn limit (.slice ta t.length tc) (.slice ca cuts.length cc) (.func (.func vf) #[] vcaps) XB LB RB CB2 SB MB ST d cuts s F W WA w hG ht hc hcp hok hop hact hlt hcd ih hbA hzA cA0 cA1 fr fad frc hfk hfr cA2
 have Hso := Lib.hid hso
 have hzA1 := Nat.le_of_eq hzA
 have hzA2 := Nat.le_of_eq hzA.symm
 have Hek := Lib.hid hek; clear hek
 have hSk : ∀ w', Below WA.heap.size WA w' → w'.cell? ⟨W.heap.size, 0, none⟩ = some (.pointer (some ⟨XB, 0, none⟩)) ∧ w'.cell? ⟨W.heap.size + 1, 0, none⟩ = some (.slice ca cuts.length cc) ∧ w'.cell? ⟨W.heap.size + 1 + 1, 0, none⟩ = some (.slice (some fad) fr.length frc) ∧ w'.cell? ⟨XB, 0, none⟩ = some (.int .i64 m.c) ∧ w'.cell? ⟨XB, 1, none⟩ = some (.int .i64 m.d) ∧ w'.cell? ⟨XB, 2, none⟩ = some (.int .i64 m.s) ∧ w'.cell? ⟨XB, 3, none⟩ = some (.int .i64 m.e) ∧ w'.cell? ⟨XB, 4, none⟩ = some (.int .i64 m.l) ∧ w'.cell? ⟨XB, 5, none⟩ = some (.slice ta t.length tc) := fun w' hb => by
  refine ⟨?_, ?_, ?_, ?_, ?_, ?_, ?_, ?_, ?_⟩
  ·exact cell_keep cA0 (hb.block _ (lt_of_cell cA0))
  ·exact cell_keep cA1 (hb.block _ (lt_of_cell cA1))
  ·exact cell_keep cA2 (hb.block _ (lt_of_cell cA2))
  ·exact cell_keep cX0 (hb.block _ (lt_of_cell cX0))
  ·exact cell_keep cX1 (hb.block _ (lt_of_cell cX1))
  ·exact cell_keep cX2 (hb.block _ (lt_of_cell cX2))
  ·exact cell_keep cX3 (hb.block _ (lt_of_cell cX3))
  ·exact cell_keep cX4 (hb.block _ (lt_of_cell cX4))
  ·exact cell_keep cX5 (hb.block _ (lt_of_cell cX5))
 have H := Lib.hid (And.intro hso (And.intro hG (And.intro hbA (And.intro hGA (And.intro hWA (And.intro hok (And.intro hop (And.intro ht (And.intro hc (And.intro hA0 (And.intro hA1 hA2))))))))))); clear hso hG ht hc hok hop hGA hA0 hA1 hA2 hbA cS htA hcA ih hzA hfr
 go_enter Tryz.func101, Tryz.ntmps101
 go_wp2_with fail
 rw [← H.out.2.2.2.2.1]
 clear hWA
 go_region
 all_goals
  go_wp2_with fail
  have hbD : Below WA.heap.size WA WA.drew.drew := (Below.refl _ _).drew.drew
  have hS0 := hSk _ hbD
  refine wp_region_noPanic ?_
  refine wp_region_held_drew (S := fun w' => w'.cell? ⟨W.heap.size, 0, none⟩ = some (.pointer (some ⟨XB, 0, none⟩)) ∧ w'.cell? ⟨W.heap.size + 1, 0, none⟩ = some (.slice ca cuts.length cc) ∧ w'.cell? ⟨W.heap.size + 1 + 1, 0, none⟩ = some (.slice (some fad) fr.length frc) ∧ w'.cell? ⟨XB, 0, none⟩ = some (.int .i64 m.c) ∧ w'.cell? ⟨XB, 1, none⟩ = some (.int .i64 m.d) ∧ w'.cell? ⟨XB, 2, none⟩ = some (.int .i64 m.s) ∧ w'.cell? ⟨XB, 3, none⟩ = some (.int .i64 m.e) ∧ w'.cell? ⟨XB, 4, none⟩ = some (.int .i64 m.l) ∧ w'.cell? ⟨XB, 5, none⟩ = some (.slice ta t.length tc)) (by kernel_rfl) hS0 (fun hHeld => ?_)
  (refine wpAnyH_take (i := 0) (v := .pointer (some ⟨XB, 0, none⟩)) rfl (by kernel_rfl) (by kernel_rfl) (by kernel_rfl) (fun _ _ _ h => h) (Or.inl ⟨by kernel_rfl, fun w hSw => by (try dsimp only at hSw); go_split_ands; go_simp⟩) (by assumption) ?_; simp only [Act.put, List.setIfInBounds_toArray, List.set_cons_zero, List.set_cons_succ])
  (refine wpAnyH_take (i := 1) (v := .pointer (some ⟨XB, 0, none⟩)) rfl (by kernel_rfl) (by kernel_rfl) (by kernel_rfl) (fun _ _ _ h => h) (Or.inl ⟨by kernel_rfl, fun w hSw => by (try dsimp only at hSw); go_split_ands; go_simp⟩) (by assumption) ?_; simp only [Act.put, List.setIfInBounds_toArray, List.set_cons_zero, List.set_cons_succ])
  (refine wpAnyH_take (i := 2) (v := .pointer (some ⟨XB, 0, none⟩)) rfl (by kernel_rfl) (by kernel_rfl) (by kernel_rfl) (fun _ _ _ h => h) (Or.inl ⟨by kernel_rfl, fun w hSw => by (try dsimp only at hSw); go_split_ands; go_simp⟩) (by assumption) ?_; simp only [Act.put, List.setIfInBounds_toArray, List.set_cons_zero, List.set_cons_succ])
  (refine wpAnyH_take (i := 3) (v := .agg #[.int .i64 m.c, .int .i64 m.d, .int .i64 m.s, .int .i64 m.e, .int .i64 m.l, .slice ta t.length tc]) rfl (by kernel_rfl) (by kernel_rfl) (by kernel_rfl) (fun _ _ _ h => h) (Or.inl ⟨by kernel_rfl, fun w hSw => by (try dsimp only at hSw); go_split_ands; go_simp⟩) (by assumption) ?_; simp only [Act.put, List.setIfInBounds_toArray, List.set_cons_zero, List.set_cons_succ])
  (refine wpAnyH_take (i := 4) (v := .slice ca cuts.length cc) rfl (by kernel_rfl) (by kernel_rfl) (by kernel_rfl) (fun _ _ _ h => h) (Or.inl ⟨by kernel_rfl, fun w hSw => by (try dsimp only at hSw); go_split_ands; go_simp⟩) (by assumption) ?_; simp only [Act.put, List.setIfInBounds_toArray, List.set_cons_zero, List.set_cons_succ])
  refine wpAnyH_ready (rs := [5, 6, 7]) (by kernel_rfl) (by simp) (AllReadyH.cons rfl (fun K hK => ?_) (AllReadyH.cons rfl (fun K hK => ?_) (AllReadyH.cons rfl (fun K hK => ?_) AllReadyH.nil)))
  ·go_simp
   go_at_call 205
   refine (Hso.out _ hbD).mono ?_
   rintro e' wl ⟨LB, RB, CB2, SB, rfl, hLk, hbl⟩
   dsimp only
   have hbw : Below WA.heap.size WA wl := hbD.trans (hbl.mono hbD.size)
   have hzl := hbl.size
   (try simp only [World.size_drew, World.size_alloc] at hzl)
   have hSl := hSk _ hbw
   (refine hK.out _ _ hSl (fun hHeld => ?_); clear hK K; (try simp only [Act.put, List.setIfInBounds_toArray, List.set_cons_zero, List.set_cons_succ]))
   refine wpAnyH_ready (rs := [6, 7]) (by kernel_rfl) (by simp) (AllReadyH.cons rfl (fun K hK => ?_) (AllReadyH.cons rfl (fun K hK => ?_) AllReadyH.nil))
   ·go_simp
    have hbMB : Below WA.heap.size WA ((wl).alloc (.cells #[.bool false] 4)) := hbw.alloc hbw.size _
    have hMB : ((wl).alloc (.cells #[.bool false] 4)).heap[wl.heap.size]? = some (.cells #[.bool false] 4 (0, 0)) := by have h0 := heap_alloc_self (wl) (.cells #[.bool false] 4); simpa using h0
    have hSMB := hSk _ hbMB
    (refine hK.out _ _ hSMB (fun hHeld => ?_); clear hK K; (try simp only [Act.put, List.setIfInBounds_toArray, List.set_cons_zero, List.set_cons_succ]))
    refine wpAnyH_ready (rs := [7]) (by kernel_rfl) (by simp) (AllReadyH.cons rfl (fun K hK => ?_) AllReadyH.nil)
    go_simp
    have hbST : Below WA.heap.size WA (((wl).alloc (.cells #[.bool false] 4)).alloc (.cells #[.nilFunc] 115)) := hbMB.alloc hbMB.size _
    have hST : (((wl).alloc (.cells #[.bool false] 4)).alloc (.cells #[.nilFunc] 115)).heap[wl.heap.size + 1]? = some (.cells #[.nilFunc] 115 (0, 0)) := by have h0 := heap_alloc_self ((wl).alloc (.cells #[.bool false] 4)) (.cells #[.nilFunc] 115); simpa using h0
    have hMB : (((wl).alloc (.cells #[.bool false] 4)).alloc (.cells #[.nilFunc] 115)).heap[wl.heap.size]? = some (.cells #[.bool false] 4 (0, 0)) := (Below.heap_alloc _ _ _ (lt_of_heap hMB)).trans hMB
    have hSST := hSk _ hbST
    (refine hK.out _ _ hSST (fun hHeld => ?_); clear hK K; (try simp only [Act.put, List.setIfInBounds_toArray, List.set_cons_zero, List.set_cons_succ]))
    obtain ⟨wx, hwx⟩ : ∃ wx, ((wl).alloc (.cells #[.bool false] 4)).alloc (.cells #[.nilFunc] 115) = wx := ⟨_, rfl⟩
    have hBX := hbST
    rw [hwx] at hMB hST hBX ⊢
    have hbx : Below wl.heap.size wl wx := by rw [← hwx]; exact by (repeat (first | (with_reducible refine Below.setCell ?_ ?_ _) | (with_reducible refine Below.alloc ?_ ?_ _) | (with_reducible refine Below.drew ?_) | (with_reducible refine below_drewN ?_ _) | (with_reducible exact Below.refl _ _) | (with_reducible assumption) | (with_reducible refine Below.trans ?_ (Below.mono (by with_reducible assumption) ?_)) | go_size))
    have hMl := lt_of_heap hMB
    have hTl := lt_of_heap hST
    have hmid := go_mid (XB := XB) (F := F) hLk hBX hbx ⟨by omega, by omega, by omega⟩ hMB hST (fun b h l => by
     (try simp only [World.size_drew, World.size_alloc] at h)
     rcases h with h | h
     ·exact ⟨h.1.1, by omega, by omega⟩
     ·exact ⟨Hno.out b (by omega), by omega, by omega⟩)
    have cM := cell_of_block hMB 0
    have cT := cell_of_block hST 0
    simp only [List.getElem?_toArray, List.getElem?_cons_zero] at cM cT
    have fM := frozen_of_block hMB 0
    have fT := frozen_of_block hST 0
    have hne1 : ¬ wl.heap.size = wl.heap.size + 1 := by omega
    have hne2 : ¬ wl.heap.size + 1 = wl.heap.size := by omega
    have hT1 := hSk _ (hBX.setCell (p := ⟨wl.heap.size, 0, none⟩) (show WA.heap.size ≤ wl.heap.size by omega) (.bool true))
    have hT2 := hSk _ ((hBX.setCell (p := ⟨wl.heap.size, 0, none⟩) (show WA.heap.size ≤ wl.heap.size by omega) (.bool true)).setCell (p := ⟨wl.heap.size + 1, 0, none⟩) (show WA.heap.size ≤ wl.heap.size + 1 by omega) (stayV LB RB CB2 SB))
    have hlo := hmid.lo
    have Hmid := Lib.hid hmid; clear hmid hLk hBX hbx hMB hST
    (refine wpAnyH_ready (rs := [8]) (by kernel_rfl) (by simp) (AllReadyH.cons rfl (fun K hK => ?_) AllReadyH.nil); go_simp)
    (refine hK.out _ _ hT1 (fun hHeld => ?_); clear hK K; (try simp only [Act.put, List.setIfInBounds_toArray, List.set_cons_zero, List.set_cons_succ]))
    (refine wpAnyH_ready (rs := [9]) (by kernel_rfl) (by simp) (AllReadyH.cons rfl (fun K hK => ?_) AllReadyH.nil); go_simp)
    (refine hK.out _ _ hT2 (fun hHeld => ?_); clear hK K; (try simp only [Act.put, List.setIfInBounds_toArray, List.set_cons_zero, List.set_cons_succ]))
    refine wpAnyH_done (by kernel_rfl) (NoPanic.normal ?_) _
    clear hT1 hT2 cM cT fM fT
    go_wp2_with fail
    obtain ⟨wz, hwz⟩ : ∃ wz, (wx.setCell ⟨wl.heap.size, 0, none⟩ (.bool true)).setCell ⟨wl.heap.size + 1, 0, none⟩ (stayV LB RB CB2 SB) = wz := ⟨_, rfl⟩
    unfold stayV at hwz
    rw [hwz]
    have Hmid2 := Lib.hid (show GoMid m t cuts (locksTo n t cuts (getl t 0).length) XB F LB RB CB2 SB (wl.heap.size) (wl.heap.size + 1) WA wz.drew by rw [← hwz]; exact Hmid.out)
    clear hwz Hmid
    have hlo2 := Hmid2.out.lo
    have hSz := hSk wz.drew Hmid2.out.below
    refine wp_region_noPanic ?_
    refine wp_region_held_drew (S := fun w' => w'.cell? ⟨W.heap.size, 0, none⟩ = some (.pointer (some ⟨XB, 0, none⟩)) ∧ w'.cell? ⟨W.heap.size + 1, 0, none⟩ = some (.slice ca cuts.length cc) ∧ w'.cell? ⟨W.heap.size + 1 + 1, 0, none⟩ = some (.slice (some fad) fr.length frc) ∧ w'.cell? ⟨XB, 0, none⟩ = some (.int .i64 m.c) ∧ w'.cell? ⟨XB, 1, none⟩ = some (.int .i64 m.d) ∧ w'.cell? ⟨XB, 2, none⟩ = some (.int .i64 m.s) ∧ w'.cell? ⟨XB, 3, none⟩ = some (.int .i64 m.e) ∧ w'.cell? ⟨XB, 4, none⟩ = some (.int .i64 m.l) ∧ w'.cell? ⟨XB, 5, none⟩ = some (.slice ta t.length tc)) (by kernel_rfl) hSz (fun hHeld => ?_)
    (refine wpAnyH_take (i := 0) (v := .pointer (some ⟨XB, 0, none⟩)) rfl (by kernel_rfl) (by kernel_rfl) (by kernel_rfl) (fun _ _ _ h => h) (Or.inl ⟨by kernel_rfl, fun w hSw => by (try dsimp only at hSw); go_split_ands; go_simp⟩) (by assumption) ?_; simp only [Act.put, List.setIfInBounds_toArray, List.set_cons_zero, List.set_cons_succ])
    (refine wpAnyH_take (i := 1) (v := .pointer (some ⟨XB, 0, none⟩)) rfl (by kernel_rfl) (by kernel_rfl) (by kernel_rfl) (fun _ _ _ h => h) (Or.inl ⟨by kernel_rfl, fun w hSw => by (try dsimp only at hSw); go_split_ands; go_simp⟩) (by assumption) ?_; simp only [Act.put, List.setIfInBounds_toArray, List.set_cons_zero, List.set_cons_succ])
    (refine wpAnyH_take (i := 2) (v := .pointer (some ⟨XB, 0, none⟩)) rfl (by kernel_rfl) (by kernel_rfl) (by kernel_rfl) (fun _ _ _ h => h) (Or.inl ⟨by kernel_rfl, fun w hSw => by (try dsimp only at hSw); go_split_ands; go_simp⟩) (by assumption) ?_; simp only [Act.put, List.setIfInBounds_toArray, List.set_cons_zero, List.set_cons_succ])
    (refine wpAnyH_take (i := 3) (v := .pointer (some ⟨XB, 0, none⟩)) rfl (by kernel_rfl) (by kernel_rfl) (by kernel_rfl) (fun _ _ _ h => h) (Or.inl ⟨by kernel_rfl, fun w hSw => by (try dsimp only at hSw); go_split_ands; go_simp⟩) (by assumption) ?_; simp only [Act.put, List.setIfInBounds_toArray, List.set_cons_zero, List.set_cons_succ])
    (refine wpAnyH_take (i := 4) (v := .agg #[.int .i64 m.c, .int .i64 m.d, .int .i64 m.s, .int .i64 m.e, .int .i64 m.l]) rfl (by kernel_rfl) (by kernel_rfl) (by kernel_rfl) (fun _ _ _ h => h) (Or.inl ⟨by kernel_rfl, fun w hSw => by (try dsimp only at hSw); go_split_ands; go_simp⟩) (by assumption) ?_; simp only [Act.put, List.setIfInBounds_toArray, List.set_cons_zero, List.set_cons_succ])
    (refine wpAnyH_take (i := 5) (v := .slice (some fad) fr.length frc) rfl (by kernel_rfl) (by kernel_rfl) (by kernel_rfl) (fun _ _ _ h => h) (Or.inl ⟨by kernel_rfl, fun w hSw => by (try dsimp only at hSw); go_split_ands; go_simp⟩) (by assumption) ?_; simp only [Act.put, List.setIfInBounds_toArray, List.set_cons_zero, List.set_cons_succ])
    (refine wpAnyH_take (i := 6) (v := .func (.func 206) #[] #[.pointer (some ⟨W.heap.size + 1 + 1, 0, none⟩), .pointer (some ⟨W.heap.size, 0, none⟩), .pointer (some ⟨wl.heap.size, 0, none⟩), .pointer (some ⟨wl.heap.size + 1, 0, none⟩), .pointer (some ⟨W.heap.size + 1, 0, none⟩)]) rfl (by kernel_rfl) (by kernel_rfl) (by kernel_rfl) (fun _ _ _ h => h) (Or.inl ⟨by kernel_rfl, fun w hSw => by (try dsimp only at hSw); go_split_ands; go_simp⟩) (by assumption) ?_; simp only [Act.put, List.setIfInBounds_toArray, List.set_cons_zero, List.set_cons_succ])
    refine wpAnyH_ready (rs := [7]) (by kernel_rfl) (by simp) (AllReadyH.cons rfl (fun K hK => ?_) AllReadyH.nil)
    go_simp
    refine (Hek.out LB RB CB2 SB _ _ wz.drew Hmid2.out).mono ?_
    rintro e' w' ⟨rfl, Fs, g1, g2, hch, hsub⟩
    obtain ⟨r, hr⟩ : ∃ r, runL (goStep limit (stayP n t) (goF limit (stayP n t) vis (keysOf m) d) cuts) s (behind m fr) = r := ⟨_, rfl⟩
    rw [hr] at g1 g2 ⊢
    have cM2 : w'.cell? ⟨wl.heap.size, 0, none⟩ = some (.bool r.2) := by rw [cell_of_block g2]; rfl
    have hnf : ∀ b, W.heap.size ≤ b → b < WA.heap.size → ¬ (GF XB F b ∨ b = wl.heap.size) := fun b h1 h2 h => by
     rcases h with h | h
     ·exact Hno.out b h1 h
     ·omega
    have hS1 := And.intro (cell_keep hSz.1 (hch.block _ (lt_of_cell hSz.1) (hnf _ (Nat.le_refl _) (by omega)))) (And.intro (cell_keep hSz.2.1 (hch.block _ (lt_of_cell hSz.2.1) (hnf _ (by omega) (by omega)))) (And.intro (cell_keep hSz.2.2.1 (hch.block _ (lt_of_cell hSz.2.2.1) (hnf _ (by omega) (by omega))))
     (And.intro (show w'.cell? ⟨XB, 0, none⟩ = some (.int .i64 m.c) from by rw [g1.cell]; rfl) (And.intro (show w'.cell? ⟨XB, 1, none⟩ = some (.int .i64 m.d) from by rw [g1.cell]; rfl) (And.intro (show w'.cell? ⟨XB, 2, none⟩ = some (.int .i64 m.s) from by rw [g1.cell]; rfl) (And.intro (show w'.cell? ⟨XB, 3, none⟩ = some (.int .i64 m.e) from by rw [g1.cell]; rfl) (And.intro (show w'.cell? ⟨XB, 4, none⟩ = some (.int .i64 m.l) from by rw [g1.cell]; rfl) (show w'.cell? ⟨XB, 5, none⟩ = some (.slice ta t.length tc) from by rw [g1.cell]; rfl))))))))
    have hCW : Chg (GF XB F) W w' := (Chg.of_below (H.out.2.2.1.trans (Hmid2.out.below.mono (by omega)))).trans hch (fun i hi => by
     rcases hi with hi | hi
     ·exact .inl hi
     ·right; omega)
    have HF := Lib.hid (And.intro g1 (And.intro hCW (And.intro hsub hr))); clear g1 g2 hCW hsub hch hr
    dsimp only
    (refine hK.out _ _ hS1 (fun hHeld => ?_); clear hK K; (try simp only [Act.put, List.setIfInBounds_toArray, List.set_cons_zero, List.set_cons_succ]))
    refine wpAnyH_done (by kernel_rfl) (NoPanic.normal ?_) _
    go_wp2_with fail
    go_ret
    rw [HF.out.2.2.2]
    exact ⟨Fs, rfl, HF.out.1, HF.out.2.1, HF.out.2.2.1⟩
   ·go_simp
    have hbST : Below WA.heap.size WA ((wl).alloc (.cells #[.nilFunc] 115)) := hbw.alloc hbw.size _
    have hST : ((wl).alloc (.cells #[.nilFunc] 115)).heap[wl.heap.size]? = some (.cells #[.nilFunc] 115 (0, 0)) := by have h0 := heap_alloc_self (wl) (.cells #[.nilFunc] 115); simpa using h0
    have hSST := hSk _ hbST
    (refine hK.out _ _ hSST (fun hHeld => ?_); clear hK K; (try simp only [Act.put, List.setIfInBounds_toArray, List.set_cons_zero, List.set_cons_succ]))
    refine wpAnyH_ready (rs := [6]) (by kernel_rfl) (by simp) (AllReadyH.cons rfl (fun K hK => ?_) AllReadyH.nil)
    go_simp
    have hbMB : Below WA.heap.size WA (((wl).alloc (.cells #[.nilFunc] 115)).alloc (.cells #[.bool false] 4)) := hbST.alloc hbST.size _
    have hMB : (((wl).alloc (.cells #[.nilFunc] 115)).alloc (.cells #[.bool false] 4)).heap[wl.heap.size + 1]? = some (.cells #[.bool false] 4 (0, 0)) := by have h0 := heap_alloc_self ((wl).alloc (.cells #[.nilFunc] 115)) (.cells #[.bool false] 4); simpa using h0
    have hST : (((wl).alloc (.cells #[.nilFunc] 115)).alloc (.cells #[.bool false] 4)).heap[wl.heap.size]? = some (.cells #[.nilFunc] 115 (0, 0)) := (Below.heap_alloc _ _ _ (lt_of_heap hST)).trans hST
    have hSMB := hSk _ hbMB
    (refine hK.out _ _ hSMB (fun hHeld => ?_); clear hK K; (try simp only [Act.put, List.setIfInBounds_toArray, List.set_cons_zero, List.set_cons_succ]))
    obtain ⟨wx, hwx⟩ : ∃ wx, ((wl).alloc (.cells #[.nilFunc] 115)).alloc (.cells #[.bool false] 4) = wx := ⟨_, rfl⟩
    have hBX := hbMB
    rw [hwx] at hMB hST hBX ⊢
    have hbx : Below wl.heap.size wl wx := by rw [← hwx]; exact by (repeat (first | (with_reducible refine Below.setCell ?_ ?_ _) | (with_reducible refine Below.alloc ?_ ?_ _) | (with_reducible refine Below.drew ?_) | (with_reducible refine below_drewN ?_ _) | (with_reducible exact Below.refl _ _) | (with_reducible assumption) | (with_reducible refine Below.trans ?_ (Below.mono (by with_reducible assumption) ?_)) | go_size))
    have hMl := lt_of_heap hMB
    have hTl := lt_of_heap hST
    have hmid := go_mid (XB := XB) (F := F) hLk hBX hbx ⟨by omega, by omega, by omega⟩ hMB hST (fun b h l => by
     (try simp only [World.size_drew, World.size_alloc] at h)
     rcases h with h | h
     ·exact ⟨h.1.1, by omega, by omega⟩
     ·exact ⟨Hno.out b (by omega), by omega, by omega⟩)
    have cM := cell_of_block hMB 0
    have cT := cell_of_block hST 0
    simp only [List.getElem?_toArray, List.getElem?_cons_zero] at cM cT
    have fM := frozen_of_block hMB 0
    have fT := frozen_of_block hST 0
    have hne1 : ¬ wl.heap.size + 1 = wl.heap.size := by omega
    have hne2 : ¬ wl.heap.size = wl.heap.size + 1 := by omega
    have hT1 := hSk _ (hBX.setCell (p := ⟨wl.heap.size + 1, 0, none⟩) (show WA.heap.size ≤ wl.heap.size + 1 by omega) (.bool true))
    have hT2 := hSk _ ((hBX.setCell (p := ⟨wl.heap.size + 1, 0, none⟩) (show WA.heap.size ≤ wl.heap.size + 1 by omega) (.bool true)).setCell (p := ⟨wl.heap.size, 0, none⟩) (show WA.heap.size ≤ wl.heap.size by omega) (stayV LB RB CB2 SB))
    have hlo := hmid.lo
    have Hmid := Lib.hid hmid; clear hmid hLk hBX hbx hMB hST
    (refine wpAnyH_ready (rs := [8]) (by kernel_rfl) (by simp) (AllReadyH.cons rfl (fun K hK => ?_) AllReadyH.nil); go_simp)
    (refine hK.out _ _ hT1 (fun hHeld => ?_); clear hK K; (try simp only [Act.put, List.setIfInBounds_toArray, List.set_cons_zero, List.set_cons_succ]))
    (refine wpAnyH_ready (rs := [9]) (by kernel_rfl) (by simp) (AllReadyH.cons rfl (fun K hK => ?_) AllReadyH.nil); go_simp)
    (refine hK.out _ _ hT2 (fun hHeld => ?_); clear hK K; (try simp only [Act.put, List.setIfInBounds_toArray, List.set_cons_zero, List.set_cons_succ]))
    refine wpAnyH_done (by kernel_rfl) (NoPanic.normal ?_) _
    clear hT1 hT2 cM cT fM fT
    go_wp2_with fail
    obtain ⟨wz, hwz⟩ : ∃ wz, (wx.setCell ⟨wl.heap.size + 1, 0, none⟩ (.bool true)).setCell ⟨wl.heap.size, 0, none⟩ (stayV LB RB CB2 SB) = wz := ⟨_, rfl⟩
    unfold stayV at hwz
    rw [hwz]
    have Hmid2 := Lib.hid (show GoMid m t cuts (locksTo n t cuts (getl t 0).length) XB F LB RB CB2 SB (wl.heap.size + 1) (wl.heap.size) WA wz.drew by rw [← hwz]; exact Hmid.out)
    clear hwz Hmid
    have hlo2 := Hmid2.out.lo
    have hSz := hSk wz.drew Hmid2.out.below
    refine wp_region_noPanic ?_
    refine wp_region_held_drew (S := fun w' => w'.cell? ⟨W.heap.size, 0, none⟩ = some (.pointer (some ⟨XB, 0, none⟩)) ∧ w'.cell? ⟨W.heap.size + 1, 0, none⟩ = some (.slice ca cuts.length cc) ∧ w'.cell? ⟨W.heap.size + 1 + 1, 0, none⟩ = some (.slice (some fad) fr.length frc) ∧ w'.cell? ⟨XB, 0, none⟩ = some (.int .i64 m.c) ∧ w'.cell? ⟨XB, 1, none⟩ = some (.int .i64 m.d) ∧ w'.cell? ⟨XB, 2, none⟩ = some (.int .i64 m.s) ∧ w'.cell? ⟨XB, 3, none⟩ = some (.int .i64 m.e) ∧ w'.cell? ⟨XB, 4, none⟩ = some (.int .i64 m.l) ∧ w'.cell? ⟨XB, 5, none⟩ = some (.slice ta t.length tc)) (by kernel_rfl) hSz (fun hHeld => ?_)
    (refine wpAnyH_take (i := 0) (v := .pointer (some ⟨XB, 0, none⟩)) rfl (by kernel_rfl) (by kernel_rfl) (by kernel_rfl) (fun _ _ _ h => h) (Or.inl ⟨by kernel_rfl, fun w hSw => by (try dsimp only at hSw); go_split_ands; go_simp⟩) (by assumption) ?_; simp only [Act.put, List.setIfInBounds_toArray, List.set_cons_zero, List.set_cons_succ])
    (refine wpAnyH_take (i := 1) (v := .pointer (some ⟨XB, 0, none⟩)) rfl (by kernel_rfl) (by kernel_rfl) (by kernel_rfl) (fun _ _ _ h => h) (Or.inl ⟨by kernel_rfl, fun w hSw => by (try dsimp only at hSw); go_split_ands; go_simp⟩) (by assumption) ?_; simp only [Act.put, List.setIfInBounds_toArray, List.set_cons_zero, List.set_cons_succ])
    (refine wpAnyH_take (i := 2) (v := .pointer (some ⟨XB, 0, none⟩)) rfl (by kernel_rfl) (by kernel_rfl) (by kernel_rfl) (fun _ _ _ h => h) (Or.inl ⟨by kernel_rfl, fun w hSw => by (try dsimp only at hSw); go_split_ands; go_simp⟩) (by assumption) ?_; simp only [Act.put, List.setIfInBounds_toArray, List.set_cons_zero, List.set_cons_succ])
    (refine wpAnyH_take (i := 3) (v := .pointer (some ⟨XB, 0, none⟩)) rfl (by kernel_rfl) (by kernel_rfl) (by kernel_rfl) (fun _ _ _ h => h) (Or.inl ⟨by kernel_rfl, fun w hSw => by (try dsimp only at hSw); go_split_ands; go_simp⟩) (by assumption) ?_; simp only [Act.put, List.setIfInBounds_toArray, List.set_cons_zero, List.set_cons_succ])
    (refine wpAnyH_take (i := 4) (v := .agg #[.int .i64 m.c, .int .i64 m.d, .int .i64 m.s, .int .i64 m.e, .int .i64 m.l]) rfl (by kernel_rfl) (by kernel_rfl) (by kernel_rfl) (fun _ _ _ h => h) (Or.inl ⟨by kernel_rfl, fun w hSw => by (try dsimp only at hSw); go_split_ands; go_simp⟩) (by assumption) ?_; simp only [Act.put, List.setIfInBounds_toArray, List.set_cons_zero, List.set_cons_succ])
    (refine wpAnyH_take (i := 5) (v := .slice (some fad) fr.length frc) rfl (by kernel_rfl) (by kernel_rfl) (by kernel_rfl) (fun _ _ _ h => h) (Or.inl ⟨by kernel_rfl, fun w hSw => by (try dsimp only at hSw); go_split_ands; go_simp⟩) (by assumption) ?_; simp only [Act.put, List.setIfInBounds_toArray, List.set_cons_zero, List.set_cons_succ])
    (refine wpAnyH_take (i := 6) (v := .func (.func 206) #[] #[.pointer (some ⟨W.heap.size + 1 + 1, 0, none⟩), .pointer (some ⟨W.heap.size, 0, none⟩), .pointer (some ⟨wl.heap.size + 1, 0, none⟩), .pointer (some ⟨wl.heap.size, 0, none⟩), .pointer (some ⟨W.heap.size + 1, 0, none⟩)]) rfl (by kernel_rfl) (by kernel_rfl) (by kernel_rfl) (fun _ _ _ h => h) (Or.inl ⟨by kernel_rfl, fun w hSw => by (try dsimp only at hSw); go_split_ands; go_simp⟩) (by assumption) ?_; simp only [Act.put, List.setIfInBounds_toArray, List.set_cons_zero, List.set_cons_succ])
    refine wpAnyH_ready (rs := [7]) (by kernel_rfl) (by simp) (AllReadyH.cons rfl (fun K hK => ?_) AllReadyH.nil)
    go_simp
    refine (Hek.out LB RB CB2 SB _ _ wz.drew Hmid2.out).mono ?_
    rintro e' w' ⟨rfl, Fs, g1, g2, hch, hsub⟩
    obtain ⟨r, hr⟩ : ∃ r, runL (goStep limit (stayP n t) (goF limit (stayP n t) vis (keysOf m) d) cuts) s (behind m fr) = r := ⟨_, rfl⟩
    rw [hr] at g1 g2 ⊢
    have cM2 : w'.cell? ⟨wl.heap.size + 1, 0, none⟩ = some (.bool r.2) := by rw [cell_of_block g2]; rfl
    have hnf : ∀ b, W.heap.size ≤ b → b < WA.heap.size → ¬ (GF XB F b ∨ b = wl.heap.size + 1) := fun b h1 h2 h => by
     rcases h with h | h
     ·exact Hno.out b h1 h
     ·omega
    have hS1 := And.intro (cell_keep hSz.1 (hch.block _ (lt_of_cell hSz.1) (hnf _ (Nat.le_refl _) (by omega)))) (And.intro (cell_keep hSz.2.1 (hch.block _ (lt_of_cell hSz.2.1) (hnf _ (by omega) (by omega)))) (And.intro (cell_keep hSz.2.2.1 (hch.block _ (lt_of_cell hSz.2.2.1) (hnf _ (by omega) (by omega))))
     (And.intro (show w'.cell? ⟨XB, 0, none⟩ = some (.int .i64 m.c) from by rw [g1.cell]; rfl) (And.intro (show w'.cell? ⟨XB, 1, none⟩ = some (.int .i64 m.d) from by rw [g1.cell]; rfl) (And.intro (show w'.cell? ⟨XB, 2, none⟩ = some (.int .i64 m.s) from by rw [g1.cell]; rfl) (And.intro (show w'.cell? ⟨XB, 3, none⟩ = some (.int .i64 m.e) from by rw [g1.cell]; rfl) (And.intro (show w'.cell? ⟨XB, 4, none⟩ = some (.int .i64 m.l) from by rw [g1.cell]; rfl) (show w'.cell? ⟨XB, 5, none⟩ = some (.slice ta t.length tc) from by rw [g1.cell]; rfl))))))))
    have hCW : Chg (GF XB F) W w' := (Chg.of_below (H.out.2.2.1.trans (Hmid2.out.below.mono (by omega)))).trans hch (fun i hi => by
     rcases hi with hi | hi
     ·exact .inl hi
     ·right; omega)
    have HF := Lib.hid (And.intro g1 (And.intro hCW (And.intro hsub hr))); clear g1 g2 hCW hsub hch hr
    dsimp only
    (refine hK.out _ _ hS1 (fun hHeld => ?_); clear hK K; (try simp only [Act.put, List.setIfInBounds_toArray, List.set_cons_zero, List.set_cons_succ]))
    refine wpAnyH_done (by kernel_rfl) (NoPanic.normal ?_) _
    go_wp2_with fail
    go_ret
    rw [HF.out.2.2.2]
    exact ⟨Fs, rfl, HF.out.1, HF.out.2.1, HF.out.2.2.1⟩
  ·go_simp
   have hbMB : Below WA.heap.size WA ((WA.drew.drew).alloc (.cells #[.bool false] 4)) := hbD.alloc hbD.size _
   have hMB : ((WA.drew.drew).alloc (.cells #[.bool false] 4)).heap[WA.heap.size]? = some (.cells #[.bool false] 4 (0, 0)) := by have h0 := heap_alloc_self (WA.drew.drew) (.cells #[.bool false] 4); simpa using h0
   have hSMB := hSk _ hbMB
   (refine hK.out _ _ hSMB (fun hHeld => ?_); clear hK K; (try simp only [Act.put, List.setIfInBounds_toArray, List.set_cons_zero, List.set_cons_succ]))
   refine wpAnyH_ready (rs := [5, 7]) (by kernel_rfl) (by simp) (AllReadyH.cons rfl (fun K hK => ?_) (AllReadyH.cons rfl (fun K hK => ?_) AllReadyH.nil))
   ·go_simp
    go_at_call 205
    refine (Hso.out _ hbMB).mono ?_
    rintro e' wl ⟨LB, RB, CB2, SB, rfl, hLk, hbl⟩
    dsimp only
    have hbw : Below WA.heap.size WA wl := hbMB.trans (hbl.mono hbMB.size)
    have hzl := hbl.size
    (try simp only [World.size_drew, World.size_alloc] at hzl)
    have hSl := hSk _ hbw
    (refine hK.out _ _ hSl (fun hHeld => ?_); clear hK K; (try simp only [Act.put, List.setIfInBounds_toArray, List.set_cons_zero, List.set_cons_succ]))
    have hMB : wl.heap[WA.heap.size]? = some (.cells #[.bool false] 4 (0, 0)) := (hbl.block _ (lt_of_heap hMB)).trans hMB
    refine wpAnyH_ready (rs := [7]) (by kernel_rfl) (by simp) (AllReadyH.cons rfl (fun K hK => ?_) AllReadyH.nil)
    go_simp
    have hbST : Below WA.heap.size WA ((wl).alloc (.cells #[.nilFunc] 115)) := hbw.alloc hbw.size _
    have hST : ((wl).alloc (.cells #[.nilFunc] 115)).heap[wl.heap.size]? = some (.cells #[.nilFunc] 115 (0, 0)) := by have h0 := heap_alloc_self (wl) (.cells #[.nilFunc] 115); simpa using h0
    have hMB : ((wl).alloc (.cells #[.nilFunc] 115)).heap[WA.heap.size]? = some (.cells #[.bool false] 4 (0, 0)) := (Below.heap_alloc _ _ _ (lt_of_heap hMB)).trans hMB
    have hSST := hSk _ hbST
    (refine hK.out _ _ hSST (fun hHeld => ?_); clear hK K; (try simp only [Act.put, List.setIfInBounds_toArray, List.set_cons_zero, List.set_cons_succ]))
    obtain ⟨wx, hwx⟩ : ∃ wx, (wl).alloc (.cells #[.nilFunc] 115) = wx := ⟨_, rfl⟩
    have hBX := hbST
    rw [hwx] at hMB hST hBX ⊢
    have hbx : Below wl.heap.size wl wx := by rw [← hwx]; exact by (repeat (first | (with_reducible refine Below.setCell ?_ ?_ _) | (with_reducible refine Below.alloc ?_ ?_ _) | (with_reducible refine Below.drew ?_) | (with_reducible refine below_drewN ?_ _) | (with_reducible exact Below.refl _ _) | (with_reducible assumption) | (with_reducible refine Below.trans ?_ (Below.mono (by with_reducible assumption) ?_)) | go_size))
    have hMl := lt_of_heap hMB
    have hTl := lt_of_heap hST
    have hmid := go_mid (XB := XB) (F := F) hLk hBX hbx ⟨by omega, by omega, by omega⟩ hMB hST (fun b h l => by
     (try simp only [World.size_drew, World.size_alloc] at h)
     rcases h with h | h
     ·exact ⟨h.1.1, by omega, by omega⟩
     ·exact ⟨Hno.out b (by omega), by omega, by omega⟩)
    have cM := cell_of_block hMB 0
    have cT := cell_of_block hST 0
    simp only [List.getElem?_toArray, List.getElem?_cons_zero] at cM cT
    have fM := frozen_of_block hMB 0
    have fT := frozen_of_block hST 0
    have hne1 : ¬ WA.heap.size = wl.heap.size := by omega
    have hne2 : ¬ wl.heap.size = WA.heap.size := by omega
    have hT1 := hSk _ (hBX.setCell (p := ⟨WA.heap.size, 0, none⟩) (show WA.heap.size ≤ WA.heap.size by omega) (.bool true))
    have hT2 := hSk _ ((hBX.setCell (p := ⟨WA.heap.size, 0, none⟩) (show WA.heap.size ≤ WA.heap.size by omega) (.bool true)).setCell (p := ⟨wl.heap.size, 0, none⟩) (show WA.heap.size ≤ wl.heap.size by omega) (stayV LB RB CB2 SB))
    have hlo := hmid.lo
    have Hmid := Lib.hid hmid; clear hmid hLk hBX hbx hMB hST
    (refine wpAnyH_ready (rs := [8]) (by kernel_rfl) (by simp) (AllReadyH.cons rfl (fun K hK => ?_) AllReadyH.nil); go_simp)
    (refine hK.out _ _ hT1 (fun hHeld => ?_); clear hK K; (try simp only [Act.put, List.setIfInBounds_toArray, List.set_cons_zero, List.set_cons_succ]))
    (refine wpAnyH_ready (rs := [9]) (by kernel_rfl) (by simp) (AllReadyH.cons rfl (fun K hK => ?_) AllReadyH.nil); go_simp)
    (refine hK.out _ _ hT2 (fun hHeld => ?_); clear hK K; (try simp only [Act.put, List.setIfInBounds_toArray, List.set_cons_zero, List.set_cons_succ]))
    refine wpAnyH_done (by kernel_rfl) (NoPanic.normal ?_) _
    clear hT1 hT2 cM cT fM fT
    go_wp2_with fail
    obtain ⟨wz, hwz⟩ : ∃ wz, (wx.setCell ⟨WA.heap.size, 0, none⟩ (.bool true)).setCell ⟨wl.heap.size, 0, none⟩ (stayV LB RB CB2 SB) = wz := ⟨_, rfl⟩
    unfold stayV at hwz
    rw [hwz]
    have Hmid2 := Lib.hid (show GoMid m t cuts (locksTo n t cuts (getl t 0).length) XB F LB RB CB2 SB (WA.heap.size) (wl.heap.size) WA wz.drew by rw [← hwz]; exact Hmid.out)
    clear hwz Hmid
    have hlo2 := Hmid2.out.lo
    have hSz := hSk wz.drew Hmid2.out.below
    refine wp_region_noPanic ?_
    refine wp_region_held_drew (S := fun w' => w'.cell? ⟨W.heap.size, 0, none⟩ = some (.pointer (some ⟨XB, 0, none⟩)) ∧ w'.cell? ⟨W.heap.size + 1, 0, none⟩ = some (.slice ca cuts.length cc) ∧ w'.cell? ⟨W.heap.size + 1 + 1, 0, none⟩ = some (.slice (some fad) fr.length frc) ∧ w'.cell? ⟨XB, 0, none⟩ = some (.int .i64 m.c) ∧ w'.cell? ⟨XB, 1, none⟩ = some (.int .i64 m.d) ∧ w'.cell? ⟨XB, 2, none⟩ = some (.int .i64 m.s) ∧ w'.cell? ⟨XB, 3, none⟩ = some (.int .i64 m.e) ∧ w'.cell? ⟨XB, 4, none⟩ = some (.int .i64 m.l) ∧ w'.cell? ⟨XB, 5, none⟩ = some (.slice ta t.length tc)) (by kernel_rfl) hSz (fun hHeld => ?_)
    (refine wpAnyH_take (i := 0) (v := .pointer (some ⟨XB, 0, none⟩)) rfl (by kernel_rfl) (by kernel_rfl) (by kernel_rfl) (fun _ _ _ h => h) (Or.inl ⟨by kernel_rfl, fun w hSw => by (try dsimp only at hSw); go_split_ands; go_simp⟩) (by assumption) ?_; simp only [Act.put, List.setIfInBounds_toArray, List.set_cons_zero, List.set_cons_succ])
    (refine wpAnyH_take (i := 1) (v := .pointer (some ⟨XB, 0, none⟩)) rfl (by kernel_rfl) (by kernel_rfl) (by kernel_rfl) (fun _ _ _ h => h) (Or.inl ⟨by kernel_rfl, fun w hSw => by (try dsimp only at hSw); go_split_ands; go_simp⟩) (by assumption) ?_; simp only [Act.put, List.setIfInBounds_toArray, List.set_cons_zero, List.set_cons_succ])
    (refine wpAnyH_take (i := 2) (v := .pointer (some ⟨XB, 0, none⟩)) rfl (by kernel_rfl) (by kernel_rfl) (by kernel_rfl) (fun _ _ _ h => h) (Or.inl ⟨by kernel_rfl, fun w hSw => by (try dsimp only at hSw); go_split_ands; go_simp⟩) (by assumption) ?_; simp only [Act.put, List.setIfInBounds_toArray, List.set_cons_zero, List.set_cons_succ])
    (refine wpAnyH_take (i := 3) (v := .pointer (some ⟨XB, 0, none⟩)) rfl (by kernel_rfl) (by kernel_rfl) (by kernel_rfl) (fun _ _ _ h => h) (Or.inl ⟨by kernel_rfl, fun w hSw => by (try dsimp only at hSw); go_split_ands; go_simp⟩) (by assumption) ?_; simp only [Act.put, List.setIfInBounds_toArray, List.set_cons_zero, List.set_cons_succ])
    (refine wpAnyH_take (i := 4) (v := .agg #[.int .i64 m.c, .int .i64 m.d, .int .i64 m.s, .int .i64 m.e, .int .i64 m.l]) rfl (by kernel_rfl) (by kernel_rfl) (by kernel_rfl) (fun _ _ _ h => h) (Or.inl ⟨by kernel_rfl, fun w hSw => by (try dsimp only at hSw); go_split_ands; go_simp⟩) (by assumption) ?_; simp only [Act.put, List.setIfInBounds_toArray, List.set_cons_zero, List.set_cons_succ])
    (refine wpAnyH_take (i := 5) (v := .slice (some fad) fr.length frc) rfl (by kernel_rfl) (by kernel_rfl) (by kernel_rfl) (fun _ _ _ h => h) (Or.inl ⟨by kernel_rfl, fun w hSw => by (try dsimp only at hSw); go_split_ands; go_simp⟩) (by assumption) ?_; simp only [Act.put, List.setIfInBounds_toArray, List.set_cons_zero, List.set_cons_succ])
    (refine wpAnyH_take (i := 6) (v := .func (.func 206) #[] #[.pointer (some ⟨W.heap.size + 1 + 1, 0, none⟩), .pointer (some ⟨W.heap.size, 0, none⟩), .pointer (some ⟨WA.heap.size, 0, none⟩), .pointer (some ⟨wl.heap.size, 0, none⟩), .pointer (some ⟨W.heap.size + 1, 0, none⟩)]) rfl (by kernel_rfl) (by kernel_rfl) (by kernel_rfl) (fun _ _ _ h => h) (Or.inl ⟨by kernel_rfl, fun w hSw => by (try dsimp only at hSw); go_split_ands; go_simp⟩) (by assumption) ?_; simp only [Act.put, List.setIfInBounds_toArray, List.set_cons_zero, List.set_cons_succ])
    refine wpAnyH_ready (rs := [7]) (by kernel_rfl) (by simp) (AllReadyH.cons rfl (fun K hK => ?_) AllReadyH.nil)
    go_simp
    refine (Hek.out LB RB CB2 SB _ _ wz.drew Hmid2.out).mono ?_
    rintro e' w' ⟨rfl, Fs, g1, g2, hch, hsub⟩
    obtain ⟨r, hr⟩ : ∃ r, runL (goStep limit (stayP n t) (goF limit (stayP n t) vis (keysOf m) d) cuts) s (behind m fr) = r := ⟨_, rfl⟩
    rw [hr] at g1 g2 ⊢
    have cM2 : w'.cell? ⟨WA.heap.size, 0, none⟩ = some (.bool r.2) := by rw [cell_of_block g2]; rfl
    have hnf : ∀ b, W.heap.size ≤ b → b < WA.heap.size → ¬ (GF XB F b ∨ b = WA.heap.size) := fun b h1 h2 h => by
     rcases h with h | h
     ·exact Hno.out b h1 h
     ·omega
    have hS1 := And.intro (cell_keep hSz.1 (hch.block _ (lt_of_cell hSz.1) (hnf _ (Nat.le_refl _) (by omega)))) (And.intro (cell_keep hSz.2.1 (hch.block _ (lt_of_cell hSz.2.1) (hnf _ (by omega) (by omega)))) (And.intro (cell_keep hSz.2.2.1 (hch.block _ (lt_of_cell hSz.2.2.1) (hnf _ (by omega) (by omega))))
     (And.intro (show w'.cell? ⟨XB, 0, none⟩ = some (.int .i64 m.c) from by rw [g1.cell]; rfl) (And.intro (show w'.cell? ⟨XB, 1, none⟩ = some (.int .i64 m.d) from by rw [g1.cell]; rfl) (And.intro (show w'.cell? ⟨XB, 2, none⟩ = some (.int .i64 m.s) from by rw [g1.cell]; rfl) (And.intro (show w'.cell? ⟨XB, 3, none⟩ = some (.int .i64 m.e) from by rw [g1.cell]; rfl) (And.intro (show w'.cell? ⟨XB, 4, none⟩ = some (.int .i64 m.l) from by rw [g1.cell]; rfl) (show w'.cell? ⟨XB, 5, none⟩ = some (.slice ta t.length tc) from by rw [g1.cell]; rfl))))))))
    have hCW : Chg (GF XB F) W w' := (Chg.of_below (H.out.2.2.1.trans (Hmid2.out.below.mono (by omega)))).trans hch (fun i hi => by
     rcases hi with hi | hi
     ·exact .inl hi
     ·right; omega)
    have HF := Lib.hid (And.intro g1 (And.intro hCW (And.intro hsub hr))); clear g1 g2 hCW hsub hch hr
    dsimp only
    (refine hK.out _ _ hS1 (fun hHeld => ?_); clear hK K; (try simp only [Act.put, List.setIfInBounds_toArray, List.set_cons_zero, List.set_cons_succ]))
    refine wpAnyH_done (by kernel_rfl) (NoPanic.normal ?_) _
    go_wp2_with fail
    go_ret
    rw [HF.out.2.2.2]
    exact ⟨Fs, rfl, HF.out.1, HF.out.2.1, HF.out.2.2.1⟩
   ·go_simp
    have hbST : Below WA.heap.size WA (((WA.drew.drew).alloc (.cells #[.bool false] 4)).alloc (.cells #[.nilFunc] 115)) := hbMB.alloc hbMB.size _
    have hST : (((WA.drew.drew).alloc (.cells #[.bool false] 4)).alloc (.cells #[.nilFunc] 115)).heap[WA.heap.size + 1]? = some (.cells #[.nilFunc] 115 (0, 0)) := by have h0 := heap_alloc_self ((WA.drew.drew).alloc (.cells #[.bool false] 4)) (.cells #[.nilFunc] 115); simpa using h0
    have hMB : (((WA.drew.drew).alloc (.cells #[.bool false] 4)).alloc (.cells #[.nilFunc] 115)).heap[WA.heap.size]? = some (.cells #[.bool false] 4 (0, 0)) := (Below.heap_alloc _ _ _ (lt_of_heap hMB)).trans hMB
    have hSST := hSk _ hbST
    (refine hK.out _ _ hSST (fun hHeld => ?_); clear hK K; (try simp only [Act.put, List.setIfInBounds_toArray, List.set_cons_zero, List.set_cons_succ]))
    refine wpAnyH_ready (rs := [5]) (by kernel_rfl) (by simp) (AllReadyH.cons rfl (fun K hK => ?_) AllReadyH.nil)
    go_simp
    go_at_call 205
    refine (Hso.out _ hbST).mono ?_
    rintro e' wl ⟨LB, RB, CB2, SB, rfl, hLk, hbl⟩
    dsimp only
    have hbw : Below WA.heap.size WA wl := hbST.trans (hbl.mono hbST.size)
    have hzl := hbl.size
    (try simp only [World.size_drew, World.size_alloc] at hzl)
    have hSl := hSk _ hbw
    (refine hK.out _ _ hSl (fun hHeld => ?_); clear hK K; (try simp only [Act.put, List.setIfInBounds_toArray, List.set_cons_zero, List.set_cons_succ]))
    have hMB : wl.heap[WA.heap.size]? = some (.cells #[.bool false] 4 (0, 0)) := (hbl.block _ (lt_of_heap hMB)).trans hMB
    have hST : wl.heap[WA.heap.size + 1]? = some (.cells #[.nilFunc] 115 (0, 0)) := (hbl.block _ (lt_of_heap hST)).trans hST
    obtain ⟨wx, hwx⟩ : ∃ wx, wl = wx := ⟨_, rfl⟩
    have hBX := hbw
    rw [hwx] at hMB hST hBX ⊢
    have hbx : Below wl.heap.size wl wx := by rw [← hwx]; exact by (repeat (first | (with_reducible refine Below.setCell ?_ ?_ _) | (with_reducible refine Below.alloc ?_ ?_ _) | (with_reducible refine Below.drew ?_) | (with_reducible refine below_drewN ?_ _) | (with_reducible exact Below.refl _ _) | (with_reducible assumption) | (with_reducible refine Below.trans ?_ (Below.mono (by with_reducible assumption) ?_)) | go_size))
    have hMl := lt_of_heap hMB
    have hTl := lt_of_heap hST
    have hmid := go_mid (XB := XB) (F := F) hLk hBX hbx ⟨by omega, by omega, by omega⟩ hMB hST (fun b h l => by
     (try simp only [World.size_drew, World.size_alloc] at h)
     rcases h with h | h
     ·exact ⟨h.1.1, by omega, by omega⟩
     ·exact ⟨Hno.out b (by omega), by omega, by omega⟩)
    have cM := cell_of_block hMB 0
    have cT := cell_of_block hST 0
    simp only [List.getElem?_toArray, List.getElem?_cons_zero] at cM cT
    have fM := frozen_of_block hMB 0
    have fT := frozen_of_block hST 0
    have hne1 : ¬ WA.heap.size = WA.heap.size + 1 := by omega
    have hne2 : ¬ WA.heap.size + 1 = WA.heap.size := by omega
    have hT1 := hSk _ (hBX.setCell (p := ⟨WA.heap.size, 0, none⟩) (show WA.heap.size ≤ WA.heap.size by omega) (.bool true))
    have hT2 := hSk _ ((hBX.setCell (p := ⟨WA.heap.size, 0, none⟩) (show WA.heap.size ≤ WA.heap.size by omega) (.bool true)).setCell (p := ⟨WA.heap.size + 1, 0, none⟩) (show WA.heap.size ≤ WA.heap.size + 1 by omega) (stayV LB RB CB2 SB))
    have hlo := hmid.lo
    have Hmid := Lib.hid hmid; clear hmid hLk hBX hbx hMB hST
    (refine wpAnyH_ready (rs := [8]) (by kernel_rfl) (by simp) (AllReadyH.cons rfl (fun K hK => ?_) AllReadyH.nil); go_simp)
    (refine hK.out _ _ hT1 (fun hHeld => ?_); clear hK K; (try simp only [Act.put, List.setIfInBounds_toArray, List.set_cons_zero, List.set_cons_succ]))
    (refine wpAnyH_ready (rs := [9]) (by kernel_rfl) (by simp) (AllReadyH.cons rfl (fun K hK => ?_) AllReadyH.nil); go_simp)
    (refine hK.out _ _ hT2 (fun hHeld => ?_); clear hK K; (try simp only [Act.put, List.setIfInBounds_toArray, List.set_cons_zero, List.set_cons_succ]))
    refine wpAnyH_done (by kernel_rfl) (NoPanic.normal ?_) _
    clear hT1 hT2 cM cT fM fT
    go_wp2_with fail
    obtain ⟨wz, hwz⟩ : ∃ wz, (wx.setCell ⟨WA.heap.size, 0, none⟩ (.bool true)).setCell ⟨WA.heap.size + 1, 0, none⟩ (stayV LB RB CB2 SB) = wz := ⟨_, rfl⟩
    unfold stayV at hwz
    rw [hwz]
    have Hmid2 := Lib.hid (show GoMid m t cuts (locksTo n t cuts (getl t 0).length) XB F LB RB CB2 SB (WA.heap.size) (WA.heap.size + 1) WA wz.drew by rw [← hwz]; exact Hmid.out)
    clear hwz Hmid
    have hlo2 := Hmid2.out.lo
    have hSz := hSk wz.drew Hmid2.out.below
    refine wp_region_noPanic ?_
    refine wp_region_held_drew (S := fun w' => w'.cell? ⟨W.heap.size, 0, none⟩ = some (.pointer (some ⟨XB, 0, none⟩)) ∧ w'.cell? ⟨W.heap.size + 1, 0, none⟩ = some (.slice ca cuts.length cc) ∧ w'.cell? ⟨W.heap.size + 1 + 1, 0, none⟩ = some (.slice (some fad) fr.length frc) ∧ w'.cell? ⟨XB, 0, none⟩ = some (.int .i64 m.c) ∧ w'.cell? ⟨XB, 1, none⟩ = some (.int .i64 m.d) ∧ w'.cell? ⟨XB, 2, none⟩ = some (.int .i64 m.s) ∧ w'.cell? ⟨XB, 3, none⟩ = some (.int .i64 m.e) ∧ w'.cell? ⟨XB, 4, none⟩ = some (.int .i64 m.l) ∧ w'.cell? ⟨XB, 5, none⟩ = some (.slice ta t.length tc)) (by kernel_rfl) hSz (fun hHeld => ?_)
    (refine wpAnyH_take (i := 0) (v := .pointer (some ⟨XB, 0, none⟩)) rfl (by kernel_rfl) (by kernel_rfl) (by kernel_rfl) (fun _ _ _ h => h) (Or.inl ⟨by kernel_rfl, fun w hSw => by (try dsimp only at hSw); go_split_ands; go_simp⟩) (by assumption) ?_; simp only [Act.put, List.setIfInBounds_toArray, List.set_cons_zero, List.set_cons_succ])
    (refine wpAnyH_take (i := 1) (v := .pointer (some ⟨XB, 0, none⟩)) rfl (by kernel_rfl) (by kernel_rfl) (by kernel_rfl) (fun _ _ _ h => h) (Or.inl ⟨by kernel_rfl, fun w hSw => by (try dsimp only at hSw); go_split_ands; go_simp⟩) (by assumption) ?_; simp only [Act.put, List.setIfInBounds_toArray, List.set_cons_zero, List.set_cons_succ])
    (refine wpAnyH_take (i := 2) (v := .pointer (some ⟨XB, 0, none⟩)) rfl (by kernel_rfl) (by kernel_rfl) (by kernel_rfl) (fun _ _ _ h => h) (Or.inl ⟨by kernel_rfl, fun w hSw => by (try dsimp only at hSw); go_split_ands; go_simp⟩) (by assumption) ?_; simp only [Act.put, List.setIfInBounds_toArray, List.set_cons_zero, List.set_cons_succ])
    (refine wpAnyH_take (i := 3) (v := .pointer (some ⟨XB, 0, none⟩)) rfl (by kernel_rfl) (by kernel_rfl) (by kernel_rfl) (fun _ _ _ h => h) (Or.inl ⟨by kernel_rfl, fun w hSw => by (try dsimp only at hSw); go_split_ands; go_simp⟩) (by assumption) ?_; simp only [Act.put, List.setIfInBounds_toArray, List.set_cons_zero, List.set_cons_succ])
    (refine wpAnyH_take (i := 4) (v := .agg #[.int .i64 m.c, .int .i64 m.d, .int .i64 m.s, .int .i64 m.e, .int .i64 m.l]) rfl (by kernel_rfl) (by kernel_rfl) (by kernel_rfl) (fun _ _ _ h => h) (Or.inl ⟨by kernel_rfl, fun w hSw => by (try dsimp only at hSw); go_split_ands; go_simp⟩) (by assumption) ?_; simp only [Act.put, List.setIfInBounds_toArray, List.set_cons_zero, List.set_cons_succ])
    (refine wpAnyH_take (i := 5) (v := .slice (some fad) fr.length frc) rfl (by kernel_rfl) (by kernel_rfl) (by kernel_rfl) (fun _ _ _ h => h) (Or.inl ⟨by kernel_rfl, fun w hSw => by (try dsimp only at hSw); go_split_ands; go_simp⟩) (by assumption) ?_; simp only [Act.put, List.setIfInBounds_toArray, List.set_cons_zero, List.set_cons_succ])
    (refine wpAnyH_take (i := 6) (v := .func (.func 206) #[] #[.pointer (some ⟨W.heap.size + 1 + 1, 0, none⟩), .pointer (some ⟨W.heap.size, 0, none⟩), .pointer (some ⟨WA.heap.size, 0, none⟩), .pointer (some ⟨WA.heap.size + 1, 0, none⟩), .pointer (some ⟨W.heap.size + 1, 0, none⟩)]) rfl (by kernel_rfl) (by kernel_rfl) (by kernel_rfl) (fun _ _ _ h => h) (Or.inl ⟨by kernel_rfl, fun w hSw => by (try dsimp only at hSw); go_split_ands; go_simp⟩) (by assumption) ?_; simp only [Act.put, List.setIfInBounds_toArray, List.set_cons_zero, List.set_cons_succ])
    refine wpAnyH_ready (rs := [7]) (by kernel_rfl) (by simp) (AllReadyH.cons rfl (fun K hK => ?_) AllReadyH.nil)
    go_simp
    refine (Hek.out LB RB CB2 SB _ _ wz.drew Hmid2.out).mono ?_
    rintro e' w' ⟨rfl, Fs, g1, g2, hch, hsub⟩
    obtain ⟨r, hr⟩ : ∃ r, runL (goStep limit (stayP n t) (goF limit (stayP n t) vis (keysOf m) d) cuts) s (behind m fr) = r := ⟨_, rfl⟩
    rw [hr] at g1 g2 ⊢
    have cM2 : w'.cell? ⟨WA.heap.size, 0, none⟩ = some (.bool r.2) := by rw [cell_of_block g2]; rfl
    have hnf : ∀ b, W.heap.size ≤ b → b < WA.heap.size → ¬ (GF XB F b ∨ b = WA.heap.size) := fun b h1 h2 h => by
     rcases h with h | h
     ·exact Hno.out b h1 h
     ·omega
    have hS1 := And.intro (cell_keep hSz.1 (hch.block _ (lt_of_cell hSz.1) (hnf _ (Nat.le_refl _) (by omega)))) (And.intro (cell_keep hSz.2.1 (hch.block _ (lt_of_cell hSz.2.1) (hnf _ (by omega) (by omega)))) (And.intro (cell_keep hSz.2.2.1 (hch.block _ (lt_of_cell hSz.2.2.1) (hnf _ (by omega) (by omega))))
     (And.intro (show w'.cell? ⟨XB, 0, none⟩ = some (.int .i64 m.c) from by rw [g1.cell]; rfl) (And.intro (show w'.cell? ⟨XB, 1, none⟩ = some (.int .i64 m.d) from by rw [g1.cell]; rfl) (And.intro (show w'.cell? ⟨XB, 2, none⟩ = some (.int .i64 m.s) from by rw [g1.cell]; rfl) (And.intro (show w'.cell? ⟨XB, 3, none⟩ = some (.int .i64 m.e) from by rw [g1.cell]; rfl) (And.intro (show w'.cell? ⟨XB, 4, none⟩ = some (.int .i64 m.l) from by rw [g1.cell]; rfl) (show w'.cell? ⟨XB, 5, none⟩ = some (.slice ta t.length tc) from by rw [g1.cell]; rfl))))))))
    have hCW : Chg (GF XB F) W w' := (Chg.of_below (H.out.2.2.1.trans (Hmid2.out.below.mono (by omega)))).trans hch (fun i hi => by
     rcases hi with hi | hi
     ·exact .inl hi
     ·right; omega)
    have HF := Lib.hid (And.intro g1 (And.intro hCW (And.intro hsub hr))); clear g1 g2 hCW hsub hch hr
    dsimp only
    (refine hK.out _ _ hS1 (fun hHeld => ?_); clear hK K; (try simp only [Act.put, List.setIfInBounds_toArray, List.set_cons_zero, List.set_cons_succ]))
    refine wpAnyH_done (by kernel_rfl) (NoPanic.normal ?_) _
    go_wp2_with fail
    go_ret
    rw [HF.out.2.2.2]
    exact ⟨Fs, rfl, HF.out.1, HF.out.2.1, HF.out.2.2.1⟩
  ·go_simp
   have hbST : Below WA.heap.size WA ((WA.drew.drew).alloc (.cells #[.nilFunc] 115)) := hbD.alloc hbD.size _
   have hST : ((WA.drew.drew).alloc (.cells #[.nilFunc] 115)).heap[WA.heap.size]? = some (.cells #[.nilFunc] 115 (0, 0)) := by have h0 := heap_alloc_self (WA.drew.drew) (.cells #[.nilFunc] 115); simpa using h0
   have hSST := hSk _ hbST
   (refine hK.out _ _ hSST (fun hHeld => ?_); clear hK K; (try simp only [Act.put, List.setIfInBounds_toArray, List.set_cons_zero, List.set_cons_succ]))
   refine wpAnyH_ready (rs := [5, 6]) (by kernel_rfl) (by simp) (AllReadyH.cons rfl (fun K hK => ?_) (AllReadyH.cons rfl (fun K hK => ?_) AllReadyH.nil))
   ·go_simp
    go_at_call 205
    refine (Hso.out _ hbST).mono ?_
    rintro e' wl ⟨LB, RB, CB2, SB, rfl, hLk, hbl⟩
    dsimp only
    have hbw : Below WA.heap.size WA wl := hbST.trans (hbl.mono hbST.size)
    have hzl := hbl.size
    (try simp only [World.size_drew, World.size_alloc] at hzl)
    have hSl := hSk _ hbw
    (refine hK.out _ _ hSl (fun hHeld => ?_); clear hK K; (try simp only [Act.put, List.setIfInBounds_toArray, List.set_cons_zero, List.set_cons_succ]))
    have hST : wl.heap[WA.heap.size]? = some (.cells #[.nilFunc] 115 (0, 0)) := (hbl.block _ (lt_of_heap hST)).trans hST
    refine wpAnyH_ready (rs := [6]) (by kernel_rfl) (by simp) (AllReadyH.cons rfl (fun K hK => ?_) AllReadyH.nil)
    go_simp
    have hbMB : Below WA.heap.size WA ((wl).alloc (.cells #[.bool false] 4)) := hbw.alloc hbw.size _
    have hMB : ((wl).alloc (.cells #[.bool false] 4)).heap[wl.heap.size]? = some (.cells #[.bool false] 4 (0, 0)) := by have h0 := heap_alloc_self (wl) (.cells #[.bool false] 4); simpa using h0
    have hST : ((wl).alloc (.cells #[.bool false] 4)).heap[WA.heap.size]? = some (.cells #[.nilFunc] 115 (0, 0)) := (Below.heap_alloc _ _ _ (lt_of_heap hST)).trans hST
    have hSMB := hSk _ hbMB
    (refine hK.out _ _ hSMB (fun hHeld => ?_); clear hK K; (try simp only [Act.put, List.setIfInBounds_toArray, List.set_cons_zero, List.set_cons_succ]))
    obtain ⟨wx, hwx⟩ : ∃ wx, (wl).alloc (.cells #[.bool false] 4) = wx := ⟨_, rfl⟩
    have hBX := hbMB
    rw [hwx] at hMB hST hBX ⊢
    have hbx : Below wl.heap.size wl wx := by rw [← hwx]; exact by (repeat (first | (with_reducible refine Below.setCell ?_ ?_ _) | (with_reducible refine Below.alloc ?_ ?_ _) | (with_reducible refine Below.drew ?_) | (with_reducible refine below_drewN ?_ _) | (with_reducible exact Below.refl _ _) | (with_reducible assumption) | (with_reducible refine Below.trans ?_ (Below.mono (by with_reducible assumption) ?_)) | go_size))
    have hMl := lt_of_heap hMB
    have hTl := lt_of_heap hST
    have hmid := go_mid (XB := XB) (F := F) hLk hBX hbx ⟨by omega, by omega, by omega⟩ hMB hST (fun b h l => by
     (try simp only [World.size_drew, World.size_alloc] at h)
     rcases h with h | h
     ·exact ⟨h.1.1, by omega, by omega⟩
     ·exact ⟨Hno.out b (by omega), by omega, by omega⟩)
    have cM := cell_of_block hMB 0
    have cT := cell_of_block hST 0
    simp only [List.getElem?_toArray, List.getElem?_cons_zero] at cM cT
    have fM := frozen_of_block hMB 0
    have fT := frozen_of_block hST 0
    have hne1 : ¬ wl.heap.size = WA.heap.size := by omega
    have hne2 : ¬ WA.heap.size = wl.heap.size := by omega
    have hT1 := hSk _ (hBX.setCell (p := ⟨wl.heap.size, 0, none⟩) (show WA.heap.size ≤ wl.heap.size by omega) (.bool true))
    have hT2 := hSk _ ((hBX.setCell (p := ⟨wl.heap.size, 0, none⟩) (show WA.heap.size ≤ wl.heap.size by omega) (.bool true)).setCell (p := ⟨WA.heap.size, 0, none⟩) (show WA.heap.size ≤ WA.heap.size by omega) (stayV LB RB CB2 SB))
    have hlo := hmid.lo
    have Hmid := Lib.hid hmid; clear hmid hLk hBX hbx hMB hST
    (refine wpAnyH_ready (rs := [8]) (by kernel_rfl) (by simp) (AllReadyH.cons rfl (fun K hK => ?_) AllReadyH.nil); go_simp)
    (refine hK.out _ _ hT1 (fun hHeld => ?_); clear hK K; (try simp only [Act.put, List.setIfInBounds_toArray, List.set_cons_zero, List.set_cons_succ]))
    (refine wpAnyH_ready (rs := [9]) (by kernel_rfl) (by simp) (AllReadyH.cons rfl (fun K hK => ?_) AllReadyH.nil); go_simp)
    (refine hK.out _ _ hT2 (fun hHeld => ?_); clear hK K; (try simp only [Act.put, List.setIfInBounds_toArray, List.set_cons_zero, List.set_cons_succ]))
    refine wpAnyH_done (by kernel_rfl) (NoPanic.normal ?_) _
    clear hT1 hT2 cM cT fM fT
    go_wp2_with fail
    obtain ⟨wz, hwz⟩ : ∃ wz, (wx.setCell ⟨wl.heap.size, 0, none⟩ (.bool true)).setCell ⟨WA.heap.size, 0, none⟩ (stayV LB RB CB2 SB) = wz := ⟨_, rfl⟩
    unfold stayV at hwz
    rw [hwz]
    have Hmid2 := Lib.hid (show GoMid m t cuts (locksTo n t cuts (getl t 0).length) XB F LB RB CB2 SB (wl.heap.size) (WA.heap.size) WA wz.drew by rw [← hwz]; exact Hmid.out)
    clear hwz Hmid
    have hlo2 := Hmid2.out.lo
    have hSz := hSk wz.drew Hmid2.out.below
    refine wp_region_noPanic ?_
    refine wp_region_held_drew (S := fun w' => w'.cell? ⟨W.heap.size, 0, none⟩ = some (.pointer (some ⟨XB, 0, none⟩)) ∧ w'.cell? ⟨W.heap.size + 1, 0, none⟩ = some (.slice ca cuts.length cc) ∧ w'.cell? ⟨W.heap.size + 1 + 1, 0, none⟩ = some (.slice (some fad) fr.length frc) ∧ w'.cell? ⟨XB, 0, none⟩ = some (.int .i64 m.c) ∧ w'.cell? ⟨XB, 1, none⟩ = some (.int .i64 m.d) ∧ w'.cell? ⟨XB, 2, none⟩ = some (.int .i64 m.s) ∧ w'.cell? ⟨XB, 3, none⟩ = some (.int .i64 m.e) ∧ w'.cell? ⟨XB, 4, none⟩ = some (.int .i64 m.l) ∧ w'.cell? ⟨XB, 5, none⟩ = some (.slice ta t.length tc)) (by kernel_rfl) hSz (fun hHeld => ?_)
    (refine wpAnyH_take (i := 0) (v := .pointer (some ⟨XB, 0, none⟩)) rfl (by kernel_rfl) (by kernel_rfl) (by kernel_rfl) (fun _ _ _ h => h) (Or.inl ⟨by kernel_rfl, fun w hSw => by (try dsimp only at hSw); go_split_ands; go_simp⟩) (by assumption) ?_; simp only [Act.put, List.setIfInBounds_toArray, List.set_cons_zero, List.set_cons_succ])
    (refine wpAnyH_take (i := 1) (v := .pointer (some ⟨XB, 0, none⟩)) rfl (by kernel_rfl) (by kernel_rfl) (by kernel_rfl) (fun _ _ _ h => h) (Or.inl ⟨by kernel_rfl, fun w hSw => by (try dsimp only at hSw); go_split_ands; go_simp⟩) (by assumption) ?_; simp only [Act.put, List.setIfInBounds_toArray, List.set_cons_zero, List.set_cons_succ])
    (refine wpAnyH_take (i := 2) (v := .pointer (some ⟨XB, 0, none⟩)) rfl (by kernel_rfl) (by kernel_rfl) (by kernel_rfl) (fun _ _ _ h => h) (Or.inl ⟨by kernel_rfl, fun w hSw => by (try dsimp only at hSw); go_split_ands; go_simp⟩) (by assumption) ?_; simp only [Act.put, List.setIfInBounds_toArray, List.set_cons_zero, List.set_cons_succ])
    (refine wpAnyH_take (i := 3) (v := .pointer (some ⟨XB, 0, none⟩)) rfl (by kernel_rfl) (by kernel_rfl) (by kernel_rfl) (fun _ _ _ h => h) (Or.inl ⟨by kernel_rfl, fun w hSw => by (try dsimp only at hSw); go_split_ands; go_simp⟩) (by assumption) ?_; simp only [Act.put, List.setIfInBounds_toArray, List.set_cons_zero, List.set_cons_succ])
    (refine wpAnyH_take (i := 4) (v := .agg #[.int .i64 m.c, .int .i64 m.d, .int .i64 m.s, .int .i64 m.e, .int .i64 m.l]) rfl (by kernel_rfl) (by kernel_rfl) (by kernel_rfl) (fun _ _ _ h => h) (Or.inl ⟨by kernel_rfl, fun w hSw => by (try dsimp only at hSw); go_split_ands; go_simp⟩) (by assumption) ?_; simp only [Act.put, List.setIfInBounds_toArray, List.set_cons_zero, List.set_cons_succ])
    (refine wpAnyH_take (i := 5) (v := .slice (some fad) fr.length frc) rfl (by kernel_rfl) (by kernel_rfl) (by kernel_rfl) (fun _ _ _ h => h) (Or.inl ⟨by kernel_rfl, fun w hSw => by (try dsimp only at hSw); go_split_ands; go_simp⟩) (by assumption) ?_; simp only [Act.put, List.setIfInBounds_toArray, List.set_cons_zero, List.set_cons_succ])
    (refine wpAnyH_take (i := 6) (v := .func (.func 206) #[] #[.pointer (some ⟨W.heap.size + 1 + 1, 0, none⟩), .pointer (some ⟨W.heap.size, 0, none⟩), .pointer (some ⟨wl.heap.size, 0, none⟩), .pointer (some ⟨WA.heap.size, 0, none⟩), .pointer (some ⟨W.heap.size + 1, 0, none⟩)]) rfl (by kernel_rfl) (by kernel_rfl) (by kernel_rfl) (fun _ _ _ h => h) (Or.inl ⟨by kernel_rfl, fun w hSw => by (try dsimp only at hSw); go_split_ands; go_simp⟩) (by assumption) ?_; simp only [Act.put, List.setIfInBounds_toArray, List.set_cons_zero, List.set_cons_succ])
    refine wpAnyH_ready (rs := [7]) (by kernel_rfl) (by simp) (AllReadyH.cons rfl (fun K hK => ?_) AllReadyH.nil)
    go_simp
    refine (Hek.out LB RB CB2 SB _ _ wz.drew Hmid2.out).mono ?_
    rintro e' w' ⟨rfl, Fs, g1, g2, hch, hsub⟩
    obtain ⟨r, hr⟩ : ∃ r, runL (goStep limit (stayP n t) (goF limit (stayP n t) vis (keysOf m) d) cuts) s (behind m fr) = r := ⟨_, rfl⟩
    rw [hr] at g1 g2 ⊢
    have cM2 : w'.cell? ⟨wl.heap.size, 0, none⟩ = some (.bool r.2) := by rw [cell_of_block g2]; rfl
    have hnf : ∀ b, W.heap.size ≤ b → b < WA.heap.size → ¬ (GF XB F b ∨ b = wl.heap.size) := fun b h1 h2 h => by
     rcases h with h | h
     ·exact Hno.out b h1 h
     ·omega
    have hS1 := And.intro (cell_keep hSz.1 (hch.block _ (lt_of_cell hSz.1) (hnf _ (Nat.le_refl _) (by omega)))) (And.intro (cell_keep hSz.2.1 (hch.block _ (lt_of_cell hSz.2.1) (hnf _ (by omega) (by omega)))) (And.intro (cell_keep hSz.2.2.1 (hch.block _ (lt_of_cell hSz.2.2.1) (hnf _ (by omega) (by omega))))
     (And.intro (show w'.cell? ⟨XB, 0, none⟩ = some (.int .i64 m.c) from by rw [g1.cell]; rfl) (And.intro (show w'.cell? ⟨XB, 1, none⟩ = some (.int .i64 m.d) from by rw [g1.cell]; rfl) (And.intro (show w'.cell? ⟨XB, 2, none⟩ = some (.int .i64 m.s) from by rw [g1.cell]; rfl) (And.intro (show w'.cell? ⟨XB, 3, none⟩ = some (.int .i64 m.e) from by rw [g1.cell]; rfl) (And.intro (show w'.cell? ⟨XB, 4, none⟩ = some (.int .i64 m.l) from by rw [g1.cell]; rfl) (show w'.cell? ⟨XB, 5, none⟩ = some (.slice ta t.length tc) from by rw [g1.cell]; rfl))))))))
    have hCW : Chg (GF XB F) W w' := (Chg.of_below (H.out.2.2.1.trans (Hmid2.out.below.mono (by omega)))).trans hch (fun i hi => by
     rcases hi with hi | hi
     ·exact .inl hi
     ·right; omega)
    have HF := Lib.hid (And.intro g1 (And.intro hCW (And.intro hsub hr))); clear g1 g2 hCW hsub hch hr
    dsimp only
    (refine hK.out _ _ hS1 (fun hHeld => ?_); clear hK K; (try simp only [Act.put, List.setIfInBounds_toArray, List.set_cons_zero, List.set_cons_succ]))
    refine wpAnyH_done (by kernel_rfl) (NoPanic.normal ?_) _
    go_wp2_with fail
    go_ret
    rw [HF.out.2.2.2]
    exact ⟨Fs, rfl, HF.out.1, HF.out.2.1, HF.out.2.2.1⟩
   ·go_simp
    have hbMB : Below WA.heap.size WA (((WA.drew.drew).alloc (.cells #[.nilFunc] 115)).alloc (.cells #[.bool false] 4)) := hbST.alloc hbST.size _
    have hMB : (((WA.drew.drew).alloc (.cells #[.nilFunc] 115)).alloc (.cells #[.bool false] 4)).heap[WA.heap.size + 1]? = some (.cells #[.bool false] 4 (0, 0)) := by have h0 := heap_alloc_self ((WA.drew.drew).alloc (.cells #[.nilFunc] 115)) (.cells #[.bool false] 4); simpa using h0
    have hST : (((WA.drew.drew).alloc (.cells #[.nilFunc] 115)).alloc (.cells #[.bool false] 4)).heap[WA.heap.size]? = some (.cells #[.nilFunc] 115 (0, 0)) := (Below.heap_alloc _ _ _ (lt_of_heap hST)).trans hST
    have hSMB := hSk _ hbMB
    (refine hK.out _ _ hSMB (fun hHeld => ?_); clear hK K; (try simp only [Act.put, List.setIfInBounds_toArray, List.set_cons_zero, List.set_cons_succ]))
    refine wpAnyH_ready (rs := [5]) (by kernel_rfl) (by simp) (AllReadyH.cons rfl (fun K hK => ?_) AllReadyH.nil)
    go_simp
    go_at_call 205
    refine (Hso.out _ hbMB).mono ?_
    rintro e' wl ⟨LB, RB, CB2, SB, rfl, hLk, hbl⟩
    dsimp only
    have hbw : Below WA.heap.size WA wl := hbMB.trans (hbl.mono hbMB.size)
    have hzl := hbl.size
    (try simp only [World.size_drew, World.size_alloc] at hzl)
    have hSl := hSk _ hbw
    (refine hK.out _ _ hSl (fun hHeld => ?_); clear hK K; (try simp only [Act.put, List.setIfInBounds_toArray, List.set_cons_zero, List.set_cons_succ]))
    have hST : wl.heap[WA.heap.size]? = some (.cells #[.nilFunc] 115 (0, 0)) := (hbl.block _ (lt_of_heap hST)).trans hST
    have hMB : wl.heap[WA.heap.size + 1]? = some (.cells #[.bool false] 4 (0, 0)) := (hbl.block _ (lt_of_heap hMB)).trans hMB
    obtain ⟨wx, hwx⟩ : ∃ wx, wl = wx := ⟨_, rfl⟩
    have hBX := hbw
    rw [hwx] at hMB hST hBX ⊢
    have hbx : Below wl.heap.size wl wx := by rw [← hwx]; exact by (repeat (first | (with_reducible refine Below.setCell ?_ ?_ _) | (with_reducible refine Below.alloc ?_ ?_ _) | (with_reducible refine Below.drew ?_) | (with_reducible refine below_drewN ?_ _) | (with_reducible exact Below.refl _ _) | (with_reducible assumption) | (with_reducible refine Below.trans ?_ (Below.mono (by with_reducible assumption) ?_)) | go_size))
    have hMl := lt_of_heap hMB
    have hTl := lt_of_heap hST
    have hmid := go_mid (XB := XB) (F := F) hLk hBX hbx ⟨by omega, by omega, by omega⟩ hMB hST (fun b h l => by
     (try simp only [World.size_drew, World.size_alloc] at h)
     rcases h with h | h
     ·exact ⟨h.1.1, by omega, by omega⟩
     ·exact ⟨Hno.out b (by omega), by omega, by omega⟩)
    have cM := cell_of_block hMB 0
    have cT := cell_of_block hST 0
    simp only [List.getElem?_toArray, List.getElem?_cons_zero] at cM cT
    have fM := frozen_of_block hMB 0
    have fT := frozen_of_block hST 0
    have hne1 : ¬ WA.heap.size + 1 = WA.heap.size := by omega
    have hne2 : ¬ WA.heap.size = WA.heap.size + 1 := by omega
    have hT1 := hSk _ (hBX.setCell (p := ⟨WA.heap.size + 1, 0, none⟩) (show WA.heap.size ≤ WA.heap.size + 1 by omega) (.bool true))
    have hT2 := hSk _ ((hBX.setCell (p := ⟨WA.heap.size + 1, 0, none⟩) (show WA.heap.size ≤ WA.heap.size + 1 by omega) (.bool true)).setCell (p := ⟨WA.heap.size, 0, none⟩) (show WA.heap.size ≤ WA.heap.size by omega) (stayV LB RB CB2 SB))
    have hlo := hmid.lo
    have Hmid := Lib.hid hmid; clear hmid hLk hBX hbx hMB hST
    (refine wpAnyH_ready (rs := [8]) (by kernel_rfl) (by simp) (AllReadyH.cons rfl (fun K hK => ?_) AllReadyH.nil); go_simp)
    (refine hK.out _ _ hT1 (fun hHeld => ?_); clear hK K; (try simp only [Act.put, List.setIfInBounds_toArray, List.set_cons_zero, List.set_cons_succ]))
    (refine wpAnyH_ready (rs := [9]) (by kernel_rfl) (by simp) (AllReadyH.cons rfl (fun K hK => ?_) AllReadyH.nil); go_simp)
    (refine hK.out _ _ hT2 (fun hHeld => ?_); clear hK K; (try simp only [Act.put, List.setIfInBounds_toArray, List.set_cons_zero, List.set_cons_succ]))
    refine wpAnyH_done (by kernel_rfl) (NoPanic.normal ?_) _
    clear hT1 hT2 cM cT fM fT
    go_wp2_with fail
    obtain ⟨wz, hwz⟩ : ∃ wz, (wx.setCell ⟨WA.heap.size + 1, 0, none⟩ (.bool true)).setCell ⟨WA.heap.size, 0, none⟩ (stayV LB RB CB2 SB) = wz := ⟨_, rfl⟩
    unfold stayV at hwz
    rw [hwz]
    have Hmid2 := Lib.hid (show GoMid m t cuts (locksTo n t cuts (getl t 0).length) XB F LB RB CB2 SB (WA.heap.size + 1) (WA.heap.size) WA wz.drew by rw [← hwz]; exact Hmid.out)
    clear hwz Hmid
    have hlo2 := Hmid2.out.lo
    have hSz := hSk wz.drew Hmid2.out.below
    refine wp_region_noPanic ?_
    refine wp_region_held_drew (S := fun w' => w'.cell? ⟨W.heap.size, 0, none⟩ = some (.pointer (some ⟨XB, 0, none⟩)) ∧ w'.cell? ⟨W.heap.size + 1, 0, none⟩ = some (.slice ca cuts.length cc) ∧ w'.cell? ⟨W.heap.size + 1 + 1, 0, none⟩ = some (.slice (some fad) fr.length frc) ∧ w'.cell? ⟨XB, 0, none⟩ = some (.int .i64 m.c) ∧ w'.cell? ⟨XB, 1, none⟩ = some (.int .i64 m.d) ∧ w'.cell? ⟨XB, 2, none⟩ = some (.int .i64 m.s) ∧ w'.cell? ⟨XB, 3, none⟩ = some (.int .i64 m.e) ∧ w'.cell? ⟨XB, 4, none⟩ = some (.int .i64 m.l) ∧ w'.cell? ⟨XB, 5, none⟩ = some (.slice ta t.length tc)) (by kernel_rfl) hSz (fun hHeld => ?_)
    (refine wpAnyH_take (i := 0) (v := .pointer (some ⟨XB, 0, none⟩)) rfl (by kernel_rfl) (by kernel_rfl) (by kernel_rfl) (fun _ _ _ h => h) (Or.inl ⟨by kernel_rfl, fun w hSw => by (try dsimp only at hSw); go_split_ands; go_simp⟩) (by assumption) ?_; simp only [Act.put, List.setIfInBounds_toArray, List.set_cons_zero, List.set_cons_succ])
    (refine wpAnyH_take (i := 1) (v := .pointer (some ⟨XB, 0, none⟩)) rfl (by kernel_rfl) (by kernel_rfl) (by kernel_rfl) (fun _ _ _ h => h) (Or.inl ⟨by kernel_rfl, fun w hSw => by (try dsimp only at hSw); go_split_ands; go_simp⟩) (by assumption) ?_; simp only [Act.put, List.setIfInBounds_toArray, List.set_cons_zero, List.set_cons_succ])
    (refine wpAnyH_take (i := 2) (v := .pointer (some ⟨XB, 0, none⟩)) rfl (by kernel_rfl) (by kernel_rfl) (by kernel_rfl) (fun _ _ _ h => h) (Or.inl ⟨by kernel_rfl, fun w hSw => by (try dsimp only at hSw); go_split_ands; go_simp⟩) (by assumption) ?_; simp only [Act.put, List.setIfInBounds_toArray, List.set_cons_zero, List.set_cons_succ])
    (refine wpAnyH_take (i := 3) (v := .pointer (some ⟨XB, 0, none⟩)) rfl (by kernel_rfl) (by kernel_rfl) (by kernel_rfl) (fun _ _ _ h => h) (Or.inl ⟨by kernel_rfl, fun w hSw => by (try dsimp only at hSw); go_split_ands; go_simp⟩) (by assumption) ?_; simp only [Act.put, List.setIfInBounds_toArray, List.set_cons_zero, List.set_cons_succ])
    (refine wpAnyH_take (i := 4) (v := .agg #[.int .i64 m.c, .int .i64 m.d, .int .i64 m.s, .int .i64 m.e, .int .i64 m.l]) rfl (by kernel_rfl) (by kernel_rfl) (by kernel_rfl) (fun _ _ _ h => h) (Or.inl ⟨by kernel_rfl, fun w hSw => by (try dsimp only at hSw); go_split_ands; go_simp⟩) (by assumption) ?_; simp only [Act.put, List.setIfInBounds_toArray, List.set_cons_zero, List.set_cons_succ])
    (refine wpAnyH_take (i := 5) (v := .slice (some fad) fr.length frc) rfl (by kernel_rfl) (by kernel_rfl) (by kernel_rfl) (fun _ _ _ h => h) (Or.inl ⟨by kernel_rfl, fun w hSw => by (try dsimp only at hSw); go_split_ands; go_simp⟩) (by assumption) ?_; simp only [Act.put, List.setIfInBounds_toArray, List.set_cons_zero, List.set_cons_succ])
    (refine wpAnyH_take (i := 6) (v := .func (.func 206) #[] #[.pointer (some ⟨W.heap.size + 1 + 1, 0, none⟩), .pointer (some ⟨W.heap.size, 0, none⟩), .pointer (some ⟨WA.heap.size + 1, 0, none⟩), .pointer (some ⟨WA.heap.size, 0, none⟩), .pointer (some ⟨W.heap.size + 1, 0, none⟩)]) rfl (by kernel_rfl) (by kernel_rfl) (by kernel_rfl) (fun _ _ _ h => h) (Or.inl ⟨by kernel_rfl, fun w hSw => by (try dsimp only at hSw); go_split_ands; go_simp⟩) (by assumption) ?_; simp only [Act.put, List.setIfInBounds_toArray, List.set_cons_zero, List.set_cons_succ])
    refine wpAnyH_ready (rs := [7]) (by kernel_rfl) (by simp) (AllReadyH.cons rfl (fun K hK => ?_) AllReadyH.nil)
    go_simp
    refine (Hek.out LB RB CB2 SB _ _ wz.drew Hmid2.out).mono ?_
    rintro e' w' ⟨rfl, Fs, g1, g2, hch, hsub⟩
    obtain ⟨r, hr⟩ : ∃ r, runL (goStep limit (stayP n t) (goF limit (stayP n t) vis (keysOf m) d) cuts) s (behind m fr) = r := ⟨_, rfl⟩
    rw [hr] at g1 g2 ⊢
    have cM2 : w'.cell? ⟨WA.heap.size + 1, 0, none⟩ = some (.bool r.2) := by rw [cell_of_block g2]; rfl
    have hnf : ∀ b, W.heap.size ≤ b → b < WA.heap.size → ¬ (GF XB F b ∨ b = WA.heap.size + 1) := fun b h1 h2 h => by
     rcases h with h | h
     ·exact Hno.out b h1 h
     ·omega
    have hS1 := And.intro (cell_keep hSz.1 (hch.block _ (lt_of_cell hSz.1) (hnf _ (Nat.le_refl _) (by omega)))) (And.intro (cell_keep hSz.2.1 (hch.block _ (lt_of_cell hSz.2.1) (hnf _ (by omega) (by omega)))) (And.intro (cell_keep hSz.2.2.1 (hch.block _ (lt_of_cell hSz.2.2.1) (hnf _ (by omega) (by omega))))
     (And.intro (show w'.cell? ⟨XB, 0, none⟩ = some (.int .i64 m.c) from by rw [g1.cell]; rfl) (And.intro (show w'.cell? ⟨XB, 1, none⟩ = some (.int .i64 m.d) from by rw [g1.cell]; rfl) (And.intro (show w'.cell? ⟨XB, 2, none⟩ = some (.int .i64 m.s) from by rw [g1.cell]; rfl) (And.intro (show w'.cell? ⟨XB, 3, none⟩ = some (.int .i64 m.e) from by rw [g1.cell]; rfl) (And.intro (show w'.cell? ⟨XB, 4, none⟩ = some (.int .i64 m.l) from by rw [g1.cell]; rfl) (show w'.cell? ⟨XB, 5, none⟩ = some (.slice ta t.length tc) from by rw [g1.cell]; rfl))))))))
    have hCW : Chg (GF XB F) W w' := (Chg.of_below (H.out.2.2.1.trans (Hmid2.out.below.mono (by omega)))).trans hch (fun i hi => by
     rcases hi with hi | hi
     ·exact .inl hi
     ·right; omega)
    have HF := Lib.hid (And.intro g1 (And.intro hCW (And.intro hsub hr))); clear g1 g2 hCW hsub hch hr
    dsimp only
    (refine hK.out _ _ hS1 (fun hHeld => ?_); clear hK K; (try simp only [Act.put, List.setIfInBounds_toArray, List.set_cons_zero, List.set_cons_succ]))
    refine wpAnyH_done (by kernel_rfl) (NoPanic.normal ?_) _
    go_wp2_with fail
    go_ret
    rw [HF.out.2.2.2]
    exact ⟨Fs, rfl, HF.out.1, HF.out.2.1, HF.out.2.2.1⟩
end Go.Proofs.YtmaefilliggjiaaGreat
