/- Numbers in decimal: both sides. No conditions. -/
import Derived.Deep.RegionHeld3
import Derived.Deep.AppendLies
import Derived.Laws.BytesArg
import Derived.Test.YtmjplkbmhdkggaaDoorMLib
namespace Go.Proofs.YtmjplkbmhdkggaaDoor
open Go.RowKit
set_option linter.unusedVariables false
set_option linter.unusedSimpArgs false
theorem within_any (n lo hi : Int) (w : World) :
  Calls Tryd.prog 18 #[.int .i64 n, .int .i64 lo, .int .i64 hi] w fun e w' => e = .returned (.bool (inB n lo hi)) ∧ w = w' := by
 go_enter Tryd.func18, Tryd.ntmps18
 go_wp2
 all_goals go_ret
 all_goals refine ⟨?_, rfl⟩
 all_goals simp [inB]
 all_goals omega
theorem l01In_any (n lo hi : Int) (w : World) :
  Calls Tryd.prog 27 #[.int .i64 n, .int .i64 lo, .int .i64 hi] w fun e w' => e = .returned (.bool (inB n lo hi)) ∧ w = w' := by
 go_enter Tryd.func27, Tryd.ntmps27
 go_wp2
 all_goals go_ret
 all_goals refine ⟨?_, rfl⟩
 all_goals simp [inB]
 all_goals omega
theorem within_b (n lo hi : Int) (w : World) (r : Bool) (hr : inB n lo hi = r) :
  Calls Tryd.prog 18 #[.int .i64 n, .int .i64 lo, .int .i64 hi] w fun e w' => e = .returned (.bool r) ∧ w = w' := by subst hr; exact within_any _ _ _ _
theorem l01In_b (n lo hi : Int) (w : World) (r : Bool) (hr : inB n lo hi = r) :
  Calls Tryd.prog 27 #[.int .i64 n, .int .i64 lo, .int .i64 hi] w fun e w' => e = .returned (.bool r) ∧ w = w' := by subst hr; exact l01In_any _ _ _ _
theorem text_small (n : Int) (h0 : 0 ≤ n) (h1 : n ≤ 11) (w : World) :
  Calls Tryd.prog 19 #[.int .i64 n] w fun e' w' => e' = .returned (.string (bs (decW n))) ∧ w' = w := by
 obtain ⟨k, rfl⟩ : ∃ k : Nat, n = (k : Int) := ⟨n.toNat, by omega⟩
 have hk : k < 100 := by omega
 go_enter Tryd.func19, Tryd.ntmps19
 go_wp2_with (go_at_call 29; refine (Go.Proofs.Tryd.strconv_FormatInt_10_small k hk _).mono ?_; rintro e' w' ⟨rfl, rfl⟩)
 go_ret
 exact ⟨rfl, rfl⟩
theorem conv1 (b : Nat) (x : Nat) (hx : x < 256) (w : World) (hc : w.cell? ⟨b, 0, none⟩ = some (.int .u8 (x : Int))) : (convert 55 9 (.slice (some ⟨b, 0, none⟩) 1 1)).run Tryd.prog w = .ok (.string ⟨[UInt8.ofNat x].toArray⟩) w := by
 have h := run_convert_bytes_arg (P := Tryd.prog) w 55 5 Tryd.underlying55 Tryd.underlying5 b 0 1 1 [(x : Int)] rfl (fun i hi => by
  obtain rfl : i = 0 := by omega
  simpa using hc) 9 Tryd.underlying9
 rw [h]
 congr 2
theorem decW_lt {k : Nat} (h : k < 10) : decW (k : Int) = [UInt8.ofNat (48 + k)] := by
 unfold decW Lib.decDigits
 simp [h]
set_option maxRecDepth 100000 in
theorem dec0 (k : Nat) (h : k < 10) (w : World) :
  Calls Tryd.prog 28 #[.int .i64 (k : Int)] w fun e w' => e = .returned (.string (bs (decW k))) ∧ Below w.heap.size w w' := by
 rw [decW_lt h]
 have hcv := conv1 w.heap.size (48 + k) (by omega) (w.alloc (.cells #[.int .u8 (48 + (k : Int))] 5)) (by rw [cell_of_block (heap_alloc_self _ _)]; simp)
 go_enter Tryd.func28, Tryd.ntmps28
 go_wp2_with fail
 go_ret
 exact ⟨by simp [bs], (Below.refl _ _).alloc (Nat.le_refl _) _⟩
set_option maxRecDepth 100000 in
set_option maxHeartbeats 1000000 in
theorem dec10 (w : World) :
  Calls Tryd.prog 28 #[.int .i64 10] w fun e w' => e = .returned (.string (bs (decW 10))) ∧ Below w.heap.size w w' := by
 have hcv : ∀ (b : Nat) (w' : World), w'.cell? ⟨b, 0, none⟩ = some (.int .u8 48) → (convert 55 9 (.slice (some ⟨b, 0, none⟩) 1 1)).run Tryd.prog w' = .ok (.string ⟨#[48]⟩) w' := fun b w' hc => by
  rw [conv1 b 48 (by omega) w' hc]; rfl
 have hfin : decW 10 = [49, 48] := by unfold decW Lib.decDigits; simp; unfold Lib.decDigits; simp
 rw [hfin]
 have hcall := fun w' : World => dec0 1 (by omega) w'
 simp only [show decW ((1 : Nat) : Int) = [49] from decW_lt (k := 1) (by omega)] at hcall
 have Hc := Lib.hid hcall; clear hcall hfin
 have hbD : Below w.heap.size w w.drew := (Below.refl _ _).drew
 have hcvA := fun w' : World => hcv w'.heap.size (w'.alloc (.cells #[.int .u8 48] 5)) (cell_of_block (heap_alloc_self w' _) 0)
 have hw1 : IntKind.i64.wrap 1 = 1 := IntWalk.i64_in _ (by omega)
 have hw2 : IntKind.i64.wrap 48 = 48 := IntWalk.i64_in _ (by omega)
 have hw3 : IntKind.u8.wrap 48 = 48 := by decide
 have hs49 : (bs [49]).size = 1 := rfl
 have hap : bs [49] ++ ({ data := #[48] } : ByteArray) = bs [49, 48] := bs_app [49] [48]
 go_enter Tryd.func28, Tryd.ntmps28
 go_wp2_with fail
 refine wp_region_noPanic ?_
 refine wp_region_held_drew (S := fun _ => True) (by kernel_rfl) trivial (fun hHeld => ?_)
 (refine wpAnyH_take (i := 0) (v := .int .i64 10) rfl (by kernel_rfl) (by kernel_rfl) (by kernel_rfl) (fun _ _ _ h => h) (Or.inl ⟨by kernel_rfl, fun w hSw => by (try dsimp only at hSw); go_split_ands; go_simp⟩) (by assumption) ?_; simp only [Act.put, List.setIfInBounds_toArray, List.set_cons_zero, List.set_cons_succ])
 (refine wpAnyH_take (i := 1) (v := .int .i64 1) rfl (by kernel_rfl) (by kernel_rfl) (by kernel_rfl) (fun _ _ _ h => h) (Or.inl ⟨by kernel_rfl, fun w hSw => by (try dsimp only at hSw); go_split_ands; go_simp⟩) (by assumption) ?_; simp only [Act.put, List.setIfInBounds_toArray, List.set_cons_zero, List.set_cons_succ])
 (refine wpAnyH_take (i := 3) (v := .int .i64 10) rfl (by kernel_rfl) (by kernel_rfl) (by kernel_rfl) (fun _ _ _ h => h) (Or.inl ⟨by kernel_rfl, fun w hSw => by (try dsimp only at hSw); go_split_ands; go_simp⟩) (by assumption) ?_; simp only [Act.put, List.setIfInBounds_toArray, List.set_cons_zero, List.set_cons_succ])
 (refine wpAnyH_take (i := 4) (v := .int .i64 0) rfl (by kernel_rfl) (by kernel_rfl) (by kernel_rfl) (fun _ _ _ h => h) (Or.inl ⟨by kernel_rfl, fun w hSw => by (try dsimp only at hSw); go_split_ands; go_simp⟩) (by assumption) ?_; simp only [Act.put, List.setIfInBounds_toArray, List.set_cons_zero, List.set_cons_succ])
 (refine wpAnyH_take (i := 5) (v := .int .i64 48) rfl (by kernel_rfl) (by kernel_rfl) (by kernel_rfl) (fun _ _ _ h => h) (Or.inl ⟨by kernel_rfl, fun w hSw => by (try dsimp only at hSw); go_split_ands; go_simp⟩) (by assumption) ?_; simp only [Act.put, List.setIfInBounds_toArray, List.set_cons_zero, List.set_cons_succ])
 (refine wpAnyH_take (i := 6) (v := .int .u8 48) rfl (by kernel_rfl) (by kernel_rfl) (by kernel_rfl) (fun _ _ _ h => h) (Or.inl ⟨by kernel_rfl, fun w hSw => by (try dsimp only at hSw); go_split_ands; go_simp⟩) (by assumption) ?_; simp only [Act.put, List.setIfInBounds_toArray, List.set_cons_zero, List.set_cons_succ])
 obtain ⟨wd, hwd⟩ : ∃ wd, wd = w.drew := ⟨_, rfl⟩
 rw [← hwd] at hbD ⊢
 clear hwd
 refine wpAnyH_ready (rs := [2, 7]) (by kernel_rfl) (by simp) (AllReadyH.cons rfl (fun K hK => ?_) (AllReadyH.cons rfl (fun K hK => ?_) AllReadyH.nil))
 ·go_simp
  go_at_call 28
  refine (Hc.out _).mono ?_
  rintro e' w3 ⟨rfl, hb3⟩
  dsimp only
  (refine hK.out _ _ trivial (fun hHeld => ?_); clear hK K; (try simp only [Act.put, List.setIfInBounds_toArray, List.set_cons_zero, List.set_cons_succ]))
  have hcv3 := hcvA w3
  (refine wpAnyH_ready (rs := [7]) (by kernel_rfl) (by simp) (AllReadyH.cons rfl (fun K hK => ?_) AllReadyH.nil); go_simp)
  (refine hK.out _ _ trivial (fun hHeld => ?_); clear hK K; (try simp only [Act.put, List.setIfInBounds_toArray, List.set_cons_zero, List.set_cons_succ]))
  (refine wpAnyH_ready (rs := [8]) (by kernel_rfl) (by simp) (AllReadyH.cons rfl (fun K hK => ?_) AllReadyH.nil); go_simp)
  (refine hK.out _ _ trivial (fun hHeld => ?_); clear hK K; (try simp only [Act.put, List.setIfInBounds_toArray, List.set_cons_zero, List.set_cons_succ]))
  (refine wpAnyH_take (i := 9) (v := .string (bs [49, 48])) rfl (by kernel_rfl) (by kernel_rfl) (by kernel_rfl) (fun _ _ _ h => h) (Or.inl ⟨by kernel_rfl, fun w hSw => by (try dsimp only at hSw); go_split_ands; go_simp⟩) (by assumption) ?_; simp only [Act.put, List.setIfInBounds_toArray, List.set_cons_zero, List.set_cons_succ])
  (refine wpAnyH_ready (rs := [10]) (by kernel_rfl) (by simp) (AllReadyH.cons rfl (fun K hK => ?_) AllReadyH.nil); go_simp)
  (refine hK.out _ _ trivial (fun hHeld => ?_); clear hK K; (try simp only [Act.put, List.setIfInBounds_toArray, List.set_cons_zero, List.set_cons_succ]))
  refine wpAnyH_done (by kernel_rfl) (NoPanic.normal ?_) _
  go_wp2_with fail
  go_ret
  exact ⟨rfl, (hbD.trans (hb3.mono hbD.size)).alloc (Nat.le_trans hbD.size hb3.size) _⟩
 ·have hcv0 := hcvA wd
  obtain ⟨wb, hwb⟩ : ∃ wb, wb = wd.alloc (.cells #[.int .u8 48] 5) := ⟨_, rfl⟩
  have hbb : Below wd.heap.size wd wb := by rw [hwb]; exact (Below.refl _ _).alloc (Nat.le_refl _) _
  have hcb : wb.cell? ⟨wd.heap.size, 0, none⟩ = some (.int .u8 48) := by rw [hwb]; exact cell_of_block (heap_alloc_self _ _) 0
  have hsb := lt_of_cell hcb
  have Hwb := Lib.hid hwb; clear hwb
  go_simp
  rw [← Hwb.out]
  (refine hK.out _ _ trivial (fun hHeld => ?_); clear hK K; (try simp only [Act.put, List.setIfInBounds_toArray, List.set_cons_zero, List.set_cons_succ]))
  refine wpAnyH_ready (rs := [2, 8]) (by kernel_rfl) (by simp) (AllReadyH.cons rfl (fun K hK => ?_) (AllReadyH.cons rfl (fun K hK => ?_) AllReadyH.nil))
  ·go_simp
   go_at_call 28
   refine (Hc.out _).mono ?_
   rintro e' w3 ⟨rfl, hb3⟩
   have hcv3 := hcv _ _ (cell_keep hcb (hb3.block _ hsb))
   dsimp only
   (refine hK.out _ _ trivial (fun hHeld => ?_); clear hK K; (try simp only [Act.put, List.setIfInBounds_toArray, List.set_cons_zero, List.set_cons_succ]))
   (refine wpAnyH_ready (rs := [8]) (by kernel_rfl) (by simp) (AllReadyH.cons rfl (fun K hK => ?_) AllReadyH.nil); go_simp)
   (refine hK.out _ _ trivial (fun hHeld => ?_); clear hK K; (try simp only [Act.put, List.setIfInBounds_toArray, List.set_cons_zero, List.set_cons_succ]))
   (refine wpAnyH_take (i := 9) (v := .string (bs [49, 48])) rfl (by kernel_rfl) (by kernel_rfl) (by kernel_rfl) (fun _ _ _ h => h) (Or.inl ⟨by kernel_rfl, fun w hSw => by (try dsimp only at hSw); go_split_ands; go_simp⟩) (by assumption) ?_; simp only [Act.put, List.setIfInBounds_toArray, List.set_cons_zero, List.set_cons_succ])
   (refine wpAnyH_ready (rs := [10]) (by kernel_rfl) (by simp) (AllReadyH.cons rfl (fun K hK => ?_) AllReadyH.nil); go_simp)
   (refine hK.out _ _ trivial (fun hHeld => ?_); clear hK K; (try simp only [Act.put, List.setIfInBounds_toArray, List.set_cons_zero, List.set_cons_succ]))
   refine wpAnyH_done (by kernel_rfl) (NoPanic.normal ?_) _
   go_wp2_with fail
   go_ret
   exact ⟨rfl, (hbD.trans (hbb.mono hbD.size)).trans (hb3.mono (Nat.le_trans hbD.size hbb.size))⟩
  ·have hcv3 := hcv _ _ hcb
   go_simp
   (refine hK.out _ _ trivial (fun hHeld => ?_); clear hK K; (try simp only [Act.put, List.setIfInBounds_toArray, List.set_cons_zero, List.set_cons_succ]))
   refine wpAnyH_ready (rs := [2]) (by kernel_rfl) (by simp) (AllReadyH.cons rfl (fun K hK => ?_) AllReadyH.nil)
   go_simp
   go_at_call 28
   refine (Hc.out _).mono ?_
   rintro e' w3 ⟨rfl, hb3⟩
   dsimp only
   (refine hK.out _ _ trivial (fun hHeld => ?_); clear hK K; (try simp only [Act.put, List.setIfInBounds_toArray, List.set_cons_zero, List.set_cons_succ]))
   (refine wpAnyH_take (i := 9) (v := .string (bs [49, 48])) rfl (by kernel_rfl) (by kernel_rfl) (by kernel_rfl) (fun _ _ _ h => h) (Or.inl ⟨by kernel_rfl, fun w hSw => by (try dsimp only at hSw); go_split_ands; go_simp⟩) (by assumption) ?_; simp only [Act.put, List.setIfInBounds_toArray, List.set_cons_zero, List.set_cons_succ])
   (refine wpAnyH_ready (rs := [10]) (by kernel_rfl) (by simp) (AllReadyH.cons rfl (fun K hK => ?_) AllReadyH.nil); go_simp)
   (refine hK.out _ _ trivial (fun hHeld => ?_); clear hK K; (try simp only [Act.put, List.setIfInBounds_toArray, List.set_cons_zero, List.set_cons_succ]))
   refine wpAnyH_done (by kernel_rfl) (NoPanic.normal ?_) _
   go_wp2_with fail
   go_ret
   exact ⟨rfl, (hbD.trans (hbb.mono hbD.size)).trans (hb3.mono (Nat.le_trans hbD.size hbb.size))⟩
set_option maxRecDepth 100000 in
set_option maxHeartbeats 1000000 in
theorem dec11 (w : World) :
  Calls Tryd.prog 28 #[.int .i64 11] w fun e w' => e = .returned (.string (bs (decW 11))) ∧ Below w.heap.size w w' := by
 have hcv : ∀ (b : Nat) (w' : World), w'.cell? ⟨b, 0, none⟩ = some (.int .u8 49) → (convert 55 9 (.slice (some ⟨b, 0, none⟩) 1 1)).run Tryd.prog w' = .ok (.string ⟨#[49]⟩) w' := fun b w' hc => by
  rw [conv1 b 49 (by omega) w' hc]; rfl
 have hfin : decW 11 = [49, 49] := by unfold decW Lib.decDigits; simp; unfold Lib.decDigits; simp
 rw [hfin]
 have hcall := fun w' : World => dec0 1 (by omega) w'
 simp only [show decW ((1 : Nat) : Int) = [49] from decW_lt (k := 1) (by omega)] at hcall
 have Hc := Lib.hid hcall; clear hcall hfin
 have hbD : Below w.heap.size w w.drew := (Below.refl _ _).drew
 have hcvA := fun w' : World => hcv w'.heap.size (w'.alloc (.cells #[.int .u8 49] 5)) (cell_of_block (heap_alloc_self w' _) 0)
 have hw1 : IntKind.i64.wrap 1 = 1 := IntWalk.i64_in _ (by omega)
 have hw2 : IntKind.i64.wrap 49 = 49 := IntWalk.i64_in _ (by omega)
 have hw3 : IntKind.u8.wrap 49 = 49 := by decide
 have hs49 : (bs [49]).size = 1 := rfl
 have hap : bs [49] ++ ({ data := #[49] } : ByteArray) = bs [49, 49] := bs_app [49] [49]
 go_enter Tryd.func28, Tryd.ntmps28
 go_wp2_with fail
 refine wp_region_noPanic ?_
 refine wp_region_held_drew (S := fun _ => True) (by kernel_rfl) trivial (fun hHeld => ?_)
 (refine wpAnyH_take (i := 0) (v := .int .i64 11) rfl (by kernel_rfl) (by kernel_rfl) (by kernel_rfl) (fun _ _ _ h => h) (Or.inl ⟨by kernel_rfl, fun w hSw => by (try dsimp only at hSw); go_split_ands; go_simp⟩) (by assumption) ?_; simp only [Act.put, List.setIfInBounds_toArray, List.set_cons_zero, List.set_cons_succ])
 (refine wpAnyH_take (i := 1) (v := .int .i64 1) rfl (by kernel_rfl) (by kernel_rfl) (by kernel_rfl) (fun _ _ _ h => h) (Or.inl ⟨by kernel_rfl, fun w hSw => by (try dsimp only at hSw); go_split_ands; go_simp⟩) (by assumption) ?_; simp only [Act.put, List.setIfInBounds_toArray, List.set_cons_zero, List.set_cons_succ])
 (refine wpAnyH_take (i := 3) (v := .int .i64 11) rfl (by kernel_rfl) (by kernel_rfl) (by kernel_rfl) (fun _ _ _ h => h) (Or.inl ⟨by kernel_rfl, fun w hSw => by (try dsimp only at hSw); go_split_ands; go_simp⟩) (by assumption) ?_; simp only [Act.put, List.setIfInBounds_toArray, List.set_cons_zero, List.set_cons_succ])
 (refine wpAnyH_take (i := 4) (v := .int .i64 1) rfl (by kernel_rfl) (by kernel_rfl) (by kernel_rfl) (fun _ _ _ h => h) (Or.inl ⟨by kernel_rfl, fun w hSw => by (try dsimp only at hSw); go_split_ands; go_simp⟩) (by assumption) ?_; simp only [Act.put, List.setIfInBounds_toArray, List.set_cons_zero, List.set_cons_succ])
 (refine wpAnyH_take (i := 5) (v := .int .i64 49) rfl (by kernel_rfl) (by kernel_rfl) (by kernel_rfl) (fun _ _ _ h => h) (Or.inl ⟨by kernel_rfl, fun w hSw => by (try dsimp only at hSw); go_split_ands; go_simp⟩) (by assumption) ?_; simp only [Act.put, List.setIfInBounds_toArray, List.set_cons_zero, List.set_cons_succ])
 (refine wpAnyH_take (i := 6) (v := .int .u8 49) rfl (by kernel_rfl) (by kernel_rfl) (by kernel_rfl) (fun _ _ _ h => h) (Or.inl ⟨by kernel_rfl, fun w hSw => by (try dsimp only at hSw); go_split_ands; go_simp⟩) (by assumption) ?_; simp only [Act.put, List.setIfInBounds_toArray, List.set_cons_zero, List.set_cons_succ])
 obtain ⟨wd, hwd⟩ : ∃ wd, wd = w.drew := ⟨_, rfl⟩
 rw [← hwd] at hbD ⊢
 clear hwd
 refine wpAnyH_ready (rs := [2, 7]) (by kernel_rfl) (by simp) (AllReadyH.cons rfl (fun K hK => ?_) (AllReadyH.cons rfl (fun K hK => ?_) AllReadyH.nil))
 ·go_simp
  go_at_call 28
  refine (Hc.out _).mono ?_
  rintro e' w3 ⟨rfl, hb3⟩
  dsimp only
  (refine hK.out _ _ trivial (fun hHeld => ?_); clear hK K; (try simp only [Act.put, List.setIfInBounds_toArray, List.set_cons_zero, List.set_cons_succ]))
  have hcv3 := hcvA w3
  (refine wpAnyH_ready (rs := [7]) (by kernel_rfl) (by simp) (AllReadyH.cons rfl (fun K hK => ?_) AllReadyH.nil); go_simp)
  (refine hK.out _ _ trivial (fun hHeld => ?_); clear hK K; (try simp only [Act.put, List.setIfInBounds_toArray, List.set_cons_zero, List.set_cons_succ]))
  (refine wpAnyH_ready (rs := [8]) (by kernel_rfl) (by simp) (AllReadyH.cons rfl (fun K hK => ?_) AllReadyH.nil); go_simp)
  (refine hK.out _ _ trivial (fun hHeld => ?_); clear hK K; (try simp only [Act.put, List.setIfInBounds_toArray, List.set_cons_zero, List.set_cons_succ]))
  (refine wpAnyH_take (i := 9) (v := .string (bs [49, 49])) rfl (by kernel_rfl) (by kernel_rfl) (by kernel_rfl) (fun _ _ _ h => h) (Or.inl ⟨by kernel_rfl, fun w hSw => by (try dsimp only at hSw); go_split_ands; go_simp⟩) (by assumption) ?_; simp only [Act.put, List.setIfInBounds_toArray, List.set_cons_zero, List.set_cons_succ])
  (refine wpAnyH_ready (rs := [10]) (by kernel_rfl) (by simp) (AllReadyH.cons rfl (fun K hK => ?_) AllReadyH.nil); go_simp)
  (refine hK.out _ _ trivial (fun hHeld => ?_); clear hK K; (try simp only [Act.put, List.setIfInBounds_toArray, List.set_cons_zero, List.set_cons_succ]))
  refine wpAnyH_done (by kernel_rfl) (NoPanic.normal ?_) _
  go_wp2_with fail
  go_ret
  exact ⟨rfl, (hbD.trans (hb3.mono hbD.size)).alloc (Nat.le_trans hbD.size hb3.size) _⟩
 ·have hcv0 := hcvA wd
  obtain ⟨wb, hwb⟩ : ∃ wb, wb = wd.alloc (.cells #[.int .u8 49] 5) := ⟨_, rfl⟩
  have hbb : Below wd.heap.size wd wb := by rw [hwb]; exact (Below.refl _ _).alloc (Nat.le_refl _) _
  have hcb : wb.cell? ⟨wd.heap.size, 0, none⟩ = some (.int .u8 49) := by rw [hwb]; exact cell_of_block (heap_alloc_self _ _) 0
  have hsb := lt_of_cell hcb
  have Hwb := Lib.hid hwb; clear hwb
  go_simp
  rw [← Hwb.out]
  (refine hK.out _ _ trivial (fun hHeld => ?_); clear hK K; (try simp only [Act.put, List.setIfInBounds_toArray, List.set_cons_zero, List.set_cons_succ]))
  refine wpAnyH_ready (rs := [2, 8]) (by kernel_rfl) (by simp) (AllReadyH.cons rfl (fun K hK => ?_) (AllReadyH.cons rfl (fun K hK => ?_) AllReadyH.nil))
  ·go_simp
   go_at_call 28
   refine (Hc.out _).mono ?_
   rintro e' w3 ⟨rfl, hb3⟩
   have hcv3 := hcv _ _ (cell_keep hcb (hb3.block _ hsb))
   dsimp only
   (refine hK.out _ _ trivial (fun hHeld => ?_); clear hK K; (try simp only [Act.put, List.setIfInBounds_toArray, List.set_cons_zero, List.set_cons_succ]))
   (refine wpAnyH_ready (rs := [8]) (by kernel_rfl) (by simp) (AllReadyH.cons rfl (fun K hK => ?_) AllReadyH.nil); go_simp)
   (refine hK.out _ _ trivial (fun hHeld => ?_); clear hK K; (try simp only [Act.put, List.setIfInBounds_toArray, List.set_cons_zero, List.set_cons_succ]))
   (refine wpAnyH_take (i := 9) (v := .string (bs [49, 49])) rfl (by kernel_rfl) (by kernel_rfl) (by kernel_rfl) (fun _ _ _ h => h) (Or.inl ⟨by kernel_rfl, fun w hSw => by (try dsimp only at hSw); go_split_ands; go_simp⟩) (by assumption) ?_; simp only [Act.put, List.setIfInBounds_toArray, List.set_cons_zero, List.set_cons_succ])
   (refine wpAnyH_ready (rs := [10]) (by kernel_rfl) (by simp) (AllReadyH.cons rfl (fun K hK => ?_) AllReadyH.nil); go_simp)
   (refine hK.out _ _ trivial (fun hHeld => ?_); clear hK K; (try simp only [Act.put, List.setIfInBounds_toArray, List.set_cons_zero, List.set_cons_succ]))
   refine wpAnyH_done (by kernel_rfl) (NoPanic.normal ?_) _
   go_wp2_with fail
   go_ret
   exact ⟨rfl, (hbD.trans (hbb.mono hbD.size)).trans (hb3.mono (Nat.le_trans hbD.size hbb.size))⟩
  ·have hcv3 := hcv _ _ hcb
   go_simp
   (refine hK.out _ _ trivial (fun hHeld => ?_); clear hK K; (try simp only [Act.put, List.setIfInBounds_toArray, List.set_cons_zero, List.set_cons_succ]))
   refine wpAnyH_ready (rs := [2]) (by kernel_rfl) (by simp) (AllReadyH.cons rfl (fun K hK => ?_) AllReadyH.nil)
   go_simp
   go_at_call 28
   refine (Hc.out _).mono ?_
   rintro e' w3 ⟨rfl, hb3⟩
   dsimp only
   (refine hK.out _ _ trivial (fun hHeld => ?_); clear hK K; (try simp only [Act.put, List.setIfInBounds_toArray, List.set_cons_zero, List.set_cons_succ]))
   (refine wpAnyH_take (i := 9) (v := .string (bs [49, 49])) rfl (by kernel_rfl) (by kernel_rfl) (by kernel_rfl) (fun _ _ _ h => h) (Or.inl ⟨by kernel_rfl, fun w hSw => by (try dsimp only at hSw); go_split_ands; go_simp⟩) (by assumption) ?_; simp only [Act.put, List.setIfInBounds_toArray, List.set_cons_zero, List.set_cons_succ])
   (refine wpAnyH_ready (rs := [10]) (by kernel_rfl) (by simp) (AllReadyH.cons rfl (fun K hK => ?_) AllReadyH.nil); go_simp)
   (refine hK.out _ _ trivial (fun hHeld => ?_); clear hK K; (try simp only [Act.put, List.setIfInBounds_toArray, List.set_cons_zero, List.set_cons_succ]))
   refine wpAnyH_done (by kernel_rfl) (NoPanic.normal ?_) _
   go_wp2_with fail
   go_ret
   exact ⟨rfl, (hbD.trans (hbb.mono hbD.size)).trans (hb3.mono (Nat.le_trans hbD.size hbb.size))⟩
theorem dec_any (n : Int) (h0 : 0 ≤ n) (h1 : n ≤ 11) (w : World) :
  Calls Tryd.prog 28 #[.int .i64 n] w fun e w' => e = .returned (.string (bs (decW n))) ∧ Below w.heap.size w w' := by
 by_cases h : n < 10
 ·obtain ⟨k, rfl⟩ : ∃ k : Nat, n = (k : Int) := ⟨n.toNat, by omega⟩
  exact dec0 k (by omega) w
 ·rcases (show n = 10 ∨ n = 11 by omega) with rfl | rfl
  ·exact dec10 w
  ·exact dec11 w
def codeS (l : List (Int × Int)) : Int := if fitTo l l.length = false then 2 else if 1200 < l.length then 3 else 0
set_option maxRecDepth 100000 in
set_option maxHeartbeats 2000000 in
theorem l19Code_any {S : Nat → Prop} (v : Value) (l : List (Int × Int)) (W : World) (h : VS S W v l) :
  Calls Tryd.prog 14 #[v] W fun e' w' => e' = .returned (.int .i64 (codeS l)) ∧ Below W.heap.size W w' := by
 have hV := h
 obtain ⟨a, c, rfl, hm⟩ := h.form
 go_enter Tryd.func14, Tryd.ntmps14
 go_wp2_with fail
 go_loopw [3] (fun i wr => ∃ k : Nat, k ≤ l.length ∧ i = .int .i64 k ∧ fitTo l k = true ∧ Below W.heap.size W wr) (fun i _ => l.length - (intOf i).toNat)
 case atStart => exact ⟨0, Nat.zero_le _, rfl, rfl, Below.refl _ _⟩
 case round =>
  obtain ⟨k, hk, rfl, hft, hB⟩ := hrel
  have hzW := hB.size
  by_cases hkk : k < l.length
  ·obtain ⟨b1, off1, rfl, _, hc1, hc2⟩ := (hV.below hB).cell hkk
   have hstep : fitTo l (k + 1) = fitS (gets l k) := by unfold fitTo; rw [hft]; rfl
   have hkn : ¬ l.length ≤ k := by omega
   have hkd : decide (k < l.length) = true := decide_eq_true hkk
   obtain ⟨x, hx⟩ : ∃ x, gets l k = x := ⟨_, rfl⟩
   rw [hx] at hc1 hc2 hstep
   have HS := Lib.hid (And.intro hstep hx); clear hstep hx hft
   cases ho : openS x
   ·have HO := Lib.hid ho; clear ho
    cases h1 : inB x.1 0 9
    ·have H1 := Lib.hid h1; clear h1
     have hbad : codeS l = 2 := by
      have h2 : fitTo l (k + 1) = false := by rw [HS.out.1]; unfold fitS; rw [HO.out, H1.out]; rfl
      unfold codeS
      rw [if_pos (fitTo_false h2 _ (by omega))]
     have Hbad := Lib.hid hbad; clear hbad
     go_wp2_with (first | (go_at_call 26; refine (l19Open_b x _ _ HO.out).mono ?_; rintro e' w' ⟨rfl, hb⟩; have hc1' := cell_keep hc1 (hb.block _ (lt_of_cell hc1)); have hc2' := cell_keep hc2 (hb.block _ (lt_of_cell hc1))) | (go_at_call 27; refine (l01In_b x.1 0 9 _ _ H1.out).mono ?_; rintro e' w'' ⟨rfl, rfl⟩))
     go_ret
     exact ⟨by rw [Hbad.out]; rfl, hB.trans (hb.mono hzW)⟩
    ·have H1 := Lib.hid h1; clear h1
     cases h2 : inB x.2 0 11
     ·have H2 := Lib.hid h2; clear h2
      have hbad : codeS l = 2 := by
       have h2 : fitTo l (k + 1) = false := by rw [HS.out.1]; unfold fitS; rw [HO.out, H1.out, H2.out]; rfl
       unfold codeS
       rw [if_pos (fitTo_false h2 _ (by omega))]
      have Hbad := Lib.hid hbad; clear hbad
      go_wp2_with (first | (go_at_call 26; refine (l19Open_b x _ _ HO.out).mono ?_; rintro e' w' ⟨rfl, hb⟩; have hc1' := cell_keep hc1 (hb.block _ (lt_of_cell hc1)); have hc2' := cell_keep hc2 (hb.block _ (lt_of_cell hc1))) | (go_at_call 27; with_reducible refine (l01In_b x.1 0 9 _ _ H1.out).mono ?_; rintro e' w'' ⟨rfl, rfl⟩) | (go_at_call 27; with_reducible refine (l01In_b x.2 0 11 _ _ H2.out).mono ?_; rintro e' w'' ⟨rfl, rfl⟩))
      go_ret
      exact ⟨by rw [Hbad.out]; rfl, hB.trans (hb.mono hzW)⟩
     ·have H2 := Lib.hid h2; clear h2
      go_wp2_with (first | (go_at_call 26; refine (l19Open_b x _ _ HO.out).mono ?_; rintro e' w' ⟨rfl, hb⟩; have hc1' := cell_keep hc1 (hb.block _ (lt_of_cell hc1)); have hc2' := cell_keep hc2 (hb.block _ (lt_of_cell hc1))) | (go_at_call 27; with_reducible refine (l01In_b x.1 0 9 _ _ H1.out).mono ?_; rintro e' w'' ⟨rfl, rfl⟩) | (go_at_call 27; with_reducible refine (l01In_b x.2 0 11 _ _ H2.out).mono ?_; rintro e' w'' ⟨rfl, rfl⟩))
      go_roundw
      case rel => exact ⟨k + 1, by omega, by go_num, by rw [HS.out.1]; unfold fitS; rw [HO.out, H1.out, H2.out]; rfl, hB.trans (hb.mono hzW)⟩
      case measure => simp [intOf]; omega
   ·have HO := Lib.hid ho; clear ho
    go_wp2_with (go_at_call 26; refine (l19Open_b x _ _ HO.out).mono ?_; rintro e' w' ⟨rfl, hb⟩)
    go_roundw
    case rel => exact ⟨k + 1, by omega, by go_num, by rw [HS.out.1]; unfold fitS; rw [HO.out]; rfl, hB.trans (hb.mono hzW)⟩
    case measure => simp [intOf]; omega
  ·obtain rfl : k = l.length := by omega
   have hkd : decide (l.length < l.length) = false := decide_eq_false (Nat.lt_irrefl _)
   by_cases hl : 1200 < l.length
   ·have hfin : codeS l = 3 := by unfold codeS; rw [if_neg (by rw [hft]; decide), if_pos hl]
    have Hfin := Lib.hid (And.intro hfin hft); clear hfin hft
    go_wp2_with fail
    go_ret
    exact ⟨by rw [Hfin.out.1]; rfl, hB⟩
   ·have hfin : codeS l = 0 := by unfold codeS; rw [if_neg (by rw [hft]; decide), if_neg hl]
    have Hfin := Lib.hid (And.intro hfin hft); clear hfin hft
    go_wp2_with fail
    go_ret
    exact ⟨by rw [Hfin.out.1]; rfl, hB⟩
set_option maxRecDepth 100000 in
set_option maxHeartbeats 12000000 in
theorem l19Text_any {S : Nat → Prop} (v : Value) (l : List (Int × Int)) (W : World) (h : VS S W v l) (hf : fitTo l l.length = true) (hl : l.length ≤ 1200) :
  Calls Tryd.prog 15 #[v] W fun e' w' => e' = .returned (.string (bs (txtTo l l.length))) ∧ Below W.heap.size W w' := by
 have hV := h
 obtain ⟨a, c, rfl, hm⟩ := h.form
 have HF := Lib.hid hf; clear hf
 go_enter Tryd.func15, Tryd.ntmps15
 go_wp2_with fail
 go_loopw [3, 4] (fun s i wr => ∃ k : Nat, k ≤ l.length ∧ i = .int .i64 k ∧ s = .string (bs (txtTo l k)) ∧ Below W.heap.size W wr) (fun _ i _ => l.length - (intOf i).toNat)
 case atStart => exact ⟨0, Nat.zero_le _, rfl, rfl, Below.refl _ _⟩
 case round =>
  obtain ⟨k, hk, rfl, rfl, hB⟩ := hrel
  have hzW := hB.size
  have htl := txt_len HF.out k hk
  by_cases hkk : k < l.length
  ·obtain ⟨b1, off1, rfl, _, hc1, hc2⟩ := (hV.below hB).cell hkk
   have hkn : ¬ l.length ≤ k := by omega
   have hkd : decide (k < l.length) = true := decide_eq_true hkk
   have hstep : txtTo l (k + 1) = txtTo l k ++ (if 0 < k then [32] else []) ++ wordS (gets l k) := rfl
   have hfit := fitTo_at HF.out hkk
   obtain ⟨x, hx⟩ : ∃ x, gets l k = x := ⟨_, rfl⟩
   rw [hx] at hc1 hc2 hstep hfit
   by_cases hk0 : 0 < k
   ·rw [if_pos hk0] at hstep
    have HS := Lib.hid (And.intro hstep (And.intro hfit hx)); clear hstep hfit hx
    have hz0 : (bs (txtTo l k)).size ≤ 100000 := by rw [bs_size]; omega
    have hk0d : decide (0 < k) = true := decide_eq_true hk0
    obtain ⟨sp, hsp⟩ : ∃ sp : List UInt8, sp = [32] := ⟨_, rfl⟩
    have hspl : sp.length ≤ 1 := by rw [hsp]; simp
    obtain ⟨s0, hs0⟩ : ∃ s0, bs (txtTo l k ++ sp) = s0 := ⟨_, rfl⟩
    have ha0 : bs (txtTo l k) ++ ({ data := #[32] } : ByteArray) = s0 := by rw [← hs0, hsp]; exact bs_app _ [32]
    have hz1 : s0.size ≤ 100000 := by rw [← hs0, bs_size, List.length_append]; omega
    cases ho : openS x
    ·have hfx := HS.out.2.1
     unfold fitS at hfx
     rw [ho, Bool.false_or, Bool.and_eq_true, inB_iff, inB_iff] at hfx
     have hw : wordS x = decW x.1 ++ [47] ++ decW x.2 := by unfold wordS; rw [ho]; rfl
     have hd1 := dec_small hfx.1.1 (Int.le_trans hfx.1.2 (by omega))
     have hd2 := dec_small hfx.2.1 hfx.2.2
     have hC1 := fun w => dec_any x.1 hfx.1.1 (Int.le_trans hfx.1.2 (by omega)) w
     have hC2 := fun w => dec_any x.2 hfx.2.1 hfx.2.2 w
     obtain ⟨d1, hd1e⟩ : ∃ d, bs (decW x.1) = d := ⟨_, rfl⟩
     obtain ⟨d2, hd2e⟩ : ∃ d, bs (decW x.2) = d := ⟨_, rfl⟩
     obtain ⟨s1, hs1⟩ : ∃ s, bs (txtTo l k ++ sp ++ decW x.1) = s := ⟨_, rfl⟩
     obtain ⟨s2, hs2⟩ : ∃ s, bs (txtTo l k ++ sp ++ decW x.1 ++ [47]) = s := ⟨_, rfl⟩
     obtain ⟨s3, hs3⟩ : ∃ s, bs (txtTo l k ++ sp ++ decW x.1 ++ [47] ++ decW x.2) = s := ⟨_, rfl⟩
     have hnx : s3 = bs (txtTo l (k + 1)) := by
      rw [← hs3, HS.out.1, hw, hsp]; simp
     have ha1 : s0 ++ d1 = s1 := by rw [← hs0, ← hd1e, ← hs1]; exact bs_app _ _
     have ha2 : s1 ++ ({ data := #[47] } : ByteArray) = s2 := by rw [← hs1, ← hs2]; exact bs_app _ [47]
     have ha3 : s2 ++ d2 = s3 := by rw [← hs2, ← hd2e, ← hs3]; exact bs_app _ _
     have hq1 : d1.size ≤ 2 := by rw [← hd1e, bs_size]; omega
     have hq2 : d2.size ≤ 2 := by rw [← hd2e, bs_size]; omega
     have hz2 : s1.size ≤ 100002 := by rw [← hs1, bs_size, List.length_append, List.length_append]; omega
     have hz3 : s2.size ≤ 100003 := by rw [← hs2, bs_size, List.length_append, List.length_append, List.length_append]; simp; omega
     have hg1 : s0.size + d1.size ≤ 9223372036854775807 := by omega
     have hg2 : ¬ 9223372036854775807 < s1.size + 1 := by omega
     have hg3 : ¬ 9223372036854775807 < s2.size + d2.size := by omega
     have hg1' : ¬ 9223372036854775807 < s0.size + d1.size := by omega
     simp only [hd1e] at hC1
     simp only [hd2e] at hC2
     have HO := Lib.hid ho; clear ho
     have HX := Lib.hid (And.intro hnx (And.intro hC1 hC2)); clear hfx hnx hd1 hd2 hw hC1 hC2 hd1e hd2e hs0 hs1 hs2 hs3 hsp hspl
     go_wp2_with (go_at_call 26; refine (l19Open_b x _ _ HO.out).mono ?_; rintro e' w5 ⟨rfl, hb5⟩; have hc1' := cell_keep hc1 (hb5.block _ (lt_of_cell hc1)); have hc2' := cell_keep hc2 (hb5.block _ (lt_of_cell hc1)); have hBW := hB.trans (hb5.mono hzW))
     clear hc1 hc2
     refine wp_region_noPanic ?_
     refine wp_region_held_drew (S := fun w' => w'.cell? ⟨b1, off1 + k * 2, none⟩ = some (.int .i64 x.1) ∧ w'.cell? ⟨b1, off1 + k * 2 + 1, none⟩ = some (.int .i64 x.2)) (by kernel_rfl) ⟨cell_keep hc1' rfl, cell_keep hc2' rfl⟩ (fun hHeld => ?_)
     (refine wpAnyH_take (i := 0) (v := .string s0) rfl (by kernel_rfl) (by kernel_rfl) (by kernel_rfl) (fun _ _ _ h => h) (Or.inl ⟨by kernel_rfl, fun w hSw => by (try dsimp only at hSw); go_split_ands; go_simp⟩) (by assumption) ?_; simp only [Act.put, List.setIfInBounds_toArray, List.set_cons_zero, List.set_cons_succ])
     (refine wpAnyH_take (i := 1) (v := .slice (some ⟨b1, off1, none⟩) l.length c) rfl (by kernel_rfl) (by kernel_rfl) (by kernel_rfl) (fun _ _ _ h => h) (Or.inl ⟨by kernel_rfl, fun w hSw => by (try dsimp only at hSw); go_split_ands; go_simp⟩) (by assumption) ?_; simp only [Act.put, List.setIfInBounds_toArray, List.set_cons_zero, List.set_cons_succ])
     (refine wpAnyH_take (i := 2) (v := .int .i64 (k : Int)) rfl (by kernel_rfl) (by kernel_rfl) (by kernel_rfl) (fun _ _ _ h => h) (Or.inl ⟨by kernel_rfl, fun w hSw => by (try dsimp only at hSw); go_split_ands; go_simp⟩) (by assumption) ?_; simp only [Act.put, List.setIfInBounds_toArray, List.set_cons_zero, List.set_cons_succ])
     (refine wpAnyH_take (i := 3) (v := .pointer (some ⟨b1, off1 + k * 2, none⟩)) rfl (by kernel_rfl) (by kernel_rfl) (by kernel_rfl) (fun _ _ _ h => h) (Or.inl ⟨by kernel_rfl, fun w hSw => by (try dsimp only at hSw); go_split_ands; go_simp⟩) (by assumption) ?_; simp only [Act.put, List.setIfInBounds_toArray, List.set_cons_zero, List.set_cons_succ])
     (refine wpAnyH_take (i := 4) (v := .pointer (some ⟨b1, off1 + k * 2, none⟩)) rfl (by kernel_rfl) (by kernel_rfl) (by kernel_rfl) (fun _ _ _ h => h) (Or.inl ⟨by kernel_rfl, fun w hSw => by (try dsimp only at hSw); go_split_ands; go_simp⟩) (by assumption) ?_; simp only [Act.put, List.setIfInBounds_toArray, List.set_cons_zero, List.set_cons_succ])
     (refine wpAnyH_take (i := 5) (v := .int .i64 x.1) rfl (by kernel_rfl) (by kernel_rfl) (by kernel_rfl) (fun _ _ _ h => h) (Or.inl ⟨by kernel_rfl, fun w hSw => by (try dsimp only at hSw); go_split_ands; go_simp⟩) (by assumption) ?_; simp only [Act.put, List.setIfInBounds_toArray, List.set_cons_zero, List.set_cons_succ])
     (refine wpAnyH_take (i := 9) (v := .slice (some ⟨b1, off1, none⟩) l.length c) rfl (by kernel_rfl) (by kernel_rfl) (by kernel_rfl) (fun _ _ _ h => h) (Or.inl ⟨by kernel_rfl, fun w hSw => by (try dsimp only at hSw); go_split_ands; go_simp⟩) (by assumption) ?_; simp only [Act.put, List.setIfInBounds_toArray, List.set_cons_zero, List.set_cons_succ])
     (refine wpAnyH_take (i := 10) (v := .int .i64 (k : Int)) rfl (by kernel_rfl) (by kernel_rfl) (by kernel_rfl) (fun _ _ _ h => h) (Or.inl ⟨by kernel_rfl, fun w hSw => by (try dsimp only at hSw); go_split_ands; go_simp⟩) (by assumption) ?_; simp only [Act.put, List.setIfInBounds_toArray, List.set_cons_zero, List.set_cons_succ])
     (refine wpAnyH_take (i := 11) (v := .pointer (some ⟨b1, off1 + k * 2, none⟩)) rfl (by kernel_rfl) (by kernel_rfl) (by kernel_rfl) (fun _ _ _ h => h) (Or.inl ⟨by kernel_rfl, fun w hSw => by (try dsimp only at hSw); go_split_ands; go_simp⟩) (by assumption) ?_; simp only [Act.put, List.setIfInBounds_toArray, List.set_cons_zero, List.set_cons_succ])
     (refine wpAnyH_take (i := 12) (v := .pointer (some ⟨b1, off1 + k * 2 + 1, none⟩)) rfl (by kernel_rfl) (by kernel_rfl) (by kernel_rfl) (fun _ _ _ h => h) (Or.inl ⟨by kernel_rfl, fun w hSw => by (try dsimp only at hSw); go_split_ands; go_simp⟩) (by assumption) ?_; simp only [Act.put, List.setIfInBounds_toArray, List.set_cons_zero, List.set_cons_succ])
     (refine wpAnyH_take (i := 13) (v := .int .i64 x.2) rfl (by kernel_rfl) (by kernel_rfl) (by kernel_rfl) (fun _ _ _ h => h) (Or.inl ⟨by kernel_rfl, fun w hSw => by (try dsimp only at hSw); go_split_ands; go_simp⟩) (by assumption) ?_; simp only [Act.put, List.setIfInBounds_toArray, List.set_cons_zero, List.set_cons_succ])
     obtain ⟨wd, hwd⟩ : ∃ wd, wd = w5.drew := ⟨_, rfl⟩
     have hbd : Below w5.heap.size w5 wd := by rw [hwd]; exact (Below.refl _ _).drew
     rw [← hwd] at hHeld ⊢
     clear hwd hc1' hc2'
     refine wpAnyH_ready (rs := [6]) (by kernel_rfl) (by simp) (AllReadyH.cons rfl (fun K hK => ?_) AllReadyH.nil)
     go_simp
     go_at_call 28
     refine (HX.out.2.1 _).mono ?_
     rintro e' w6 ⟨rfl, hb⟩
     have hbw6 := hb
     have hSw6 : w6.cell? ⟨b1, off1 + k * 2, none⟩ = some (.int .i64 x.1) ∧ w6.cell? ⟨b1, off1 + k * 2 + 1, none⟩ = some (.int .i64 x.2) := ⟨cell_keep hHeld.1 (hb.block _ (lt_of_cell hHeld.1)), cell_keep hHeld.2 (hb.block _ (lt_of_cell hHeld.2))⟩
     clear hb
     dsimp only
     (refine hK.out _ _ hSw6 (fun hHeld => ?_); clear hK K; (try simp only [Act.put, List.setIfInBounds_toArray, List.set_cons_zero, List.set_cons_succ]))
     (refine wpAnyH_take (i := 7) (v := .string s1) rfl (by kernel_rfl) (by kernel_rfl) (by kernel_rfl) (fun _ _ _ h => h) (Or.inl ⟨by kernel_rfl, fun w hSw => by (try dsimp only at hSw); go_split_ands; go_simp⟩) (by assumption) ?_; simp only [Act.put, List.setIfInBounds_toArray, List.set_cons_zero, List.set_cons_succ])
     (refine wpAnyH_take (i := 8) (v := .string s2) rfl (by kernel_rfl) (by kernel_rfl) (by kernel_rfl) (fun _ _ _ h => h) (Or.inl ⟨by kernel_rfl, fun w hSw => by (try dsimp only at hSw); go_split_ands; go_simp⟩) (by assumption) ?_; simp only [Act.put, List.setIfInBounds_toArray, List.set_cons_zero, List.set_cons_succ])
     refine wpAnyH_ready (rs := [14]) (by kernel_rfl) (by simp) (AllReadyH.cons rfl (fun K hK => ?_) AllReadyH.nil)
     go_simp
     go_at_call 28
     refine (HX.out.2.2 _).mono ?_
     rintro e' w7 ⟨rfl, hb⟩
     have hbw7 := hb
     have hSw7 : w7.cell? ⟨b1, off1 + k * 2, none⟩ = some (.int .i64 x.1) ∧ w7.cell? ⟨b1, off1 + k * 2 + 1, none⟩ = some (.int .i64 x.2) := ⟨cell_keep hSw6.1 (hb.block _ (lt_of_cell hSw6.1)), cell_keep hSw6.2 (hb.block _ (lt_of_cell hSw6.2))⟩
     clear hb
     dsimp only
     (refine hK.out _ _ hSw7 (fun hHeld => ?_); clear hK K; (try simp only [Act.put, List.setIfInBounds_toArray, List.set_cons_zero, List.set_cons_succ]))
     (refine wpAnyH_take (i := 15) (v := .string s3) rfl (by kernel_rfl) (by kernel_rfl) (by kernel_rfl) (fun _ _ _ h => h) (Or.inl ⟨by kernel_rfl, fun w hSw => by (try dsimp only at hSw); go_split_ands; go_simp⟩) (by assumption) ?_; simp only [Act.put, List.setIfInBounds_toArray, List.set_cons_zero, List.set_cons_succ])
     (refine wpAnyH_ready (rs := [16]) (by kernel_rfl) (by simp) (AllReadyH.cons rfl (fun K hK => ?_) AllReadyH.nil); go_simp)
     (refine hK.out _ _ hSw7 (fun hHeld => ?_); clear hK K; (try simp only [Act.put, List.setIfInBounds_toArray, List.set_cons_zero, List.set_cons_succ]))
     refine wpAnyH_done (by kernel_rfl) (NoPanic.normal ?_) _
     go_wp2_with fail
     go_roundw
     case rel => exact ⟨k + 1, by omega, by go_num, by rw [HX.out.1], (hBW.trans ((hbd.trans ((hbw6.mono hbd.size).trans (hbw7.mono (Nat.le_trans hbd.size hbw6.size)))).mono hBW.size))⟩
     case measure => simp [intOf]; omega
    ·have hw : wordS x = [43] := by unfold wordS; rw [if_pos ho]
     obtain ⟨s1, hs1⟩ : ∃ s, bs (txtTo l k ++ sp ++ [43]) = s := ⟨_, rfl⟩
     have hnx : s1 = bs (txtTo l (k + 1)) := by rw [← hs1, HS.out.1, hw, hsp]
     have ha1 : s0 ++ ({ data := #[43] } : ByteArray) = s1 := by rw [← hs0, ← hs1]; exact bs_app _ [43]
     have hg1 : ¬ 9223372036854775807 < s0.size + 1 := by omega
     have HO := Lib.hid ho; clear ho
     have HX := Lib.hid hnx; clear hnx hw hs0 hs1 hsp hspl
     go_wp2_with (go_at_call 26; refine (l19Open_b x _ _ HO.out).mono ?_; rintro e' w5 ⟨rfl, hb5⟩; have hBW := hB.trans (hb5.mono hzW))
     go_roundw
     case rel => exact ⟨k + 1, by omega, by go_num, by rw [HX.out], hBW⟩
     case measure => simp [intOf]; omega
   ·obtain rfl : k = 0 := by omega
    rw [if_neg (by omega)] at hstep
    have HS := Lib.hid (And.intro hstep (And.intro hfit hx)); clear hstep hfit hx
    have hz0 : (bs (txtTo l 0)).size ≤ 100000 := by rw [bs_size]; omega
    obtain ⟨k, hk0e⟩ : ∃ k, k = 0 := ⟨0, rfl⟩
    rw [← hk0e] at HS hkk hk htl hkn hkd hc1 hc2 hz0
    have hk0d : decide (0 < k) = false := decide_eq_false (by omega)
    have hk0n : ¬ 0 < k := by omega
    have hk0i : ¬ (0 : Int) < (k : Int) := by omega
    rw [show ((0 : Nat) : Int) = (k : Int) by rw [hk0e], show txtTo l 0 = txtTo l k by rw [hk0e]]
    clear hk0e hk0
    obtain ⟨sp, hsp⟩ : ∃ sp : List UInt8, sp = [] := ⟨_, rfl⟩
    have hspl : sp.length ≤ 1 := by rw [hsp]; simp
    obtain ⟨s0, hs0⟩ : ∃ s0, bs (txtTo l k ++ sp) = s0 := ⟨_, rfl⟩
    have ha0 : bs (txtTo l k) = s0 := by rw [← hs0, hsp]; exact by rw [List.append_nil]
    have hz1 : s0.size ≤ 100000 := by rw [← hs0, bs_size, List.length_append]; omega
    cases ho : openS x
    ·have hfx := HS.out.2.1
     unfold fitS at hfx
     rw [ho, Bool.false_or, Bool.and_eq_true, inB_iff, inB_iff] at hfx
     have hw : wordS x = decW x.1 ++ [47] ++ decW x.2 := by unfold wordS; rw [ho]; rfl
     have hd1 := dec_small hfx.1.1 (Int.le_trans hfx.1.2 (by omega))
     have hd2 := dec_small hfx.2.1 hfx.2.2
     have hC1 := fun w => dec_any x.1 hfx.1.1 (Int.le_trans hfx.1.2 (by omega)) w
     have hC2 := fun w => dec_any x.2 hfx.2.1 hfx.2.2 w
     obtain ⟨d1, hd1e⟩ : ∃ d, bs (decW x.1) = d := ⟨_, rfl⟩
     obtain ⟨d2, hd2e⟩ : ∃ d, bs (decW x.2) = d := ⟨_, rfl⟩
     obtain ⟨s1, hs1⟩ : ∃ s, bs (txtTo l k ++ sp ++ decW x.1) = s := ⟨_, rfl⟩
     obtain ⟨s2, hs2⟩ : ∃ s, bs (txtTo l k ++ sp ++ decW x.1 ++ [47]) = s := ⟨_, rfl⟩
     obtain ⟨s3, hs3⟩ : ∃ s, bs (txtTo l k ++ sp ++ decW x.1 ++ [47] ++ decW x.2) = s := ⟨_, rfl⟩
     have hnx : s3 = bs (txtTo l (k + 1)) := by
      rw [← hs3, HS.out.1, hw, hsp]; simp
     have ha1 : s0 ++ d1 = s1 := by rw [← hs0, ← hd1e, ← hs1]; exact bs_app _ _
     have ha2 : s1 ++ ({ data := #[47] } : ByteArray) = s2 := by rw [← hs1, ← hs2]; exact bs_app _ [47]
     have ha3 : s2 ++ d2 = s3 := by rw [← hs2, ← hd2e, ← hs3]; exact bs_app _ _
     have hq1 : d1.size ≤ 2 := by rw [← hd1e, bs_size]; omega
     have hq2 : d2.size ≤ 2 := by rw [← hd2e, bs_size]; omega
     have hz2 : s1.size ≤ 100002 := by rw [← hs1, bs_size, List.length_append, List.length_append]; omega
     have hz3 : s2.size ≤ 100003 := by rw [← hs2, bs_size, List.length_append, List.length_append, List.length_append]; simp; omega
     have hg1 : s0.size + d1.size ≤ 9223372036854775807 := by omega
     have hg2 : ¬ 9223372036854775807 < s1.size + 1 := by omega
     have hg3 : ¬ 9223372036854775807 < s2.size + d2.size := by omega
     have hg1' : ¬ 9223372036854775807 < s0.size + d1.size := by omega
     simp only [hd1e] at hC1
     simp only [hd2e] at hC2
     have HO := Lib.hid ho; clear ho
     have HX := Lib.hid (And.intro hnx (And.intro hC1 hC2)); clear hfx hnx hd1 hd2 hw hC1 hC2 hd1e hd2e hs0 hs1 hs2 hs3 hsp hspl
     go_wp2_with (go_at_call 26; refine (l19Open_b x _ _ HO.out).mono ?_; rintro e' w5 ⟨rfl, hb5⟩; have hc1' := cell_keep hc1 (hb5.block _ (lt_of_cell hc1)); have hc2' := cell_keep hc2 (hb5.block _ (lt_of_cell hc1)); have hBW := hB.trans (hb5.mono hzW))
     clear hc1 hc2
     refine wp_region_noPanic ?_
     refine wp_region_held_drew (S := fun w' => w'.cell? ⟨b1, off1 + k * 2, none⟩ = some (.int .i64 x.1) ∧ w'.cell? ⟨b1, off1 + k * 2 + 1, none⟩ = some (.int .i64 x.2)) (by kernel_rfl) ⟨cell_keep hc1' rfl, cell_keep hc2' rfl⟩ (fun hHeld => ?_)
     (refine wpAnyH_take (i := 0) (v := .string s0) rfl (by kernel_rfl) (by kernel_rfl) (by kernel_rfl) (fun _ _ _ h => h) (Or.inl ⟨by kernel_rfl, fun w hSw => by (try dsimp only at hSw); go_split_ands; go_simp⟩) (by assumption) ?_; simp only [Act.put, List.setIfInBounds_toArray, List.set_cons_zero, List.set_cons_succ])
     (refine wpAnyH_take (i := 1) (v := .slice (some ⟨b1, off1, none⟩) l.length c) rfl (by kernel_rfl) (by kernel_rfl) (by kernel_rfl) (fun _ _ _ h => h) (Or.inl ⟨by kernel_rfl, fun w hSw => by (try dsimp only at hSw); go_split_ands; go_simp⟩) (by assumption) ?_; simp only [Act.put, List.setIfInBounds_toArray, List.set_cons_zero, List.set_cons_succ])
     (refine wpAnyH_take (i := 2) (v := .int .i64 (k : Int)) rfl (by kernel_rfl) (by kernel_rfl) (by kernel_rfl) (fun _ _ _ h => h) (Or.inl ⟨by kernel_rfl, fun w hSw => by (try dsimp only at hSw); go_split_ands; go_simp⟩) (by assumption) ?_; simp only [Act.put, List.setIfInBounds_toArray, List.set_cons_zero, List.set_cons_succ])
     (refine wpAnyH_take (i := 3) (v := .pointer (some ⟨b1, off1 + k * 2, none⟩)) rfl (by kernel_rfl) (by kernel_rfl) (by kernel_rfl) (fun _ _ _ h => h) (Or.inl ⟨by kernel_rfl, fun w hSw => by (try dsimp only at hSw); go_split_ands; go_simp⟩) (by assumption) ?_; simp only [Act.put, List.setIfInBounds_toArray, List.set_cons_zero, List.set_cons_succ])
     (refine wpAnyH_take (i := 4) (v := .pointer (some ⟨b1, off1 + k * 2, none⟩)) rfl (by kernel_rfl) (by kernel_rfl) (by kernel_rfl) (fun _ _ _ h => h) (Or.inl ⟨by kernel_rfl, fun w hSw => by (try dsimp only at hSw); go_split_ands; go_simp⟩) (by assumption) ?_; simp only [Act.put, List.setIfInBounds_toArray, List.set_cons_zero, List.set_cons_succ])
     (refine wpAnyH_take (i := 5) (v := .int .i64 x.1) rfl (by kernel_rfl) (by kernel_rfl) (by kernel_rfl) (fun _ _ _ h => h) (Or.inl ⟨by kernel_rfl, fun w hSw => by (try dsimp only at hSw); go_split_ands; go_simp⟩) (by assumption) ?_; simp only [Act.put, List.setIfInBounds_toArray, List.set_cons_zero, List.set_cons_succ])
     (refine wpAnyH_take (i := 9) (v := .slice (some ⟨b1, off1, none⟩) l.length c) rfl (by kernel_rfl) (by kernel_rfl) (by kernel_rfl) (fun _ _ _ h => h) (Or.inl ⟨by kernel_rfl, fun w hSw => by (try dsimp only at hSw); go_split_ands; go_simp⟩) (by assumption) ?_; simp only [Act.put, List.setIfInBounds_toArray, List.set_cons_zero, List.set_cons_succ])
     (refine wpAnyH_take (i := 10) (v := .int .i64 (k : Int)) rfl (by kernel_rfl) (by kernel_rfl) (by kernel_rfl) (fun _ _ _ h => h) (Or.inl ⟨by kernel_rfl, fun w hSw => by (try dsimp only at hSw); go_split_ands; go_simp⟩) (by assumption) ?_; simp only [Act.put, List.setIfInBounds_toArray, List.set_cons_zero, List.set_cons_succ])
     (refine wpAnyH_take (i := 11) (v := .pointer (some ⟨b1, off1 + k * 2, none⟩)) rfl (by kernel_rfl) (by kernel_rfl) (by kernel_rfl) (fun _ _ _ h => h) (Or.inl ⟨by kernel_rfl, fun w hSw => by (try dsimp only at hSw); go_split_ands; go_simp⟩) (by assumption) ?_; simp only [Act.put, List.setIfInBounds_toArray, List.set_cons_zero, List.set_cons_succ])
     (refine wpAnyH_take (i := 12) (v := .pointer (some ⟨b1, off1 + k * 2 + 1, none⟩)) rfl (by kernel_rfl) (by kernel_rfl) (by kernel_rfl) (fun _ _ _ h => h) (Or.inl ⟨by kernel_rfl, fun w hSw => by (try dsimp only at hSw); go_split_ands; go_simp⟩) (by assumption) ?_; simp only [Act.put, List.setIfInBounds_toArray, List.set_cons_zero, List.set_cons_succ])
     (refine wpAnyH_take (i := 13) (v := .int .i64 x.2) rfl (by kernel_rfl) (by kernel_rfl) (by kernel_rfl) (fun _ _ _ h => h) (Or.inl ⟨by kernel_rfl, fun w hSw => by (try dsimp only at hSw); go_split_ands; go_simp⟩) (by assumption) ?_; simp only [Act.put, List.setIfInBounds_toArray, List.set_cons_zero, List.set_cons_succ])
     obtain ⟨wd, hwd⟩ : ∃ wd, wd = w5.drew := ⟨_, rfl⟩
     have hbd : Below w5.heap.size w5 wd := by rw [hwd]; exact (Below.refl _ _).drew
     rw [← hwd] at hHeld ⊢
     clear hwd hc1' hc2'
     refine wpAnyH_ready (rs := [6]) (by kernel_rfl) (by simp) (AllReadyH.cons rfl (fun K hK => ?_) AllReadyH.nil)
     go_simp
     go_at_call 28
     refine (HX.out.2.1 _).mono ?_
     rintro e' w6 ⟨rfl, hb⟩
     have hbw6 := hb
     have hSw6 : w6.cell? ⟨b1, off1 + k * 2, none⟩ = some (.int .i64 x.1) ∧ w6.cell? ⟨b1, off1 + k * 2 + 1, none⟩ = some (.int .i64 x.2) := ⟨cell_keep hHeld.1 (hb.block _ (lt_of_cell hHeld.1)), cell_keep hHeld.2 (hb.block _ (lt_of_cell hHeld.2))⟩
     clear hb
     dsimp only
     (refine hK.out _ _ hSw6 (fun hHeld => ?_); clear hK K; (try simp only [Act.put, List.setIfInBounds_toArray, List.set_cons_zero, List.set_cons_succ]))
     (refine wpAnyH_take (i := 7) (v := .string s1) rfl (by kernel_rfl) (by kernel_rfl) (by kernel_rfl) (fun _ _ _ h => h) (Or.inl ⟨by kernel_rfl, fun w hSw => by (try dsimp only at hSw); go_split_ands; go_simp⟩) (by assumption) ?_; simp only [Act.put, List.setIfInBounds_toArray, List.set_cons_zero, List.set_cons_succ])
     (refine wpAnyH_take (i := 8) (v := .string s2) rfl (by kernel_rfl) (by kernel_rfl) (by kernel_rfl) (fun _ _ _ h => h) (Or.inl ⟨by kernel_rfl, fun w hSw => by (try dsimp only at hSw); go_split_ands; go_simp⟩) (by assumption) ?_; simp only [Act.put, List.setIfInBounds_toArray, List.set_cons_zero, List.set_cons_succ])
     refine wpAnyH_ready (rs := [14]) (by kernel_rfl) (by simp) (AllReadyH.cons rfl (fun K hK => ?_) AllReadyH.nil)
     go_simp
     go_at_call 28
     refine (HX.out.2.2 _).mono ?_
     rintro e' w7 ⟨rfl, hb⟩
     have hbw7 := hb
     have hSw7 : w7.cell? ⟨b1, off1 + k * 2, none⟩ = some (.int .i64 x.1) ∧ w7.cell? ⟨b1, off1 + k * 2 + 1, none⟩ = some (.int .i64 x.2) := ⟨cell_keep hSw6.1 (hb.block _ (lt_of_cell hSw6.1)), cell_keep hSw6.2 (hb.block _ (lt_of_cell hSw6.2))⟩
     clear hb
     dsimp only
     (refine hK.out _ _ hSw7 (fun hHeld => ?_); clear hK K; (try simp only [Act.put, List.setIfInBounds_toArray, List.set_cons_zero, List.set_cons_succ]))
     (refine wpAnyH_take (i := 15) (v := .string s3) rfl (by kernel_rfl) (by kernel_rfl) (by kernel_rfl) (fun _ _ _ h => h) (Or.inl ⟨by kernel_rfl, fun w hSw => by (try dsimp only at hSw); go_split_ands; go_simp⟩) (by assumption) ?_; simp only [Act.put, List.setIfInBounds_toArray, List.set_cons_zero, List.set_cons_succ])
     (refine wpAnyH_ready (rs := [16]) (by kernel_rfl) (by simp) (AllReadyH.cons rfl (fun K hK => ?_) AllReadyH.nil); go_simp)
     (refine hK.out _ _ hSw7 (fun hHeld => ?_); clear hK K; (try simp only [Act.put, List.setIfInBounds_toArray, List.set_cons_zero, List.set_cons_succ]))
     refine wpAnyH_done (by kernel_rfl) (NoPanic.normal ?_) _
     go_wp2_with fail
     go_roundw
     case rel => exact ⟨k + 1, by omega, by go_num, by rw [HX.out.1], (hBW.trans ((hbd.trans ((hbw6.mono hbd.size).trans (hbw7.mono (Nat.le_trans hbd.size hbw6.size)))).mono hBW.size))⟩
     case measure => simp [intOf]; omega
    ·have hw : wordS x = [43] := by unfold wordS; rw [if_pos ho]
     obtain ⟨s1, hs1⟩ : ∃ s, bs (txtTo l k ++ sp ++ [43]) = s := ⟨_, rfl⟩
     have hnx : s1 = bs (txtTo l (k + 1)) := by rw [← hs1, HS.out.1, hw, hsp]
     have ha1 : s0 ++ ({ data := #[43] } : ByteArray) = s1 := by rw [← hs0, ← hs1]; exact bs_app _ [43]
     have hg1 : ¬ 9223372036854775807 < s0.size + 1 := by omega
     have HO := Lib.hid ho; clear ho
     have HX := Lib.hid hnx; clear hnx hw hs0 hs1 hsp hspl
     go_wp2_with (go_at_call 26; refine (l19Open_b x _ _ HO.out).mono ?_; rintro e' w5 ⟨rfl, hb5⟩; have hBW := hB.trans (hb5.mono hzW))
     go_roundw
     case rel => exact ⟨k + 1, by omega, by go_num, by rw [HX.out], hBW⟩
     case measure => simp [intOf]; omega
  ·obtain rfl : k = l.length := by omega
   have hkd : decide (l.length < l.length) = false := decide_eq_false (Nat.lt_irrefl _)
   go_wp2_with fail
   go_ret
   exact ⟨rfl, hB⟩
theorem stx_code (l : List (Int × Int)) : (stxAns l).2 = codeS l := by
 unfold stxAns codeS
 split
 ·rfl
 ·split <;> rfl
set_option maxRecDepth 100000 in
set_option maxHeartbeats 1000000 in
theorem StepsTextR_any {S : Nat → Prop} (v : Value) (l : List (Int × Int)) (W : World) (h : VS S W v l) :
  Calls Tryd.prog 6 #[v] W fun e' w' => e' = .returned (.tuple #[.string (bs (stxAns l).1), .int .i64 (stxAns l).2]) ∧ Below W.heap.size W w' := by
 have hV := h
 obtain ⟨a, c, rfl, hm⟩ := h.form
 by_cases hc0 : codeS l = 0
 ·have hf : fitTo l l.length = true ∧ l.length ≤ 1200 := by
   unfold codeS at hc0
   split at hc0
   ·cases hc0
   ·split at hc0
    ·cases hc0
    ·rename_i h1 h2
     exact ⟨by simpa using h1, by omega⟩
  have hans : stxAns l = (txtTo l l.length, 0) := by
   unfold stxAns
   rw [if_neg (by rw [hf.1]; decide), if_neg (by omega)]
  have H := Lib.hid (And.intro hc0 (And.intro hf hans)); clear hc0 hf hans
  go_enter Tryd.func6, Tryd.ntmps6
  go_wp2_with fail
  refine (l19Code_any _ l W hV).mono ?_
  rintro e' w2 ⟨rfl, hb2⟩
  rw [H.out.1]
  go_wp2_with fail
  refine (l19Text_any _ l w2 (hV.below hb2) H.out.2.1.1 H.out.2.1.2).mono ?_
  rintro e' w3 ⟨rfl, hb3⟩
  go_wp2_with fail
  go_ret2
  exact ⟨by rw [H.out.2.2]; rfl, hb2.trans (hb3.mono hb2.size)⟩
 ·have hans : (stxAns l).1 = [] := by
   unfold codeS at hc0
   unfold stxAns
   split
   ·rfl
   ·split
    ·rfl
    ·rename_i h1 h2
     rw [if_neg h1, if_neg h2] at hc0
     exact absurd rfl hc0
  have hcd := stx_code l
  have hnd : (codeS l != 0) = true := by simp [hc0]
  obtain ⟨q, hq⟩ : ∃ q, codeS l = q := ⟨_, rfl⟩
  rw [hq] at hnd hcd
  have H := Lib.hid (And.intro hq (And.intro hans hcd)); clear hc0 hans hq hcd
  go_enter Tryd.func6, Tryd.ntmps6
  go_wp2_with fail
  refine (l19Code_any _ l W hV).mono ?_
  rintro e' w2 ⟨rfl, hb2⟩
  rw [H.out.1]
  go_wp2_with fail
  go_ret2
  exact ⟨by rw [H.out.2.1, H.out.2.2]; rfl, hb2⟩
end Go.Proofs.YtmjplkbmhdkggaaDoor
