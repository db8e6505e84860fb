/- The reference's damage to a text. No conditions. -/
import Derived.Deep.RegionHeld3
import Derived.Test.YtbekpololmahoaaGreatDoorMTable
import Derived.Test.YtbekpololmahoaaGreatDoorMPsE
import Derived.Test.YtbekpololmahoaaGreatDoorDraw25
import Derived.Test.YtbekpololmahoaaGreatDoorMStx
import Derived.Test.YtbekpololmahoaaGreatDoorMCount
namespace Go.Proofs.YtbekpololmahoaaGreatDoor
open Go.RowKit
set_option linter.unusedVariables false
set_option linter.unusedSimpArgs false
theorem lit8 {w : World} {g : Nat} {E : TypeId} {fr : Nat × Nat} (h : w.heap[g]? = some (.cells #[.string { data := #[48] }, .string { data := #[35] }, .string { data := #[46] }, .string { data := #[47] }, .string { data := #[32] }, .string { data := #[97] }, .string { data := #[45] }, .string { data := #[10] }] E fr)) {x : Nat} (hx : x < 8) :
  ∃ b : UInt8, w.cell? ⟨g, x, none⟩ = some (.string (bs [b])) := by
 have hx8 : x = 0 ∨ x = 1 ∨ x = 2 ∨ x = 3 ∨ x = 4 ∨ x = 5 ∨ x = 6 ∨ x = 7 := by omega
 rcases hx8 with rfl | rfl | rfl | rfl | rfl | rfl | rfl | rfl <;> rw [cell_of_block h]
 ·exact ⟨48, rfl⟩
 ·exact ⟨35, rfl⟩
 ·exact ⟨46, rfl⟩
 ·exact ⟨47, rfl⟩
 ·exact ⟨32, rfl⟩
 ·exact ⟨97, rfl⟩
 ·exact ⟨45, rfl⟩
 ·exact ⟨10, rfl⟩
set_option maxRecDepth 100000 in
set_option maxHeartbeats 4000000 in
theorem l01Damage_any (B0 SB : Nat) (t : List UInt8) (W : World) (h : Src B0 SB W) (hl : t.length ≤ 100000) :
  Calls Tryz.prog 28 #[.pointer (some ⟨SB, 0, none⟩), .string (bs t)] W fun e' w' => ∃ r, e' = .returned (.string (bs r)) ∧ r.length ≤ t.length + 1 ∧ Src B0 SB w' ∧ Only SB W w' := by
 have hsz : (bs t).size = t.length := bs_size t
 have hSl := h.lt
 have hw9 : IntKind.i64.wrap ((t.length : Int) + 1) = (t.length : Int) + 1 := IntWalk.i64_in _ (by omega)
 have HL := Lib.hid h; clear h
 go_enter Tryz.func28, Tryz.ntmps28
 go_wp2_with fail
 refine (l01Next_any B0 SB _ _ HL.out).mono ?_
 rintro e' w2 ⟨k0, rfl, ⟨hk0, hk1⟩, hs2, ho2⟩
 obtain ⟨k, rfl⟩ : ∃ k : Nat, k0 = (k : Int) := ⟨k0.toNat, by omega⟩
 have hk : k ≤ t.length := by omega
 have hz2 := ho2.size
 have H2 := Lib.hid (And.intro hs2 ho2); clear hs2 ho2 hk0 hk1
 go_wp2_with fail
 refine (l01Next_any B0 SB 8 _ H2.out.1).mono ?_
 rintro e' w3 ⟨x0, rfl, ⟨hx0, hx1⟩, hs3, ho3⟩
 have hz3 := ho3.size
 have H3 := Lib.hid (And.intro hs3 (H2.out.2.trans ho3)); clear hs3 ho3
 obtain ⟨s0, hs0⟩ : ∃ s0, bs (t.take k) = s0 := ⟨_, rfl⟩
 have hex0 : (bs t).extract 0 k = s0 := by rw [bs_extract, ← hs0]; simp
 by_cases hx : x0 = 0
 ·subst hx
  clear hx0 hx1
  go_wp2_with fail
  go_ret
  exact ⟨t.take k, by rw [hs0]; rfl, by simp; omega, H3.out.1, H3.out.2⟩
 ·have hxa : (x0 == 0) = false := by simp [hx]
  by_cases hx' : x0 = 1
  ·subst hx'
   clear hx0 hx1 hx
   obtain ⟨s2, hs2e⟩ : ∃ s2, bs (t.drop k) = s2 := ⟨_, rfl⟩
   have hex2 : (bs t).extract k t.length = s2 := by rw [bs_extract, ← hs2e, List.take_of_length_le (by simp)]
   go_wp2_with fail
   refine wp_region_noPanic ?_
   refine wp_region_held_drew (S := fun _ => True) (by kernel_rfl) trivial (fun hHeld => ?_)
   (refine wpAnyH_take (i := 0) (v := .string (bs t)) rfl (by kernel_rfl) (by kernel_rfl) (by kernel_rfl) (fun _ _ _ h => h) (Or.inl ⟨by kernel_rfl, fun w hSw => by (try dsimp only at hSw); go_split_ands; go_simp⟩) (by assumption) ?_; simp only [Act.put, List.setIfInBounds_toArray, List.set_cons_zero, List.set_cons_succ])
   (refine wpAnyH_take (i := 1) (v := .int .i64 k) rfl (by kernel_rfl) (by kernel_rfl) (by kernel_rfl) (fun _ _ _ h => h) (Or.inl ⟨by kernel_rfl, fun w hSw => by (try dsimp only at hSw); go_split_ands; go_simp⟩) (by assumption) ?_; simp only [Act.put, List.setIfInBounds_toArray, List.set_cons_zero, List.set_cons_succ])
   (refine wpAnyH_take (i := 2) (v := .string s0) rfl (by kernel_rfl) (by kernel_rfl) (by kernel_rfl) (fun _ _ _ h => h) (Or.inl ⟨by kernel_rfl, fun w hSw => by (try dsimp only at hSw); go_split_ands; go_simp⟩) (by assumption) ?_; simp only [Act.put, List.setIfInBounds_toArray, List.set_cons_zero, List.set_cons_succ])
   (refine wpAnyH_take (i := 4) (v := .pointer (some ⟨SB, 0, none⟩)) rfl (by kernel_rfl) (by kernel_rfl) (by kernel_rfl) (fun _ _ _ h => h) (Or.inl ⟨by kernel_rfl, fun w hSw => by (try dsimp only at hSw); go_split_ands; go_simp⟩) (by assumption) ?_; simp only [Act.put, List.setIfInBounds_toArray, List.set_cons_zero, List.set_cons_succ])
   (refine wpAnyH_take (i := 9) (v := .string (bs t)) rfl (by kernel_rfl) (by kernel_rfl) (by kernel_rfl) (fun _ _ _ h => h) (Or.inl ⟨by kernel_rfl, fun w hSw => by (try dsimp only at hSw); go_split_ands; go_simp⟩) (by assumption) ?_; simp only [Act.put, List.setIfInBounds_toArray, List.set_cons_zero, List.set_cons_succ])
   (refine wpAnyH_take (i := 10) (v := .int .i64 k) rfl (by kernel_rfl) (by kernel_rfl) (by kernel_rfl) (fun _ _ _ h => h) (Or.inl ⟨by kernel_rfl, fun w hSw => by (try dsimp only at hSw); go_split_ands; go_simp⟩) (by assumption) ?_; simp only [Act.put, List.setIfInBounds_toArray, List.set_cons_zero, List.set_cons_succ])
   (refine wpAnyH_take (i := 11) (v := .string s2) rfl (by kernel_rfl) (by kernel_rfl) (by kernel_rfl) (fun _ _ _ h => h) (Or.inl ⟨by kernel_rfl, fun w hSw => by (try dsimp only at hSw); go_split_ands; go_simp⟩) (by assumption) ?_; simp only [Act.put, List.setIfInBounds_toArray, List.set_cons_zero, List.set_cons_succ])
   have hbD : Below w3.heap.size w3 w3.drew := (Below.refl _ _).drew
   obtain ⟨wd, hwd⟩ : ∃ wd, wd = w3.drew := ⟨_, rfl⟩
   rw [← hwd] at hbD ⊢
   clear hwd
   have hSD := H3.out.1.below hbD
   have hoD := H3.out.2.then_below hbD
   have HD := Lib.hid (And.intro hSD hoD); clear hSD hoD hbD
   refine wpAnyH_ready (rs := [3, 5]) (by kernel_rfl) (by simp) (AllReadyH.cons rfl (fun K hK => ?_) (AllReadyH.cons rfl (fun K hK => ?_) AllReadyH.nil))
   ·obtain ⟨wb, hwb⟩ : ∃ wb, wb = wd.alloc (.cells #[.string { data := #[48] }, .string { data := #[35] }, .string { data := #[46] }, .string { data := #[47] }, .string { data := #[32] }, .string { data := #[97] }, .string { data := #[45] }, .string { data := #[10] }] 9) := ⟨_, rfl⟩
    have hbb : Below wd.heap.size wd wb := by rw [hwb]; exact (Below.refl _ _).alloc (Nat.le_refl _) _
    have hhb : wb.heap[wd.heap.size]? = some (.cells #[.string { data := #[48] }, .string { data := #[35] }, .string { data := #[46] }, .string { data := #[47] }, .string { data := #[32] }, .string { data := #[97] }, .string { data := #[45] }, .string { data := #[10] }] 9 (0, 0)) := by rw [hwb]; exact heap_alloc_self _ _
    have hzd : SB < wd.heap.size := HD.out.1.lt
    have Hwb := Lib.hid hwb; clear hwb
    go_simp
    rw [← Hwb.out]
    (refine hK.out _ _ trivial (fun hHeld => ?_); clear hK K; (try simp only [Act.put, List.setIfInBounds_toArray, List.set_cons_zero, List.set_cons_succ]))
    refine wpAnyH_ready (rs := [5]) (by kernel_rfl) (by simp) (AllReadyH.cons rfl (fun K hK => ?_) AllReadyH.nil)
    go_simp
    go_at_call 27
    refine (l01Next_any B0 SB 8 _ (HD.out.1.below hbb)).mono ?_
    rintro e' w5 ⟨x1, rfl, ⟨hy0, hy1⟩, hs5, ho5⟩
    obtain ⟨x, rfl⟩ : ∃ x : Nat, x1 = (x : Int) := ⟨x1.toNat, by omega⟩
    have hx8 : x < 8 := by omega
    have hh8 := ho5.heap hhb (fun e => by omega)
    have H5 := Lib.hid (And.intro hs5 ((HD.out.2.then_below hbb).trans ho5)); clear hs5 ho5 hbb hhb
    dsimp only
    (refine hK.out _ _ trivial (fun hHeld => ?_); clear hK K; (try simp only [Act.put, List.setIfInBounds_toArray, List.set_cons_zero, List.set_cons_succ]))
    obtain ⟨b8, hcb⟩ := lit8 hh8 hx8
    obtain ⟨sb, hsb⟩ : ∃ sb, bs [b8] = sb := ⟨_, rfl⟩
    obtain ⟨s1, hs1⟩ : ∃ s1, bs (t.take k ++ [b8]) = s1 := ⟨_, rfl⟩
    obtain ⟨s3, hs3e⟩ : ∃ s3, bs (t.take k ++ [b8] ++ t.drop k) = s3 := ⟨_, rfl⟩
    have ha1 : s0 ++ sb = s1 := by rw [← hs0, ← hsb, ← hs1]; exact bs_app _ _
    have ha3 : s1 ++ s2 = s3 := by rw [← hs1, ← hs2e, ← hs3e]; exact bs_app _ _
    have hq0 : s0.size ≤ 100000 := by rw [← hs0, bs_size, List.length_take]; omega
    have hqb : sb.size = 1 := by rw [← hsb, bs_size]; rfl
    have hq1 : s1.size ≤ 100001 := by rw [← hs1, bs_size, List.length_append, List.length_take]; simp; omega
    have hq2 : s2.size ≤ 100000 := by rw [← hs2e, bs_size, List.length_drop]; omega
    have hg1 : ¬ 9223372036854775807 < s0.size + sb.size := by omega
    have hg3 : ¬ 9223372036854775807 < s1.size + s2.size := by omega
    rw [hsb] at hcb
    have Hs := Lib.hid (And.intro hs3e (And.intro hs1 (And.intro hsb (And.intro hs0 hs2e)))); clear hs3e hs1 hsb hs0 hs2e
    have hx8n : ¬ (8 : Int) ≤ (x : Int) := by omega
    clear hqb
    (refine wpAnyH_take (i := 6) (v := .pointer (some ⟨wd.heap.size, x, none⟩)) rfl (by kernel_rfl) (by kernel_rfl) (by kernel_rfl) (fun _ _ _ h => h) (Or.inl ⟨by kernel_rfl, fun w hSw => by (try dsimp only at hSw); go_split_ands; go_simp⟩) (by assumption) ?_; simp only [Act.put, List.setIfInBounds_toArray, List.set_cons_zero, List.set_cons_succ])
    (refine wpAnyH_ready (rs := [7]) (by kernel_rfl) (by simp) (AllReadyH.cons rfl (fun K hK => ?_) AllReadyH.nil); go_simp)
    (refine hK.out _ _ trivial (fun hHeld => ?_); clear hK K; (try simp only [Act.put, List.setIfInBounds_toArray, List.set_cons_zero, List.set_cons_succ]))
    (refine wpAnyH_take (i := 8) (v := .string s1) rfl (by kernel_rfl) (by kernel_rfl) (by kernel_rfl) (fun _ _ _ h => h) (Or.inl ⟨by kernel_rfl, fun w hSw => by (try dsimp only at hSw); go_split_ands; go_simp⟩) (by assumption) ?_; simp only [Act.put, List.setIfInBounds_toArray, List.set_cons_zero, List.set_cons_succ])
    (refine wpAnyH_take (i := 12) (v := .string s3) rfl (by kernel_rfl) (by kernel_rfl) (by kernel_rfl) (fun _ _ _ h => h) (Or.inl ⟨by kernel_rfl, fun w hSw => by (try dsimp only at hSw); go_split_ands; go_simp⟩) (by assumption) ?_; simp only [Act.put, List.setIfInBounds_toArray, List.set_cons_zero, List.set_cons_succ])
    (refine wpAnyH_ready (rs := [13]) (by kernel_rfl) (by simp) (AllReadyH.cons rfl (fun K hK => ?_) AllReadyH.nil); go_simp)
    (refine hK.out _ _ trivial (fun hHeld => ?_); clear hK K; (try simp only [Act.put, List.setIfInBounds_toArray, List.set_cons_zero, List.set_cons_succ]))
    refine wpAnyH_done (by kernel_rfl) (NoPanic.normal ?_) _
    go_wp2_with fail
    go_ret
    exact ⟨t.take k ++ [b8] ++ t.drop k, by rw [Hs.out.1]; rfl, by simp; omega, H5.out.1, H5.out.2⟩
   ·go_simp
    go_at_call 27
    refine (l01Next_any B0 SB 8 _ HD.out.1).mono ?_
    rintro e' w5 ⟨x1, rfl, ⟨hy0, hy1⟩, hs5, ho5⟩
    obtain ⟨x, rfl⟩ : ∃ x : Nat, x1 = (x : Int) := ⟨x1.toNat, by omega⟩
    have hx8 : x < 8 := by omega
    dsimp only
    (refine hK.out _ _ trivial (fun hHeld => ?_); clear hK K; (try simp only [Act.put, List.setIfInBounds_toArray, List.set_cons_zero, List.set_cons_succ]))
    obtain ⟨wb, hwb⟩ : ∃ wb, wb = w5.alloc (.cells #[.string { data := #[48] }, .string { data := #[35] }, .string { data := #[46] }, .string { data := #[47] }, .string { data := #[32] }, .string { data := #[97] }, .string { data := #[45] }, .string { data := #[10] }] 9) := ⟨_, rfl⟩
    have hbb : Below w5.heap.size w5 wb := by rw [hwb]; exact (Below.refl _ _).alloc (Nat.le_refl _) _
    have hh8 : wb.heap[w5.heap.size]? = some (.cells #[.string { data := #[48] }, .string { data := #[35] }, .string { data := #[46] }, .string { data := #[47] }, .string { data := #[32] }, .string { data := #[97] }, .string { data := #[45] }, .string { data := #[10] }] 9 (0, 0)) := by rw [hwb]; exact heap_alloc_self _ _
    have H5 := Lib.hid (And.intro (hs5.below hbb) (((HD.out.2.trans ho5)).then_below hbb)); clear hs5 ho5 hbb
    have Hwb := Lib.hid hwb; clear hwb
    refine wpAnyH_ready (rs := [3]) (by kernel_rfl) (by simp) (AllReadyH.cons rfl (fun K hK => ?_) AllReadyH.nil)
    go_simp
    rw [← Hwb.out]
    (refine hK.out _ _ trivial (fun hHeld => ?_); clear hK K; (try simp only [Act.put, List.setIfInBounds_toArray, List.set_cons_zero, List.set_cons_succ]))
    obtain ⟨b8, hcb⟩ := lit8 hh8 hx8
    obtain ⟨sb, hsb⟩ : ∃ sb, bs [b8] = sb := ⟨_, rfl⟩
    obtain ⟨s1, hs1⟩ : ∃ s1, bs (t.take k ++ [b8]) = s1 := ⟨_, rfl⟩
    obtain ⟨s3, hs3e⟩ : ∃ s3, bs (t.take k ++ [b8] ++ t.drop k) = s3 := ⟨_, rfl⟩
    have ha1 : s0 ++ sb = s1 := by rw [← hs0, ← hsb, ← hs1]; exact bs_app _ _
    have ha3 : s1 ++ s2 = s3 := by rw [← hs1, ← hs2e, ← hs3e]; exact bs_app _ _
    have hq0 : s0.size ≤ 100000 := by rw [← hs0, bs_size, List.length_take]; omega
    have hqb : sb.size = 1 := by rw [← hsb, bs_size]; rfl
    have hq1 : s1.size ≤ 100001 := by rw [← hs1, bs_size, List.length_append, List.length_take]; simp; omega
    have hq2 : s2.size ≤ 100000 := by rw [← hs2e, bs_size, List.length_drop]; omega
    have hg1 : ¬ 9223372036854775807 < s0.size + sb.size := by omega
    have hg3 : ¬ 9223372036854775807 < s1.size + s2.size := by omega
    rw [hsb] at hcb
    have Hs := Lib.hid (And.intro hs3e (And.intro hs1 (And.intro hsb (And.intro hs0 hs2e)))); clear hs3e hs1 hsb hs0 hs2e
    have hx8n : ¬ (8 : Int) ≤ (x : Int) := by omega
    clear hqb
    (refine wpAnyH_take (i := 6) (v := .pointer (some ⟨w5.heap.size, x, none⟩)) rfl (by kernel_rfl) (by kernel_rfl) (by kernel_rfl) (fun _ _ _ h => h) (Or.inl ⟨by kernel_rfl, fun w hSw => by (try dsimp only at hSw); go_split_ands; go_simp⟩) (by assumption) ?_; simp only [Act.put, List.setIfInBounds_toArray, List.set_cons_zero, List.set_cons_succ])
    (refine wpAnyH_ready (rs := [7]) (by kernel_rfl) (by simp) (AllReadyH.cons rfl (fun K hK => ?_) AllReadyH.nil); go_simp)
    (refine hK.out _ _ trivial (fun hHeld => ?_); clear hK K; (try simp only [Act.put, List.setIfInBounds_toArray, List.set_cons_zero, List.set_cons_succ]))
    (refine wpAnyH_take (i := 8) (v := .string s1) rfl (by kernel_rfl) (by kernel_rfl) (by kernel_rfl) (fun _ _ _ h => h) (Or.inl ⟨by kernel_rfl, fun w hSw => by (try dsimp only at hSw); go_split_ands; go_simp⟩) (by assumption) ?_; simp only [Act.put, List.setIfInBounds_toArray, List.set_cons_zero, List.set_cons_succ])
    (refine wpAnyH_take (i := 12) (v := .string s3) rfl (by kernel_rfl) (by kernel_rfl) (by kernel_rfl) (fun _ _ _ h => h) (Or.inl ⟨by kernel_rfl, fun w hSw => by (try dsimp only at hSw); go_split_ands; go_simp⟩) (by assumption) ?_; simp only [Act.put, List.setIfInBounds_toArray, List.set_cons_zero, List.set_cons_succ])
    (refine wpAnyH_ready (rs := [13]) (by kernel_rfl) (by simp) (AllReadyH.cons rfl (fun K hK => ?_) AllReadyH.nil); go_simp)
    (refine hK.out _ _ trivial (fun hHeld => ?_); clear hK K; (try simp only [Act.put, List.setIfInBounds_toArray, List.set_cons_zero, List.set_cons_succ]))
    refine wpAnyH_done (by kernel_rfl) (NoPanic.normal ?_) _
    go_wp2_with fail
    go_ret
    exact ⟨t.take k ++ [b8] ++ t.drop k, by rw [Hs.out.1]; rfl, by simp; omega, H5.out.1, H5.out.2⟩
  ·have hxb : (x0 == 1) = false := by simp [hx']
   by_cases hx2 : x0 = 2
   ·subst hx2
    clear hx0 hx1 hx hx'
    by_cases hkk : k < t.length
    ·have hkd : decide (k < t.length) = true := decide_eq_true hkk
     have hwk : IntKind.i64.wrap ((k : Int) + 1) = (k : Int) + 1 := IntWalk.i64_in _ (by omega)
     have hk0' : 0 ≤ (k : Int) + 1 := by omega
     have hk1' : ¬ (t.length : Int) < (k : Int) + 1 := by omega
     have hkt : ((k : Int) + 1).toNat = k + 1 := by omega
     obtain ⟨s2, hs2e⟩ : ∃ s2, bs (t.drop (k + 1)) = s2 := ⟨_, rfl⟩
     have hex2 : (bs t).extract (k + 1) t.length = s2 := by rw [bs_extract, ← hs2e, List.take_of_length_le (by simp)]
     obtain ⟨s3, hs3e⟩ : ∃ s3, bs (t.take k ++ t.drop (k + 1)) = s3 := ⟨_, rfl⟩
     have ha3 : s0 ++ s2 = s3 := by rw [← hs0, ← hs2e, ← hs3e]; exact bs_app _ _
     have hq0 : s0.size ≤ 100000 := by rw [← hs0, bs_size, List.length_take]; omega
     have hq2 : s2.size ≤ 100000 := by rw [← hs2e, bs_size, List.length_drop]; omega
     have hg3 : ¬ 9223372036854775807 < s0.size + s2.size := by omega
     have Hs := Lib.hid (And.intro hs3e (And.intro hs0 hs2e)); clear hs3e hs0 hs2e
     go_wp2_with fail
     refine wp_region_noPanic ?_
     refine wp_region_held_drew (S := fun _ => True) (by kernel_rfl) trivial (fun hHeld => ?_)
     (refine wpAnyH_take (i := 0) (v := .string (bs t)) rfl (by kernel_rfl) (by kernel_rfl) (by kernel_rfl) (fun _ _ _ h => h) (Or.inl ⟨by kernel_rfl, fun w hSw => by (try dsimp only at hSw); go_split_ands; go_simp⟩) (by assumption) ?_; simp only [Act.put, List.setIfInBounds_toArray, List.set_cons_zero, List.set_cons_succ])
     (refine wpAnyH_take (i := 1) (v := .int .i64 k) rfl (by kernel_rfl) (by kernel_rfl) (by kernel_rfl) (fun _ _ _ h => h) (Or.inl ⟨by kernel_rfl, fun w hSw => by (try dsimp only at hSw); go_split_ands; go_simp⟩) (by assumption) ?_; simp only [Act.put, List.setIfInBounds_toArray, List.set_cons_zero, List.set_cons_succ])
     (refine wpAnyH_take (i := 2) (v := .string s0) rfl (by kernel_rfl) (by kernel_rfl) (by kernel_rfl) (fun _ _ _ h => h) (Or.inl ⟨by kernel_rfl, fun w hSw => by (try dsimp only at hSw); go_split_ands; go_simp⟩) (by assumption) ?_; simp only [Act.put, List.setIfInBounds_toArray, List.set_cons_zero, List.set_cons_succ])
     (refine wpAnyH_take (i := 3) (v := .string (bs t)) rfl (by kernel_rfl) (by kernel_rfl) (by kernel_rfl) (fun _ _ _ h => h) (Or.inl ⟨by kernel_rfl, fun w hSw => by (try dsimp only at hSw); go_split_ands; go_simp⟩) (by assumption) ?_; simp only [Act.put, List.setIfInBounds_toArray, List.set_cons_zero, List.set_cons_succ])
     (refine wpAnyH_take (i := 4) (v := .int .i64 k) rfl (by kernel_rfl) (by kernel_rfl) (by kernel_rfl) (fun _ _ _ h => h) (Or.inl ⟨by kernel_rfl, fun w hSw => by (try dsimp only at hSw); go_split_ands; go_simp⟩) (by assumption) ?_; simp only [Act.put, List.setIfInBounds_toArray, List.set_cons_zero, List.set_cons_succ])
     (refine wpAnyH_take (i := 5) (v := .int .i64 (k + 1)) rfl (by kernel_rfl) (by kernel_rfl) (by kernel_rfl) (fun _ _ _ h => h) (Or.inl ⟨by kernel_rfl, fun w hSw => by (try dsimp only at hSw); go_split_ands; go_simp⟩) (by assumption) ?_; simp only [Act.put, List.setIfInBounds_toArray, List.set_cons_zero, List.set_cons_succ])
     (refine wpAnyH_take (i := 6) (v := .string s2) rfl (by kernel_rfl) (by kernel_rfl) (by kernel_rfl) (fun _ _ _ h => h) (Or.inl ⟨by kernel_rfl, fun w hSw => by (try dsimp only at hSw); go_split_ands; go_simp⟩) (by assumption) ?_; simp only [Act.put, List.setIfInBounds_toArray, List.set_cons_zero, List.set_cons_succ])
     (refine wpAnyH_take (i := 7) (v := .string s3) rfl (by kernel_rfl) (by kernel_rfl) (by kernel_rfl) (fun _ _ _ h => h) (Or.inl ⟨by kernel_rfl, fun w hSw => by (try dsimp only at hSw); go_split_ands; go_simp⟩) (by assumption) ?_; simp only [Act.put, List.setIfInBounds_toArray, List.set_cons_zero, List.set_cons_succ])
     have hbD : Below w3.heap.size w3 w3.drew := (Below.refl _ _).drew
     have H5 := Lib.hid (And.intro (H3.out.1.below hbD) (H3.out.2.then_below hbD)); clear hbD
     (refine wpAnyH_ready (rs := [8]) (by kernel_rfl) (by simp) (AllReadyH.cons rfl (fun K hK => ?_) AllReadyH.nil); go_simp)
     (refine hK.out _ _ trivial (fun hHeld => ?_); clear hK K; (try simp only [Act.put, List.setIfInBounds_toArray, List.set_cons_zero, List.set_cons_succ]))
     refine wpAnyH_done (by kernel_rfl) (NoPanic.normal ?_) _
     go_wp2_with fail
     go_ret
     exact ⟨t.take k ++ t.drop (k + 1), by rw [Hs.out.1]; rfl, by simp; omega, H5.out.1, H5.out.2⟩
    ·have hkd : decide (k < t.length) = false := decide_eq_false hkk
     go_wp2_with fail
     go_ret
     exact ⟨t, rfl, by omega, H3.out.1, H3.out.2⟩
   ·have hxc : (x0 == 2) = false := by simp [hx2]
    clear hx0 hx1 hx hx' hx2
    go_wp2_with fail
    go_ret
    exact ⟨t, rfl, by omega, H3.out.1, H3.out.2⟩
theorem VB.below {S : Nat → Prop} {w w' : World} {v : Value} {l : List Int} (h : VB S w v l) (hb : Below w.heap.size w w') : VB S w' v l :=
 h.mono (fun _ h _ => h) (Below.keep hb fun _ _ h => h)
theorem Only.to_below {SB B : Nat} {a b : World} (h : Only SB a b) (hS : B ≤ SB) (hB : B ≤ a.heap.size) : Below B a b := Chg.to_below h (fun i hi => by omega) hB
theorem putS_newR {W w : World} {c0 c1 c2 c3 c4 c5 : Value} (hB : Below W.heap.size W w) (h : w.heap[W.heap.size]? = some (.cells #[c0, c1, c2, c3, c4, c5] 35 (0, 0))) (v0 v1 v2 v3 v4 v5 : Value) :
  Below W.heap.size W (putS w W.heap.size v0 v1 v2 v3 v4 v5) ∧ (putS w W.heap.size v0 v1 v2 v3 v4 v5).heap[W.heap.size]? = some (.cells #[v0, v1, v2, v3, v4, v5] 35 (0, 0)) ∧ ∀ b, b ≠ W.heap.size → (putS w W.heap.size v0 v1 v2 v3 v4 v5).heap[b]? = w.heap[b]? := by
 refine ⟨?_, ?_, fun b hb => ?_⟩
 ·unfold putS putR
  exact ((((((hB.setCell (Nat.le_refl _) _).setCell (Nat.le_refl _) _).setCell (Nat.le_refl _) _).setCell (Nat.le_refl _) _).setCell (Nat.le_refl _) _).setCell (Nat.le_refl _) _)
 ·unfold putS putR
  rw [heap_setCell_self (heap_setCell_self (heap_setCell_self (heap_setCell_self (heap_setCell_self (heap_setCell_self h _) _) _) _) _) _]
  simp
 ·unfold putS putR
  (repeat rw [heap_setCell_other _ hb])
/-- What a draw of a system and steps from a code answers. -/
def DrawRd (W : World) (e : Ending) (w' : World) : Prop :=
 ∃ (m : Mk) (u sv : Value) (T : List (List Int)) (st : List (Int × Int)), e = .returned (.tuple #[.agg #[.int .i64 m.c, .int .i64 m.d, .int .i64 m.s, .int .i64 m.e, .int .i64 m.l, u], sv]) ∧ V2 (fun b => W.heap.size ≤ b) w' u T ∧ VS (fun b => W.heap.size ≤ b) w' sv st ∧ Below W.heap.size W w'
theorem DrawRd.open {W w' : World} {e : Ending} (h : DrawRd W e w') : ∃ (m : Mk) (u cv : Value) (T : List (List Int)) (cuts : List (Int × Int)), e = .returned (.tuple #[.agg #[.int .i64 m.c, .int .i64 m.d, .int .i64 m.s, .int .i64 m.e, .int .i64 m.l, u], cv]) ∧ V2 (fun b => W.heap.size ≤ b) w' u T ∧ VS (fun b => W.heap.size ≤ b) w' cv cuts ∧ Below W.heap.size W w' := h
set_option maxRecDepth 100000 in
set_option maxHeartbeats 1000000 in
theorem DrawReadSteps_any {S : Nat → Prop} (v : Value) (l : List Int) (W : World) (h : VB S W v l) :
  Calls Tryz.prog 11 #[v] W (DrawRd W) := by
 obtain ⟨a, c, rfl, hm⟩ := h.form
 obtain ⟨W1, hW1, hB01, hz01, HZ01, _, hh01⟩ := box_facts W #[.int .i64 0, .int .i64 0, .int .i64 0, .int .i64 0, .int .i64 0, .slice none 0 0] 35
 have hz1e := HZ01.out
 have hz1l : W1.heap.size ≤ W.heap.size + 1 := by omega
 have HL := Lib.hid (And.intro (h.below hB01) (And.intro hB01 (And.intro hh01 hW1))); clear h hh01 hB01 hz1e
 go_enter Tryz.func11, Tryz.ntmps11
 go_wp2_with fail
 rw [← HL.out.2.2.2]
 clear hW1
 refine (l01From_any _ l W1 HL.out.1).mono ?_
 rintro e' w2 ⟨rfl, hs2, hb2⟩
 have hz2 := hb2.size
 have H2 := Lib.hid (And.intro hs2 (And.intro hb2 ((hb2.block _ hz01).trans HL.out.2.2.1))); clear hs2 hb2
 go_wp2_with fail
 refine (l19Draw_any W1.heap.size W1.heap.size w2 H2.out.1).mono ?_
 rintro e' w3 ⟨m, u, cv, T, st, rfl, hsm, hu, hcv, hs3, ho3, hlst⟩
 have hz3 := ho3.size
 have hz23 : W1.heap.size < w2.heap.size := H2.out.1.lt
 obtain ⟨ta, tc, rfl, _⟩ := hu.form
 obtain ⟨ca, cc, rfl, _⟩ := hcv.form
 have hRw := ho3.heap H2.out.2.2 (fun e => by omega)
 have hBw : Below W.heap.size W w3 := HL.out.2.1.trans ((H2.out.2.1.trans (ho3.to_below (Nat.le_refl _) (by omega))).mono (by omega))
 have H3 := Lib.hid (And.intro hBw (And.intro hRw (And.intro hu hcv))); clear hBw hRw hu hcv hs3 ho3 hsm
 have hcRz : ∀ o, w3.cell? ⟨W.heap.size, o, none⟩ = (#[.int .i64 0, .int .i64 0, .int .i64 0, .int .i64 0, .int .i64 0, .slice none 0 0] : Array Value)[o]? := fun o => by rw [cell_of_block H3.out.2.1]
 have hfRz := fun o => frozen_of_block H3.out.2.1 o
 have hdone := putS_newR H3.out.1 H3.out.2.1 (.int .i64 m.c) (.int .i64 m.d) (.int .i64 m.s) (.int .i64 m.e) (.int .i64 m.l) (.slice ta T.length tc)
 obtain ⟨wz, hwz⟩ : ∃ wz, wz = putS w3 W.heap.size (.int .i64 m.c) (.int .i64 m.d) (.int .i64 m.s) (.int .i64 m.e) (.int .i64 m.l) (.slice ta T.length tc) := ⟨_, rfl⟩
 rw [← hwz] at hdone
 obtain ⟨hd2, hd3, hd4⟩ := hdone
 have hFz : V2 (fun b => W.heap.size ≤ b) wz (.slice ta T.length tc) T := V2.mono (S := fun b => w2.heap.size ≤ b) H3.out.2.2.1 (fun b hb _ => by have hb : w2.heap.size ≤ b := hb; omega) (fun b hb _ => hd4 b (by have hb : w2.heap.size ≤ b := hb; omega))
 have hcz : VS (fun b => W.heap.size ≤ b) wz (.slice ca st.length cc) st := VS.mono (S := fun b => w2.heap.size ≤ b) H3.out.2.2.2 (fun b hb _ => by have hb : w2.heap.size ≤ b := hb; omega) (fun b hb _ => hd4 b (by have hb : w2.heap.size ≤ b := hb; omega))
 have hz0 : wz.cell? ⟨W.heap.size, 0, none⟩ = some (.int .i64 m.c) := by rw [cell_of_block hd3]; rfl
 have hz1 : wz.cell? ⟨W.heap.size, 1, none⟩ = some (.int .i64 m.d) := by rw [cell_of_block hd3]; rfl
 have hz2 : wz.cell? ⟨W.heap.size, 2, none⟩ = some (.int .i64 m.s) := by rw [cell_of_block hd3]; rfl
 have hz3 : wz.cell? ⟨W.heap.size, 3, none⟩ = some (.int .i64 m.e) := by rw [cell_of_block hd3]; rfl
 have hz4 : wz.cell? ⟨W.heap.size, 4, none⟩ = some (.int .i64 m.l) := by rw [cell_of_block hd3]; rfl
 have hz5 : wz.cell? ⟨W.heap.size, 5, none⟩ = some (.slice ta T.length tc) := by rw [cell_of_block hd3]; rfl
 have HZ := Lib.hid (And.intro hd2 (And.intro hFz (And.intro hcz (And.intro hwz (And.intro hz0 (And.intro hz1 (And.intro hz2 (And.intro hz3 (And.intro hz4 (And.intro hz5 hd4)))))))))); clear hd2 hd3 hd4 hFz hcz hwz hz0 hz1 hz2 hz3 hz4 hz5
 go_wp2_with fail
 have hwz := HZ.out.2.2.2.1
 unfold putS putR at hwz
 rw [← hwz]
 clear hwz
 obtain ⟨hd2, hFz, hcz, hwzz, hz0, hz1, hz2, hz3, hz4, hz5, hd4⟩ := HZ.out
 clear hwzz
 exact bodyPost_ret (v := .tuple #[.agg #[.int .i64 m.c, .int .i64 m.d, .int .i64 m.s, .int .i64 m.e, .int .i64 m.l, .slice ta T.length tc], .slice ca st.length cc]) (by simp [results, Tryz.results11, go_sem, hz0, hz1, hz2, hz3, hz4, hz5]) rfl ⟨m, _, _, T, st, rfl, hFz, hcz, hd2⟩
/-- What a draw of steps from a code answers. -/
def DrawStp (W : World) (e : Ending) (w' : World) : Prop :=
 ∃ (sv : Value) (st : List (Int × Int)), e = .returned sv ∧ VS (fun b => W.heap.size ≤ b) w' sv st ∧ st.length ≤ 1048577 ∧ Below W.heap.size W w'
set_option maxRecDepth 100000 in
set_option maxHeartbeats 1000000 in
theorem DrawStepsText_any {S : Nat → Prop} (v : Value) (l : List Int) (W : World) (h : VB S W v l) :
  Calls Tryz.prog 5 #[v] W (DrawStp W) := by
 obtain ⟨a, c, rfl, hm⟩ := h.form
 have HL := Lib.hid h; clear h
 go_enter Tryz.func5, Tryz.ntmps5
 go_wp2_with fail
 refine (l01From_any _ l W HL.out).mono ?_
 rintro e' w2 ⟨rfl, hs2, hb2⟩
 have hz2 := hb2.size
 have hz23 : W.heap.size < w2.heap.size := hs2.lt
 have H2 := Lib.hid (And.intro hs2 hb2); clear hs2 hb2
 go_wp2_with fail
 refine (l19Draw_any W.heap.size W.heap.size w2 H2.out.1).mono ?_
 rintro e' w3 ⟨m, u, cv, T, st, rfl, hsm, hu, hcv, hs3, ho3, hlst⟩
 have hz3 := ho3.size
 obtain ⟨ta, tc, rfl, _⟩ := hu.form
 obtain ⟨ca, cc, rfl, _⟩ := hcv.form
 have hBw : Below W.heap.size W w3 := H2.out.2.trans (ho3.to_below (Nat.le_refl _) (by omega))
 obtain ⟨w4, hw4⟩ : ∃ w4, w4 = w3.alloc (.cells #[.int .i64 m.c, .int .i64 m.d, .int .i64 m.s, .int .i64 m.e, .int .i64 m.l, .slice ta T.length tc] 35) := ⟨_, rfl⟩
 have hb4 : Below w3.heap.size w3 w4 := by rw [hw4]; exact (Below.refl _ _).alloc (Nat.le_refl _) _
 have H4 := Lib.hid (And.intro ((VS.mono (S' := fun b => W.heap.size ≤ b) hcv (fun b hb _ => by have hb : w2.heap.size ≤ b := hb; omega) (fun _ _ _ => rfl)).below hb4) (And.intro (hBw.trans (hb4.mono (by omega))) hw4)); clear hcv hb4 hw4 hBw hs3 ho3 hu hsm
 go_wp2_with fail
 rw [← H4.out.2.2]
 go_ret
 exact ⟨_, st, rfl, H4.out.1, hlst, H4.out.2.1⟩
set_option maxRecDepth 100000 in
theorem DrawCountOpen_any {S : Nat → Prop} (v : Value) (l : List Int) (W : World) (h : VB S W v l) :
  Calls Tryz.prog 14 #[v] W (DrawStp W) := by
 obtain ⟨a, c, rfl, hm⟩ := h.form
 have HL := Lib.hid h; clear h
 go_enter Tryz.func14, Tryz.ntmps14
 go_wp2_with fail
 refine (DrawStepsText_any _ l W HL.out).mono ?_
 rintro e' w2 ⟨sv, st, rfl, hv, hlst, hb⟩
 obtain ⟨ca, cc, rfl, _⟩ := hv.form
 have H2 := Lib.hid (And.intro hv hb); clear hv hb
 go_wp2_with fail
 go_ret
 exact ⟨_, st, rfl, H2.out.1, hlst, H2.out.2⟩
set_option maxRecDepth 100000 in
set_option maxHeartbeats 1000000 in
theorem DrawParseSteps_any {S : Nat → Prop} (v : Value) (l : List Int) (W : World) (h : VB S W v l) :
  Calls Tryz.prog 8 #[v] W fun e' w' => ∃ t, e' = .returned (.string (bs t)) ∧ t.length ≤ 1048576 ∧ Below W.heap.size W w' := by
 obtain ⟨a, c, rfl, hm⟩ := h.form
 have HL := Lib.hid h; clear h
 go_enter Tryz.func8, Tryz.ntmps8
 go_wp2_with fail
 refine (l01From_any _ l W HL.out).mono ?_
 rintro e' w2 ⟨rfl, hs2, hb2⟩
 have hz2 := hb2.size
 have hz23 : W.heap.size < w2.heap.size := hs2.lt
 have H2 := Lib.hid (And.intro hs2 hb2); clear hs2 hb2
 go_wp2_with fail
 refine (l19Draw_any W.heap.size W.heap.size w2 H2.out.1).mono ?_
 rintro e' w3 ⟨m, u, cv, T, st, rfl, hsm, hu, hcv, hs3, ho3, hlst⟩
 have hz3 := ho3.size
 obtain ⟨ta, tc, rfl, _⟩ := hu.form
 obtain ⟨ca, cc, rfl, _⟩ := hcv.form
 obtain ⟨w4, hw4⟩ : ∃ w4, w4 = w3.alloc (.cells #[.int .i64 m.c, .int .i64 m.d, .int .i64 m.s, .int .i64 m.e, .int .i64 m.l, .slice ta T.length tc] 35) := ⟨_, rfl⟩
 have hb4 : Below w3.heap.size w3 w4 := by rw [hw4]; exact (Below.refl _ _).alloc (Nat.le_refl _) _
 have hz4 := hb4.size
 have H4 := Lib.hid (And.intro (hcv.below hb4) (And.intro (hs3.below hb4) (And.intro (ho3.then_below hb4) hw4))); clear hcv hb4 hw4 hs3 ho3 hu hsm
 have hsl := stx_len st
 obtain ⟨A, hA⟩ : ∃ A, stxAns st = A := ⟨_, rfl⟩
 have hst := fun w (h : VS (fun b => w2.heap.size ≤ b) w (.slice ca st.length cc) st) => StepsTextR_any (S := fun b => w2.heap.size ≤ b) _ st w h
 simp only [hA] at hst
 rw [hA] at hsl
 obtain ⟨t, cd⟩ := A
 dsimp only at hst hsl
 have Hst := Lib.hid hst; clear hst hA
 go_wp2_with fail
 rw [← H4.out.2.2.2]
 refine (Hst.out _ H4.out.1).mono ?_
 rintro e' w5 ⟨rfl, hb5⟩
 have hz5 := hb5.size
 have H5 := Lib.hid (And.intro (H4.out.2.1.below hb5) (H4.out.2.2.1.then_below hb5)); clear hb5
 go_wp2_with fail
 refine (l01Next_any W.heap.size W.heap.size 3 _ H5.out.1).mono ?_
 rintro e' w6 ⟨x, rfl, _, hs6, ho6⟩
 have hz6 := ho6.size
 have H6 := Lib.hid (And.intro hs6 (H5.out.2.trans ho6)); clear hs6 ho6
 by_cases hx : x = 0
 ·subst hx
  go_wp2_with fail
  refine (l01Damage_any W.heap.size W.heap.size t _ H6.out.1 (by omega)).mono ?_
  rintro e' w7 ⟨r, rfl, hr, hs7, ho7⟩
  have hz7 := ho7.size
  have H7 := Lib.hid (H2.out.2.trans ((H6.out.2.trans ho7).to_below (Nat.le_refl _) (by omega))); clear hs7 ho7
  go_wp2_with fail
  go_ret
  exact ⟨r, rfl, by omega, H7.out⟩
 ·have hxd : (x == 0) = false := by simp [hx]
  have H7 := Lib.hid (H2.out.2.trans (H6.out.2.to_below (Nat.le_refl _) (by omega)))
  go_wp2_with fail
  go_ret
  exact ⟨t, rfl, by omega, H7.out⟩
theorem countOpenI_any {S : Nat → Prop} (v : Value) (l : List (Int × Int)) (W : World) (h : VS S W v l) :
  Calls Tryz.prog 16 #[v] W fun e' w' => e' = .returned (.int .i64 (openSt l l.length)) ∧ Below W.heap.size W w' := by
 have hV := h
 obtain ⟨a, c, rfl, hm⟩ := h.form
 go_enter Tryz.func16, Tryz.ntmps16
 go_wp2_with fail
 go_loopw [3, 8] (fun s i wr => ∃ k : Nat, k ≤ l.length ∧ i = .int .i64 k ∧ s = .int .i64 (openSt l k) ∧ Below W.heap.size W wr) (fun _ i _ => l.length - (intOf i).toNat)
 case atStart => exact ⟨0, Nat.zero_le _, rfl, rfl, Below.refl _ _⟩
 case round =>
  obtain ⟨k, hk, rfl, rfl, hB⟩ := hrel
  have hol := openTo_le l k
  have hzW := hB.size
  by_cases hkk : k < l.length
  ·obtain ⟨b1, off1, rfl, _, hc1, hc2⟩ := (hV.below hB).cell hkk
   cases ho : openS (gets l k)
   ·have HO := Lib.hid ho; clear ho
    go_wp2_with (go_at_call 21; refine (isOpenStep_b _ _ _ HO.out).mono ?_; rintro e' w' ⟨rfl, hb⟩; have hzB := hb.size; (try simp only [World.size_alloc, World.size_setCell, World.size_drew] at hzB))
    go_roundw
    case rel => exact ⟨k + 1, by omega, by go_num, by rw [openSt, if_neg (by rw [HO.out]; decide)]; rfl, by (repeat (first | (with_reducible refine Below.setCell ?_ ?_ _) | (with_reducible refine Below.alloc ?_ ?_ _) | (with_reducible refine Below.drew ?_) | (with_reducible refine below_drewN ?_ _) | (with_reducible exact Below.refl _ _) | (with_reducible assumption) | (with_reducible refine Below.trans ?_ (Below.mono (by with_reducible assumption) ?_)) | go_size))⟩
    case measure => simp [intOf]; omega
   ·have HO := Lib.hid ho; clear ho
    go_wp2_with (go_at_call 21; refine (isOpenStep_b _ _ _ HO.out).mono ?_; rintro e' w' ⟨rfl, hb⟩; have hzB := hb.size; (try simp only [World.size_alloc, World.size_setCell, World.size_drew] at hzB))
    go_roundw
    case rel => exact ⟨k + 1, by omega, by go_num, by rw [openSt, if_pos HO.out]; go_num, by (repeat (first | (with_reducible refine Below.setCell ?_ ?_ _) | (with_reducible refine Below.alloc ?_ ?_ _) | (with_reducible refine Below.drew ?_) | (with_reducible refine below_drewN ?_ _) | (with_reducible exact Below.refl _ _) | (with_reducible assumption) | (with_reducible refine Below.trans ?_ (Below.mono (by with_reducible assumption) ?_)) | go_size))⟩
    case measure => simp [intOf]; omega
  ·obtain rfl : k = l.length := by omega
   go_wp2_with fail
   go_ret
   exact ⟨rfl, hB⟩
theorem dec_cons {n : Int} (h : 10 ≤ n) : decW n = decW (n / 10) ++ [UInt8.ofNat (48 + (n % 10).toNat)] := by
 have h1 : (n / 10).toNat = n.toNat / 10 := by omega
 have h2 : (n % 10).toNat = n.toNat % 10 := by omega
 unfold decW
 rw [h1, h2]
 conv => lhs; rw [Lib.decDigits]
 rw [dif_neg (by omega)]
theorem dec_size : ∀ (k : Nat) (n : Int), 0 ≤ n → n.toNat ≤ k → (decW n).length ≤ n.toNat + 1
 | k, n, h0, hk => by
   by_cases h : n < 10
   ·obtain ⟨j, rfl⟩ : ∃ j : Nat, n = (j : Int) := ⟨n.toNat, by omega⟩
    rw [decW_lt (by omega)]; simp
   ·cases k with
    | zero => omega
    | succ k =>
      rw [dec_cons (by omega), List.length_append]
      have := dec_size k (n / 10) (by omega) (by omega)
      simp; omega
set_option maxRecDepth 100000 in
set_option maxHeartbeats 2000000 in
theorem dec_step (n : Int) (h : 10 ≤ n) (hn : n ≤ 1000000000000000) (IH : ∀ w : World, Calls Tryz.prog 46 #[.int .i64 (n / 10)] w fun e w' => e = .returned (.string (bs (decW (n / 10)))) ∧ Below w.heap.size w w') (w : World) :
  Calls Tryz.prog 46 #[.int .i64 n] w fun e w' => e = .returned (.string (bs (decW n))) ∧ Below w.heap.size w w' := by
 obtain ⟨m, hm⟩ : ∃ m, n / 10 = m := ⟨_, rfl⟩
 obtain ⟨r, hr⟩ : ∃ r : Nat, n % 10 = (r : Int) := ⟨(n % 10).toNat, by omega⟩
 have hr9 : r < 10 := by omega
 obtain ⟨d, hd⟩ : ∃ d : Int, ((48 + r : Nat) : Int) = d := ⟨_, rfl⟩
 have hq : n.tdiv 10 = m := by rw [Int.tdiv_eq_ediv_of_nonneg (by omega), hm]
 have hq2 : n.tmod 10 = (r : Int) := by rw [Int.tmod_eq_emod_of_nonneg (by omega), hr]
 have hw0 : IntKind.i64.wrap m = m := IntWalk.i64_in _ (by omega)
 have hw1 : IntKind.i64.wrap (r : Int) = (r : Int) := IntWalk.i64_in _ (by omega)
 have hw2 : IntKind.i64.wrap (48 + (r : Int)) = d := by rw [IntWalk.i64_in _ (by omega)]; omega
 have hw3 : IntKind.u8.wrap d = d := by
  rw [← hd]
  have : r = 0 ∨ r = 1 ∨ r = 2 ∨ r = 3 ∨ r = 4 ∨ r = 5 ∨ r = 6 ∨ r = 7 ∨ r = 8 ∨ r = 9 := by omega
  rcases this with rfl | rfl | rfl | rfl | rfl | rfl | rfl | rfl | rfl | rfl <;> decide
 obtain ⟨s1, hs1⟩ : ∃ s1, bs [UInt8.ofNat (48 + r)] = s1 := ⟨_, rfl⟩
 obtain ⟨s0, hs0⟩ : ∃ s0, bs (decW m) = s0 := ⟨_, rfl⟩
 obtain ⟨s2, hs2⟩ : ∃ s2, bs (decW n) = s2 := ⟨_, rfl⟩
 have hcv : ∀ (b : Nat) (w' : World), w'.cell? ⟨b, 0, none⟩ = some (.int .u8 d) → (convert 22 9 (.slice (some ⟨b, 0, none⟩) 1 1)).run Tryz.prog w' = .ok (.string s1) w' := fun b w' hc => by
  rw [conv1 b (48 + r) (by omega) w' (by rw [hc, ← hd]), ← hs1]; rfl
 have hcvA := fun w' : World => hcv w'.heap.size (w'.alloc (.cells #[.int .u8 d] 5)) (cell_of_block (heap_alloc_self w' _) 0)
 have hap : s0 ++ s1 = s2 := by
  rw [← hs0, ← hs1, ← hs2, bs_app, dec_cons h, hm, hr]; rfl
 have hz0 : s0.size ≤ 1000000000000001 := by
  have := dec_size m.toNat m (by omega) (Nat.le_refl _)
  rw [← hs0, bs_size]; omega
 have hz1 : s1.size = 1 := by rw [← hs1]; rfl
 have hg1 : s0.size + s1.size ≤ 9223372036854775807 := by omega
 have hg2 : ¬ 9223372036854775807 < s0.size + s1.size := by omega
 have hg3 : s0.size + 1 ≤ 9223372036854775807 := by omega
 rw [hm] at IH
 simp only [hs0] at IH
 have hn10 : ¬ n < 10 := by omega
 have hn10d : decide (n < 10) = false := decide_eq_false hn10
 have Hc := Lib.hid IH; clear IH
 have Hn := Lib.hid (And.intro hs2 (And.intro hm (And.intro hr hd))); clear hs0 hs1 hs2 hm hr hd
 have hbD : Below w.heap.size w w.drew := (Below.refl _ _).drew
 rw [Hn.out.1]
 go_enter Tryz.func46, Tryz.ntmps46
 go_wp2_with fail
 refine wp_region_noPanic ?_
 refine wp_region_held_drew (S := fun _ => True) (by kernel_rfl) trivial (fun hHeld => ?_)
 (refine wpAnyH_take (i := 0) (v := .int .i64 n) rfl (by kernel_rfl) (by kernel_rfl) (by kernel_rfl) (fun _ _ _ h => h) (Or.inl ⟨by kernel_rfl, fun w hSw => by (try dsimp only at hSw); go_split_ands; go_simp⟩) (by assumption) ?_; simp only [Act.put, List.setIfInBounds_toArray, List.set_cons_zero, List.set_cons_succ])
 (refine wpAnyH_take (i := 1) (v := .int .i64 m) rfl (by kernel_rfl) (by kernel_rfl) (by kernel_rfl) (fun _ _ _ h => h) (Or.inl ⟨by kernel_rfl, fun w hSw => by (try dsimp only at hSw); go_split_ands; go_simp⟩) (by assumption) ?_; simp only [Act.put, List.setIfInBounds_toArray, List.set_cons_zero, List.set_cons_succ])
 (refine wpAnyH_take (i := 3) (v := .int .i64 n) rfl (by kernel_rfl) (by kernel_rfl) (by kernel_rfl) (fun _ _ _ h => h) (Or.inl ⟨by kernel_rfl, fun w hSw => by (try dsimp only at hSw); go_split_ands; go_simp⟩) (by assumption) ?_; simp only [Act.put, List.setIfInBounds_toArray, List.set_cons_zero, List.set_cons_succ])
 (refine wpAnyH_take (i := 4) (v := .int .i64 (r : Int)) rfl (by kernel_rfl) (by kernel_rfl) (by kernel_rfl) (fun _ _ _ h => h) (Or.inl ⟨by kernel_rfl, fun w hSw => by (try dsimp only at hSw); go_split_ands; go_simp⟩) (by assumption) ?_; simp only [Act.put, List.setIfInBounds_toArray, List.set_cons_zero, List.set_cons_succ])
 (refine wpAnyH_take (i := 5) (v := .int .i64 d) rfl (by kernel_rfl) (by kernel_rfl) (by kernel_rfl) (fun _ _ _ h => h) (Or.inl ⟨by kernel_rfl, fun w hSw => by (try dsimp only at hSw); go_split_ands; go_simp⟩) (by assumption) ?_; simp only [Act.put, List.setIfInBounds_toArray, List.set_cons_zero, List.set_cons_succ])
 (refine wpAnyH_take (i := 6) (v := .int .u8 d) rfl (by kernel_rfl) (by kernel_rfl) (by kernel_rfl) (fun _ _ _ h => h) (Or.inl ⟨by kernel_rfl, fun w hSw => by (try dsimp only at hSw); go_split_ands; go_simp⟩) (by assumption) ?_; simp only [Act.put, List.setIfInBounds_toArray, List.set_cons_zero, List.set_cons_succ])
 obtain ⟨wd, hwd⟩ : ∃ wd, wd = w.drew := ⟨_, rfl⟩
 rw [← hwd] at hbD ⊢
 clear hwd
 refine wpAnyH_ready (rs := [2, 7]) (by kernel_rfl) (by simp) (AllReadyH.cons rfl (fun K hK => ?_) (AllReadyH.cons rfl (fun K hK => ?_) AllReadyH.nil))
 ·go_simp
  go_at_call 46
  refine (Hc.out _).mono ?_
  rintro e' w3 ⟨rfl, hb3⟩
  dsimp only
  (refine hK.out _ _ trivial (fun hHeld => ?_); clear hK K; (try simp only [Act.put, List.setIfInBounds_toArray, List.set_cons_zero, List.set_cons_succ]))
  have hcv3 := hcvA w3
  (refine wpAnyH_ready (rs := [7]) (by kernel_rfl) (by simp) (AllReadyH.cons rfl (fun K hK => ?_) AllReadyH.nil); go_simp)
  (refine hK.out _ _ trivial (fun hHeld => ?_); clear hK K; (try simp only [Act.put, List.setIfInBounds_toArray, List.set_cons_zero, List.set_cons_succ]))
  (refine wpAnyH_ready (rs := [8]) (by kernel_rfl) (by simp) (AllReadyH.cons rfl (fun K hK => ?_) AllReadyH.nil); go_simp)
  (refine hK.out _ _ trivial (fun hHeld => ?_); clear hK K; (try simp only [Act.put, List.setIfInBounds_toArray, List.set_cons_zero, List.set_cons_succ]))
  (refine wpAnyH_take (i := 9) (v := .string s2) rfl (by kernel_rfl) (by kernel_rfl) (by kernel_rfl) (fun _ _ _ h => h) (Or.inl ⟨by kernel_rfl, fun w hSw => by (try dsimp only at hSw); go_split_ands; go_simp⟩) (by assumption) ?_; simp only [Act.put, List.setIfInBounds_toArray, List.set_cons_zero, List.set_cons_succ])
  (refine wpAnyH_ready (rs := [10]) (by kernel_rfl) (by simp) (AllReadyH.cons rfl (fun K hK => ?_) AllReadyH.nil); go_simp)
  (refine hK.out _ _ trivial (fun hHeld => ?_); clear hK K; (try simp only [Act.put, List.setIfInBounds_toArray, List.set_cons_zero, List.set_cons_succ]))
  refine wpAnyH_done (by kernel_rfl) (NoPanic.normal ?_) _
  go_wp2_with fail
  go_ret
  exact ⟨rfl, (hbD.trans (hb3.mono hbD.size)).alloc (Nat.le_trans hbD.size hb3.size) _⟩
 ·have hcv0 := hcvA wd
  obtain ⟨wb, hwb⟩ : ∃ wb, wb = wd.alloc (.cells #[.int .u8 d] 5) := ⟨_, rfl⟩
  have hbb : Below wd.heap.size wd wb := by rw [hwb]; exact (Below.refl _ _).alloc (Nat.le_refl _) _
  have hcb : wb.cell? ⟨wd.heap.size, 0, none⟩ = some (.int .u8 d) := by rw [hwb]; exact cell_of_block (heap_alloc_self _ _) 0
  have hsb := lt_of_cell hcb
  have Hwb := Lib.hid hwb; clear hwb
  go_simp
  rw [← Hwb.out]
  (refine hK.out _ _ trivial (fun hHeld => ?_); clear hK K; (try simp only [Act.put, List.setIfInBounds_toArray, List.set_cons_zero, List.set_cons_succ]))
  refine wpAnyH_ready (rs := [2, 8]) (by kernel_rfl) (by simp) (AllReadyH.cons rfl (fun K hK => ?_) (AllReadyH.cons rfl (fun K hK => ?_) AllReadyH.nil))
  ·go_simp
   go_at_call 46
   refine (Hc.out _).mono ?_
   rintro e' w3 ⟨rfl, hb3⟩
   have hcv3 := hcv _ _ (cell_keep hcb (hb3.block _ hsb))
   dsimp only
   (refine hK.out _ _ trivial (fun hHeld => ?_); clear hK K; (try simp only [Act.put, List.setIfInBounds_toArray, List.set_cons_zero, List.set_cons_succ]))
   (refine wpAnyH_ready (rs := [8]) (by kernel_rfl) (by simp) (AllReadyH.cons rfl (fun K hK => ?_) AllReadyH.nil); go_simp)
   (refine hK.out _ _ trivial (fun hHeld => ?_); clear hK K; (try simp only [Act.put, List.setIfInBounds_toArray, List.set_cons_zero, List.set_cons_succ]))
   (refine wpAnyH_take (i := 9) (v := .string s2) rfl (by kernel_rfl) (by kernel_rfl) (by kernel_rfl) (fun _ _ _ h => h) (Or.inl ⟨by kernel_rfl, fun w hSw => by (try dsimp only at hSw); go_split_ands; go_simp⟩) (by assumption) ?_; simp only [Act.put, List.setIfInBounds_toArray, List.set_cons_zero, List.set_cons_succ])
   (refine wpAnyH_ready (rs := [10]) (by kernel_rfl) (by simp) (AllReadyH.cons rfl (fun K hK => ?_) AllReadyH.nil); go_simp)
   (refine hK.out _ _ trivial (fun hHeld => ?_); clear hK K; (try simp only [Act.put, List.setIfInBounds_toArray, List.set_cons_zero, List.set_cons_succ]))
   refine wpAnyH_done (by kernel_rfl) (NoPanic.normal ?_) _
   go_wp2_with fail
   go_ret
   exact ⟨rfl, (hbD.trans (hbb.mono hbD.size)).trans (hb3.mono (Nat.le_trans hbD.size hbb.size))⟩
  ·have hcv3 := hcv _ _ hcb
   go_simp
   (refine hK.out _ _ trivial (fun hHeld => ?_); clear hK K; (try simp only [Act.put, List.setIfInBounds_toArray, List.set_cons_zero, List.set_cons_succ]))
   refine wpAnyH_ready (rs := [2]) (by kernel_rfl) (by simp) (AllReadyH.cons rfl (fun K hK => ?_) AllReadyH.nil)
   go_simp
   go_at_call 46
   refine (Hc.out _).mono ?_
   rintro e' w3 ⟨rfl, hb3⟩
   dsimp only
   (refine hK.out _ _ trivial (fun hHeld => ?_); clear hK K; (try simp only [Act.put, List.setIfInBounds_toArray, List.set_cons_zero, List.set_cons_succ]))
   (refine wpAnyH_take (i := 9) (v := .string s2) rfl (by kernel_rfl) (by kernel_rfl) (by kernel_rfl) (fun _ _ _ h => h) (Or.inl ⟨by kernel_rfl, fun w hSw => by (try dsimp only at hSw); go_split_ands; go_simp⟩) (by assumption) ?_; simp only [Act.put, List.setIfInBounds_toArray, List.set_cons_zero, List.set_cons_succ])
   (refine wpAnyH_ready (rs := [10]) (by kernel_rfl) (by simp) (AllReadyH.cons rfl (fun K hK => ?_) AllReadyH.nil); go_simp)
   (refine hK.out _ _ trivial (fun hHeld => ?_); clear hK K; (try simp only [Act.put, List.setIfInBounds_toArray, List.set_cons_zero, List.set_cons_succ]))
   refine wpAnyH_done (by kernel_rfl) (NoPanic.normal ?_) _
   go_wp2_with fail
   go_ret
   exact ⟨rfl, (hbD.trans (hbb.mono hbD.size)).trans (hb3.mono (Nat.le_trans hbD.size hbb.size))⟩
theorem dec_all : ∀ (k : Nat) (n : Int), 0 ≤ n → n.toNat ≤ k → n ≤ 1000000000000000 → ∀ w : World, Calls Tryz.prog 46 #[.int .i64 n] w fun e w' => e = .returned (.string (bs (decW n))) ∧ Below w.heap.size w w'
 | k, n, h0, hk, hn, w => by
   by_cases h : n < 10
   ·obtain ⟨j, rfl⟩ : ∃ j : Nat, n = (j : Int) := ⟨n.toNat, by omega⟩
    exact dec0 j (by omega) w
   ·cases k with
    | zero => omega
    | succ k => exact dec_step n (by omega) hn (fun w => dec_all k (n / 10) (by omega) (by omega) (by omega) w) w
def valTo (l : List UInt8) (k : Nat) : Nat := (l.take k).foldl (fun n b => 10 * n + (b.toNat - 48)) 0
def digTo (l : List UInt8) (k : Nat) : Bool := (l.take k).all fun b => decide (48 ≤ b.toNat) && decide (b.toNat ≤ 57)
theorem take_one {l : List UInt8} {k : Nat} {x : UInt8} (hx : l[k]? = some x) : l.take (k + 1) = l.take k ++ [x] := by rw [List.take_add_one, hx]; rfl
theorem valTo_next {l : List UInt8} {k : Nat} {x : UInt8} (hx : l[k]? = some x) : valTo l (k + 1) = 10 * valTo l k + (x.toNat - 48) := by
 unfold valTo; rw [take_one hx, List.foldl_append]; rfl
theorem digTo_next {l : List UInt8} {k : Nat} {x : UInt8} (hx : l[k]? = some x) : digTo l (k + 1) = (digTo l k && (decide (48 ≤ x.toNat) && decide (x.toNat ≤ 57))) := by
 unfold digTo; rw [take_one hx, List.all_append]; simp
theorem digTo_false {l : List UInt8} {k : Nat} (h : digTo l k = false) : digB l = false := by
 unfold digTo at h
 unfold digB
 rw [← List.take_append_drop k l, List.all_append, h]; rfl
theorem valTo_lt {l : List UInt8} : ∀ {k}, k ≤ l.length → digTo l k = true → valTo l k < 10 ^ k
 | 0, _, _ => by unfold valTo; simp
 | k + 1, hk, hd => by
   obtain ⟨x, hx⟩ : ∃ x, l[k]? = some x := ⟨_, List.getElem?_eq_getElem (by omega)⟩
   rw [digTo_next hx, Bool.and_eq_true, Bool.and_eq_true, decide_eq_true_iff, decide_eq_true_iff] at hd
   have ih := valTo_lt (by omega) hd.1
   rw [valTo_next hx, Nat.pow_succ]
   omega
theorem str_eq (a b : List UInt8) : ((bs a).toList == (bs b).toList) = decide (a = b) := by
 rw [Lib.toList_data, Lib.toList_data, bs_data, bs_data]
 by_cases h : a = b
 ·subst h; simp
 ·simp [h]
set_option maxRecDepth 100000 in
set_option maxHeartbeats 4000000 in
theorem l01Value_any (l : List UInt8) (W : World) (hl : l.length ≤ 1048576) :
  Calls Tryz.prog 32 #[.string (bs l)] W fun e' w' => e' = .returned (.tuple #[.int .i64 (valR l).2, .bool (valR l).1]) ∧ Below W.heap.size W w' := by
 have hsz : (bs l).size = l.length := bs_size l
 by_cases h1 : l.length < 1
 ·have hfin : valR l = (false, 0) := by unfold valR; rw [if_pos h1]
  have Hf := Lib.hid hfin; clear hfin
  have hl0 : l.length = 0 := by omega
  go_enter Tryz.func32, Tryz.ntmps32
  go_wp2_with fail
  go_ret2
  exact ⟨by rw [Hf.out]; rfl, Below.refl _ _⟩
 ·by_cases h13 : 13 < l.length
  ·have hfin : valR l = (false, 0) := by unfold valR; rw [if_neg h1, if_pos h13]
   have Hf := Lib.hid hfin; clear hfin
   go_enter Tryz.func32, Tryz.ntmps32
   go_wp2_with fail
   go_ret2
   exact ⟨by rw [Hf.out]; rfl, Below.refl _ _⟩
  ·go_enter Tryz.func32, Tryz.ntmps32
   go_wp2_with fail
   go_loopw [4, 5] (fun nv i wr => ∃ k : Nat, k ≤ l.length ∧ i = .int .i64 k ∧ nv = .int .i64 (valTo l k : Nat) ∧ digTo l k = true ∧ wr = W) (fun _ i _ => l.length - (intOf i).toNat)
   case atStart => exact ⟨0, Nat.zero_le _, rfl, rfl, rfl, rfl⟩
   case round =>
    obtain ⟨k, hk, rfl, rfl, hdg, rfl⟩ := hrel
    have hvl := valTo_lt hk hdg
    have hp13 : 10 ^ k ≤ 10 ^ 13 := Nat.pow_le_pow_right (by decide) (by omega)
    have hp : (10 : Nat) ^ 13 = 10000000000000 := by decide
    by_cases hkk : k < l.length
    ·obtain ⟨x, hx⟩ : ∃ x, l[k]? = some x := ⟨_, List.getElem?_eq_getElem hkk⟩
     have hix := bs_get hx
     have hnext := valTo_next hx
     have hdn := digTo_next hx
     rw [hdg, Bool.true_and] at hdn
     obtain ⟨V, hV⟩ : ∃ V, valTo l k = V := ⟨_, rfl⟩
     rw [hV] at hnext hvl
     obtain ⟨y, hy⟩ : ∃ y : Nat, x.toNat = y := ⟨_, rfl⟩
     rw [hy] at hnext hdn
     have hV9 : V < 10000000000000 := by omega
     have HS := Lib.hid (And.intro hnext (And.intro hdn (And.intro hV (And.intro hx hdg)))); clear hnext hdn hx hdg hvl hp13 hp
     rw [hV]
     clear hV
     by_cases hy1 : y < 48
     ·have hbad : valR l = (false, 0) := by
       have : digB l = false := digTo_false (k := k + 1) (by rw [HS.out.2.1]; simp; omega)
       unfold valR
       rw [if_neg h1, if_neg h13, if_pos this]
      have Hb := Lib.hid hbad; clear hbad
      have hyd : decide ((y : Int) < 48) = true := decide_eq_true (by omega)
      go_wp2_with fail
      go_ret2
      exact ⟨by rw [Hb.out]; rfl, Below.refl _ _⟩
     ·have hyd : decide ((y : Int) < 48) = false := decide_eq_false (by omega)
      by_cases hy2 : 57 < y
      ·have hbad : valR l = (false, 0) := by
        have : digB l = false := digTo_false (k := k + 1) (by rw [HS.out.2.1]; simp; omega)
        unfold valR
        rw [if_neg h1, if_neg h13, if_pos this]
       have Hb := Lib.hid hbad; clear hbad
       have hyd2 : decide ((57 : Int) < (y : Int)) = true := decide_eq_true (by omega)
       go_wp2_with fail
       go_ret2
       exact ⟨by rw [Hb.out]; rfl, Below.refl _ _⟩
      ·have hyd2 : decide ((57 : Int) < (y : Int)) = false := decide_eq_false (by omega)
       obtain ⟨z, hz⟩ : ∃ z : Nat, y = z + 48 := ⟨y - 48, by omega⟩
       have hw1 : IntKind.u8.wrap ((y : Int) - 48) = (z : Int) := by
        rw [show (y : Int) - 48 = (z : Int) by omega]
        have : z = 0 ∨ z = 1 ∨ z = 2 ∨ z = 3 ∨ z = 4 ∨ z = 5 ∨ z = 6 ∨ z = 7 ∨ z = 8 ∨ z = 9 := by omega
        rcases this with rfl | rfl | rfl | rfl | rfl | rfl | rfl | rfl | rfl | rfl <;> decide
       have hw2 : IntKind.i64.wrap (10 * (V : Int)) = 10 * (V : Int) := IntWalk.i64_in _ (by omega)
       have hw3 : IntKind.i64.wrap (10 * (V : Int) + (z : Int)) = 10 * (V : Int) + (z : Int) := IntWalk.i64_in _ (by omega)
       have hw4 : IntKind.i64.wrap (z : Int) = (z : Int) := IntWalk.i64_in _ (by omega)
       have hnx : valTo l (k + 1) = 10 * V + z := by rw [HS.out.1, hz]; omega
       have hdx : digTo l (k + 1) = true := by rw [HS.out.2.1]; simp; omega
       have Hx := Lib.hid (And.intro hnx hdx); clear hnx hdx
       clear hz
       go_wp2_with fail
       go_roundw
       case rel => exact ⟨k + 1, by omega, by go_num, by rw [Hx.out.1]; go_num, Hx.out.2, trivial⟩
       case measure => simp [intOf]; omega
    ·obtain rfl : k = l.length := by omega
     have hkd : decide (l.length < l.length) = false := decide_eq_false (Nat.lt_irrefl _)
     have hvn : valTo l l.length = valN l := by unfold valTo valN; rw [List.take_length]
     have hdb : digB l = true := by have := hdg; unfold digTo at this; rwa [List.take_length] at this
     obtain ⟨V, hV⟩ : ∃ V, valTo l l.length = V := ⟨_, rfl⟩
     rw [hV] at hvl hvn
     have hfin : valR l = (((bs (decW (V : Int))).toList == (bs l).toList), (V : Int)) := by
      unfold valR
      rw [if_neg h1, if_neg h13, if_neg (by rw [hdb]; decide), ← hvn, str_eq]
      unfold decW
      rw [Int.toNat_natCast]
     have hcall := fun w : World => dec_all V (V : Int) (by omega) (by omega) (by omega) w
     obtain ⟨s0, hs0⟩ : ∃ s0, bs (decW (V : Int)) = s0 := ⟨_, rfl⟩
     simp only [hs0] at hcall hfin
     have HF := Lib.hid (And.intro hfin hcall); clear hfin hcall hs0 hdg hvl hvn hdb hp13 hp
     rw [hV]
     clear hV
     go_wp2_with fail
     refine (HF.out.2 _).mono ?_
     rintro e' w2 ⟨rfl, hb2⟩
     go_wp2_with fail
     go_ret2
     exact ⟨by rw [HF.out.1]; rfl, hb2⟩
end Go.Proofs.YtbekpololmahoaaGreatDoor
