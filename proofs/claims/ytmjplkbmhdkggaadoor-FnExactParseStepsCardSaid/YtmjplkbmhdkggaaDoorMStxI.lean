/- Steps as text: the program. No conditions. -/
import Derived.Maps.AppendAt
import Derived.Test.YtmjplkbmhdkggaaDoorMShelf2
import Derived.Test.YtmjplkbmhdkggaaDoorMLib
namespace Go.Proofs.YtmjplkbmhdkggaaDoor
open Go.RowKit
set_option linter.unusedVariables false
set_option linter.unusedSimpArgs false
theorem inf_str : (Tryd.prog.info? 9).map (fun i => (i.zero, i.size, i.bytes)) = some (some (.string ⟨#[]⟩), 1, 16) := by kernel_rfl
def strV (b : List UInt8) : Value := .string (bs b)
theorem own_cellS {w : World} {B : Nat} {e : TypeId} {g n c : Nat} {vs : List Value} (h : w.ownsRow B e 1 (.slice (some ⟨g, 0, none⟩) n c) n vs) : g < w.heap.size ∧ n ≤ c ∧ ∀ j u, vs[j]? = some u → w.cell? ⟨g, 0 + j, none⟩ = some u := by
 rcases h.2 with ⟨e1, _⟩ | ⟨g', cap, cur, e1, h1, h2, h3, h4, h5, h6⟩
 ·cases e1
 ·cases e1
  refine ⟨lt_of_heap h2, h3, fun j u hj => ?_⟩
  rw [cell_of_block h2, Nat.zero_add, ← Array.getElem?_toList]
  rw [← h6, List.getElem?_take] at hj
  split at hj
  ·exact hj
  ·cases hj
theorem join_words (l : List (Int × Int)) {W0 wo : World} {oa : Option Addr} {oc n : Nat} {ws : List (List UInt8)} (hown : wo.ownsRow W0.heap.size 9 1 (.slice oa n oc) n (ws.map strV)) (hjl : (Lib.join ws [32]).length ≤ 140737488355328) (hwl : ws.length = n) (hn9 : n ≤ 140737488355328) :
  Calls Tryd.prog 20 #[.slice oa n oc, .string { data := #[32] }] wo fun e w' => e = .returned (.string (bs (Lib.join ws [32]))) ∧ Below wo.heap.size wo w' := by
 have hsep : (ByteArray.mk #[32]).data.toList = [32] := rfl
 by_cases hn : n = 0
 ·have hw0 : ws = [] := List.length_eq_zero_iff.1 (by omega)
  subst hw0
  subst hn
  refine (Go.Proofs.Tryd.strings_Join_none oa oc { data := #[32] } wo).mono ?_
  rintro e w ⟨he, hw⟩
  rw [Lib.join_nil]
  subst hw
  exact ⟨he, Below.refl _ _⟩
 ·rcases hown.2 with ⟨e1, e2⟩ | ⟨g, cap, cur, e1, _⟩
  ·exact absurd e2 hn
  ·cases e1
   obtain ⟨h1, h2, h3⟩ := own_cellS hown
   have hxs : (ws.map bs).length = n := by rw [List.length_map]; exact hwl
   have hmap : (ws.map bs).map (·.data.toList) = ws := by
    rw [List.map_map]
    conv => rhs; rw [← List.map_id ws]
    rfl
   have hJ := Go.Proofs.Tryd.strings_Join g 0 oc (ws.map bs) { data := #[32] } wo (fun j x hj => h3 j (.string x) (by
    rw [List.getElem?_map] at hj ⊢
    cases hw : ws[j]? with
    | none => rw [hw] at hj; cases hj
    | some y => rw [hw] at hj; cases hj; rfl)) h1 (by rw [hxs]; exact hn9) (by rw [hxs]; exact h2) (by rw [hmap, hsep]; exact hjl)
   rw [hmap, hxs, hsep] at hJ
   exact hJ
set_option maxRecDepth 100000 in
set_option maxHeartbeats 8000000 in
theorem StepsText_any {S : Nat → Prop} (v : Value) (l : List (Int × Int)) (W : World) (h : VS S W v l) (hlen : l.length ≤ 100000000) :
  Calls Tryd.prog 8 #[v] W fun e' w' => e' = .returned (.tuple #[.string (bs (stxAns l).1), .int .i64 (stxAns l).2]) ∧ Below W.heap.size W w' := by
 have hV := h
 obtain ⟨a, c, rfl, hm⟩ := h.form
 obtain ⟨i0, gi, gz0, gz1, gz2⟩ := info_parts inf_str
 have hown0 := own_lit0 W W.heap.size 9 1 (Nat.le_refl _)
 have hbl : Below W.heap.size W (W.alloc (.cells #[] 9)) := (Below.refl _ _).alloc (Nat.le_refl _) _
 have HO0 := Lib.hid (And.intro hown0 hbl); clear hown0 hbl
 go_enter Tryd.func8, Tryd.ntmps8
 go_wp2_with fail
 go_loopw [4, 10] (fun ov i wr => ∃ k : Nat, k ≤ l.length ∧ i = .int .i64 k ∧ fitTo l k = true ∧ wr.ownsRow W.heap.size 9 1 ov k ((wordsTo l k).map strV) ∧ Below W.heap.size W wr) (fun _ i _ => l.length - (intOf i).toNat)
 case atStart => exact ⟨0, Nat.zero_le _, rfl, rfl, HO0.out.1, HO0.out.2⟩
 case round =>
  obtain ⟨k, hk, rfl, hft, hown, hB⟩ := hrel
  have hzW := hB.size
  obtain ⟨oa, oc, rfl, ho1, ho2⟩ := own_form hown
  obtain ⟨wo, rfl⟩ : ∃ q, q = wr := ⟨_, rfl⟩
  by_cases hkk : k < l.length
  ·obtain ⟨b1, off1, rfl, _, hc1, hc2⟩ := (hV.below hB).cell hkk
   have hkn : ¬ l.length ≤ k := by omega
   have hkd : decide (k < l.length) = true := decide_eq_true hkk
   have hwstep : wordsTo l (k + 1) = wordsTo l k ++ [wordS (gets l k)] := rfl
   have hfstep : fitTo l (k + 1) = fitS (gets l k) := by unfold fitTo; rw [hft]; rfl
   obtain ⟨x, hx⟩ : ∃ x, gets l k = x := ⟨_, rfl⟩
   rw [hx] at hc1 hc2 hwstep hfstep
   have HS := Lib.hid (And.intro hwstep (And.intro hfstep (And.intro hx (And.intro hown hB)))); clear hwstep hfstep hx hft hown hB
   obtain ⟨wx, hwx, hBx, hzx, HZx, hcx, hhx⟩ := box_facts wo #[.int .i64 x.1, .int .i64 x.2] 37
   cases ho : openS x
   ·have HO := Lib.hid ho; clear ho
    cases h1 : inB x.1 0 9
    ·have H1 := Lib.hid h1; clear h1
     have hbad : stxAns l = ([], 2) := by
      have h2 : fitTo l (k + 1) = false := by rw [HS.out.2.1]; unfold fitS; rw [HO.out, H1.out]; rfl
      unfold stxAns
      rw [if_pos (fitTo_false h2 _ (by omega))]
     have Hbad := Lib.hid hbad; clear hbad
     go_wp2_with fail
     rw [← hwx]
     refine (isOpenStep_b x _ _ HO.out).mono ?_
     rintro e' w2 ⟨rfl, hb2⟩
     have hb02 := hBx.trans (hb2.mono hBx.size)
     have hz02 := hb02.size
     have hown2 := own_chg HS.out.2.2.2.1 (Chg.of_below (F := fun _ => False) hb02) (fun _ _ h => h)
     have hcx2 : ∀ o, w2.cell? ⟨wo.heap.size, o, none⟩ = (#[.int .i64 x.1, .int .i64 x.2] : Array Value)[o]? := fun o => by rw [(bcell hb2).1 _ _ hzx, hcx]
     clear hc1 hc2 hcx hhx
     go_wp2_with (go_at_call 18; refine (within_b x.1 0 9 _ _ H1.out).mono ?_; rintro e' w'' ⟨rfl, rfl⟩)
     go_ret2
     exact ⟨by rw [Hbad.out]; rfl, HS.out.2.2.2.2.trans (hb02.mono hzW)⟩
    ·have H1 := Lib.hid h1; clear h1
     cases h2 : inB x.2 0 11
     ·have H2 := Lib.hid h2; clear h2
      have hbad : stxAns l = ([], 2) := by
       have h2 : fitTo l (k + 1) = false := by rw [HS.out.2.1]; unfold fitS; rw [HO.out, H1.out, H2.out]; rfl
       unfold stxAns
       rw [if_pos (fitTo_false h2 _ (by omega))]
      have Hbad := Lib.hid hbad; clear hbad
      go_wp2_with fail
      rw [← hwx]
      refine (isOpenStep_b x _ _ HO.out).mono ?_
      rintro e' w2 ⟨rfl, hb2⟩
      have hb02 := hBx.trans (hb2.mono hBx.size)
      have hz02 := hb02.size
      have hown2 := own_chg HS.out.2.2.2.1 (Chg.of_below (F := fun _ => False) hb02) (fun _ _ h => h)
      have hcx2 : ∀ o, w2.cell? ⟨wo.heap.size, o, none⟩ = (#[.int .i64 x.1, .int .i64 x.2] : Array Value)[o]? := fun o => by rw [(bcell hb2).1 _ _ hzx, hcx]
      clear hc1 hc2 hcx hhx
      go_wp2_with (first | (go_at_call 18; with_reducible refine (within_b x.1 0 9 _ _ H1.out).mono ?_; rintro e' w'' ⟨rfl, rfl⟩) | (go_at_call 18; with_reducible refine (within_b x.2 0 11 _ _ H2.out).mono ?_; rintro e' w'' ⟨rfl, rfl⟩))
      go_ret2
      exact ⟨by rw [Hbad.out]; rfl, HS.out.2.2.2.2.trans (hb02.mono hzW)⟩
     ·have H2 := Lib.hid h2; clear h2
      have hr1 := inB_iff.1 H1.out
      have hr2 := inB_iff.1 H2.out
      have hw : wordS x = decW x.1 ++ [47] ++ decW x.2 := by unfold wordS; rw [HO.out]; rfl
      have hd1 := dec_small hr1.1 (Int.le_trans hr1.2 (by omega))
      have hd2 := dec_small hr2.1 hr2.2
      have hC1 := fun w => text_small x.1 hr1.1 (Int.le_trans hr1.2 (by omega)) w
      have hC2 := fun w => text_small x.2 hr2.1 hr2.2 w
      obtain ⟨d1, hd1e⟩ : ∃ d, bs (decW x.1) = d := ⟨_, rfl⟩
      obtain ⟨d2, hd2e⟩ : ∃ d, bs (decW x.2) = d := ⟨_, rfl⟩
      obtain ⟨s2, hs2⟩ : ∃ s, bs (decW x.1 ++ [47]) = s := ⟨_, rfl⟩
      obtain ⟨s3, hs3⟩ : ∃ s, bs (decW x.1 ++ [47] ++ decW x.2) = s := ⟨_, rfl⟩
      have ha2 : d1 ++ ({ data := #[47] } : ByteArray) = s2 := by rw [← hd1e, ← hs2]; exact bs_app _ [47]
      have ha3 : s2 ++ d2 = s3 := by rw [← hs2, ← hd2e, ← hs3]; exact bs_app _ _
      have hq1 : d1.size ≤ 2 := by rw [← hd1e, bs_size]; omega
      have hq2 : d2.size ≤ 2 := by rw [← hd2e, bs_size]; omega
      have hz3 : s2.size ≤ 100 := by rw [← hs2, bs_size, List.length_append]; simp; omega
      have hg2 : ¬ 9223372036854775807 < d1.size + 1 := by omega
      have hg3 : ¬ 9223372036854775807 < s2.size + d2.size := by omega
      have hnx : (wordsTo l (k + 1)).map strV = (wordsTo l k).map strV ++ [.string s3] := by
       rw [HS.out.1, hw, List.map_append, ← hs3]; rfl
      simp only [hd1e] at hC1
      simp only [hd2e] at hC2
      have HX := Lib.hid (And.intro hnx (And.intro hC1 hC2)); clear hr1 hr2 hnx hd1 hd2 hw hC1 hC2 hd1e hd2e hs2 hs3
      go_wp2_with fail
      rw [← hwx]
      refine (isOpenStep_b x _ _ HO.out).mono ?_
      rintro e' w2 ⟨rfl, hb2⟩
      have hb02 := hBx.trans (hb2.mono hBx.size)
      have hz02 := hb02.size
      have hown2 := own_chg HS.out.2.2.2.1 (Chg.of_below (F := fun _ => False) hb02) (fun _ _ h => h)
      have hcx2 : ∀ o, w2.cell? ⟨wo.heap.size, o, none⟩ = (#[.int .i64 x.1, .int .i64 x.2] : Array Value)[o]? := fun o => by rw [(bcell hb2).1 _ _ hzx, hcx]
      clear hc1 hc2 hcx hhx
      have hS2 : w2.cell? ⟨wo.heap.size, 0, none⟩ = some (.int .i64 x.1) ∧ w2.cell? ⟨wo.heap.size, 1, none⟩ = some (.int .i64 x.2) := ⟨hcx2 0, hcx2 1⟩
      go_wp2_with (first | (go_at_call 18; with_reducible refine (within_b x.1 0 9 _ _ H1.out).mono ?_; rintro e' w'' ⟨rfl, rfl⟩) | (go_at_call 18; with_reducible refine (within_b x.2 0 11 _ _ H2.out).mono ?_; rintro e' w'' ⟨rfl, rfl⟩))
      clear hcx2
      refine wp_region_noPanic ?_
      refine wp_region_held_drew (S := fun w' => w'.cell? ⟨wo.heap.size, 0, none⟩ = some (.int .i64 x.1) ∧ w'.cell? ⟨wo.heap.size, 1, none⟩ = some (.int .i64 x.2)) (by kernel_rfl) ⟨cell_keep hS2.1 rfl, cell_keep hS2.2 rfl⟩ (fun hHeld => ?_)
      (refine wpAnyH_take (i := 0) (v := .slice oa k oc) rfl (by kernel_rfl) (by kernel_rfl) (by kernel_rfl) (fun _ _ _ h => h) (Or.inl ⟨by kernel_rfl, fun w hSw => by (try dsimp only at hSw); go_split_ands; go_simp⟩) (by assumption) ?_; simp only [Act.put, List.setIfInBounds_toArray, List.set_cons_zero, List.set_cons_succ])
      (refine wpAnyH_take (i := 1) (v := .pointer (some ⟨wo.heap.size, 0, none⟩)) rfl (by kernel_rfl) (by kernel_rfl) (by kernel_rfl) (fun _ _ _ h => h) (Or.inl ⟨by kernel_rfl, fun w hSw => by (try dsimp only at hSw); go_split_ands; go_simp⟩) (by assumption) ?_; simp only [Act.put, List.setIfInBounds_toArray, List.set_cons_zero, List.set_cons_succ])
      (refine wpAnyH_take (i := 2) (v := .int .i64 x.1) rfl (by kernel_rfl) (by kernel_rfl) (by kernel_rfl) (fun _ _ _ h => h) (Or.inl ⟨by kernel_rfl, fun w hSw => by (try dsimp only at hSw); go_split_ands; go_simp⟩) (by assumption) ?_; simp only [Act.put, List.setIfInBounds_toArray, List.set_cons_zero, List.set_cons_succ])
      (refine wpAnyH_take (i := 5) (v := .pointer (some ⟨wo.heap.size, 1, none⟩)) rfl (by kernel_rfl) (by kernel_rfl) (by kernel_rfl) (fun _ _ _ h => h) (Or.inl ⟨by kernel_rfl, fun w hSw => by (try dsimp only at hSw); go_split_ands; go_simp⟩) (by assumption) ?_; simp only [Act.put, List.setIfInBounds_toArray, List.set_cons_zero, List.set_cons_succ])
      (refine wpAnyH_take (i := 6) (v := .int .i64 x.2) rfl (by kernel_rfl) (by kernel_rfl) (by kernel_rfl) (fun _ _ _ h => h) (Or.inl ⟨by kernel_rfl, fun w hSw => by (try dsimp only at hSw); go_split_ands; go_simp⟩) (by assumption) ?_; simp only [Act.put, List.setIfInBounds_toArray, List.set_cons_zero, List.set_cons_succ])
      have hb2d : Below w2.heap.size w2 w2.drew := (Below.refl _ _).drew
      have hownd := own_chg hown2 (Chg.of_below (F := fun _ => False) hb2d) (fun _ _ h => h)
      obtain ⟨wd, hwd⟩ : ∃ wd, wd = w2.drew := ⟨_, rfl⟩
      rw [← hwd] at hHeld hb2d hownd ⊢
      clear hwd hS2 hown2
      refine wpAnyH_ready (rs := [3]) (by kernel_rfl) (by simp) (AllReadyH.cons rfl (fun K hK => ?_) AllReadyH.nil)
      go_simp
      go_at_call 19
      refine (HX.out.2.1 _).mono ?_
      rintro e' w5 ⟨rfl, rfl⟩
      dsimp only
      (refine hK.out _ _ hHeld (fun hHeld => ?_); clear hK K; (try simp only [Act.put, List.setIfInBounds_toArray, List.set_cons_zero, List.set_cons_succ]))
      (refine wpAnyH_take (i := 4) (v := .string s2) rfl (by kernel_rfl) (by kernel_rfl) (by kernel_rfl) (fun _ _ _ h => h) (Or.inl ⟨by kernel_rfl, fun w hSw => by (try dsimp only at hSw); go_split_ands; go_simp⟩) (by assumption) ?_; simp only [Act.put, List.setIfInBounds_toArray, List.set_cons_zero, List.set_cons_succ])
      refine wpAnyH_ready (rs := [7]) (by kernel_rfl) (by simp) (AllReadyH.cons rfl (fun K hK => ?_) AllReadyH.nil)
      go_simp
      go_at_call 19
      refine (HX.out.2.2 _).mono ?_
      rintro e' w6 ⟨rfl, rfl⟩
      dsimp only
      (refine hK.out _ _ hHeld (fun hHeld => ?_); clear hK K; (try simp only [Act.put, List.setIfInBounds_toArray, List.set_cons_zero, List.set_cons_succ]))
      (refine wpAnyH_take (i := 8) (v := .string s3) rfl (by kernel_rfl) (by kernel_rfl) (by kernel_rfl) (fun _ _ _ h => h) (Or.inl ⟨by kernel_rfl, fun w hSw => by (try dsimp only at hSw); go_split_ands; go_simp⟩) (by assumption) ?_; simp only [Act.put, List.setIfInBounds_toArray, List.set_cons_zero, List.set_cons_succ])
      obtain ⟨wb, hwb⟩ : ∃ wb, wb = w6.alloc (.cells #[.string s3] 9) := ⟨_, rfl⟩
      have hbb : Below w6.heap.size w6 wb := by rw [hwb]; exact (Below.refl _ _).alloc (Nat.le_refl _) _
      have hownb := own_chg hownd (Chg.of_below (F := fun _ => False) hbb) (fun _ _ h => h)
      have hnb : ∀ j u, [Value.string s3][j]? = some u → wb.cell? ((⟨w6.heap.size, 0, none⟩ : Addr).add j) = some u := by rw [hwb]; exact World.news_of_block (heap_alloc_new _ _)
      have hSb : wb.cell? ⟨wo.heap.size, 0, none⟩ = some (.int .i64 x.1) ∧ wb.cell? ⟨wo.heap.size, 1, none⟩ = some (.int .i64 x.2) := ⟨cell_keep hHeld.1 (hbb.block _ (lt_of_cell hHeld.1)), cell_keep hHeld.2 (hbb.block _ (lt_of_cell hHeld.2))⟩
      have hzb : W.heap.size ≤ wb.heap.size := Nat.le_trans (Nat.le_trans (Nat.le_trans hzW hb02.size) hb2d.size) hbb.size
      have Hwb := Lib.hid hwb; clear hwb
      refine wpAnyH_ready (rs := [9]) (by kernel_rfl) (by simp) (AllReadyH.cons rfl (fun K hK => ?_) AllReadyH.nil)
      go_simp
      rw [← Hwb.out]
      (refine hK.out _ _ hSb (fun hHeld => ?_); clear hK K; (try simp only [Act.put, List.setIfInBounds_toArray, List.set_cons_zero, List.set_cons_succ]))
      refine wpAnyH_ready (rs := [10]) (by kernel_rfl) (by simp) (AllReadyH.cons rfl (fun K hK => ?_) AllReadyH.nil)
      refine step_append_lies _ (by rfl) _ _ _ (by rfl) W.heap.size 9 i0 _ 1 16 Tryd.underlying40 gi gz0 gz1 gz2 rfl (by omega) _ k _ (by rfl) hownb ⟨_, 0, none⟩ 1 1 [.string s3] (by rfl) (by rfl) hnb (by simp [Value.oneCell']) (by omega) (by unfold maxLen; omega) (by omega) hzb _ rfl ?_
      intro gg cap8 w8 hown8 hgrow8 hat8 hlt8
      have hB8 : Below W.heap.size wb w8 := (Below.refl _ _).grown hgrow8 hzb (fun g hg => (hownb.lt g hg).1)
      have hS8 : w8.cell? ⟨wo.heap.size, 0, none⟩ = some (.int .i64 x.1) ∧ w8.cell? ⟨wo.heap.size, 1, none⟩ = some (.int .i64 x.2) := by
       have hne : wb.heap.size ≥ 0 := Nat.zero_le _
       have hz8 : ∀ g, Value.ownBlock (.slice oa k oc) = some g → g < wo.heap.size := fun g hg => (HS.out.2.2.2.1.lt g hg).2
       have hk8 : w8.heap[wo.heap.size]? = wb.heap[wo.heap.size]? := hgrow8.block _ (lt_of_cell hSb.1) (fun e => by have := hz8 _ e.symm; omega)
       exact ⟨cell_keep hSb.1 hk8, cell_keep hSb.2 hk8⟩
      have HB := Lib.hid (And.intro hown8 ((HS.out.2.2.2.2.trans (hb02.mono hzW)).trans (((hb2d.mono (Nat.le_trans hzW hb02.size)).trans (hbb.mono (Nat.le_trans (Nat.le_trans hzW hb02.size) hb2d.size))).trans hB8))); clear hown8 hgrow8 hat8 hlt8 hB8
      (refine hK.out _ _ hS8 (fun hHeld => ?_); clear hK K; (try simp only [Act.put, List.setIfInBounds_toArray, List.set_cons_zero, List.set_cons_succ]))
      (refine wpAnyH_ready (rs := [11]) (by kernel_rfl) (by simp) (AllReadyH.cons rfl (fun K hK => ?_) AllReadyH.nil); go_simp)
      (refine hK.out _ _ hS8 (fun hHeld => ?_); clear hK K; (try simp only [Act.put, List.setIfInBounds_toArray, List.set_cons_zero, List.set_cons_succ]))
      refine wpAnyH_done (by kernel_rfl) (NoPanic.normal ?_) _
      go_wp2_with fail
      go_roundw
      case rel => exact ⟨k + 1, by omega, by go_num, by rw [HS.out.2.1]; unfold fitS; rw [HO.out, H1.out, H2.out]; rfl, by rw [HX.out.1]; exact HB.out.1, HB.out.2⟩
      case measure => simp [intOf]; omega
   ·have HO := Lib.hid ho; clear ho
    have hw : wordS x = [43] := by unfold wordS; rw [if_pos HO.out]
    have Hw := Lib.hid hw; clear hw
    go_wp2_with fail
    rw [← hwx]
    refine (isOpenStep_b x _ _ HO.out).mono ?_
    rintro e' w2 ⟨rfl, hb2⟩
    have hb02 := hBx.trans (hb2.mono hBx.size)
    have hz02 := hb02.size
    have hown2 := own_chg HS.out.2.2.2.1 (Chg.of_below (F := fun _ => False) hb02) (fun _ _ h => h)
    have hcx2 : ∀ o, w2.cell? ⟨wo.heap.size, o, none⟩ = (#[.int .i64 x.1, .int .i64 x.2] : Array Value)[o]? := fun o => by rw [(bcell hb2).1 _ _ hzx, hcx]
    clear hc1 hc2 hcx hhx
    clear hcx2
    go_wp2_with ((at_builtin; refine wp_app1 _ rfl _ _ 40 rfl W.heap.size 9 (.string ⟨#[]⟩) 16 Tryd.underlying40 inf_str rfl _ _ _ rfl hown2 (.string ⟨#[43]⟩) _ rfl rfl (by omega) (by omega) (by omega) ?_; intro v1 w1 hown1 hgrow1 hblk1 hB1); refine Hid.out ?_)
    refine Lib.hid ?_
    have HB := Lib.hid (And.intro hown1 hB1); clear hown1 hB1 hown2
    obtain ⟨na, nc, rfl, _, _⟩ := own_form HB.out.1
    go_wp2_with fail
    go_roundw
    case rel => exact ⟨k + 1, by omega, by go_num, by rw [HS.out.2.1]; unfold fitS; rw [HO.out]; rfl, by rw [HS.out.1, Hw.out, List.map_append]; exact HB.out.1, (HS.out.2.2.2.2.trans (hb02.mono hzW)).trans HB.out.2⟩
    case measure => simp [intOf]; omega
  ·obtain rfl : k = l.length := by omega
   have hkd : decide (l.length < l.length) = false := decide_eq_false (Nat.lt_irrefl _)
   by_cases hl : 1200 < l.length
   ·have hans : stxAns l = ([], 3) := by
     unfold stxAns
     rw [if_neg (by rw [hft]; decide), if_pos hl]
    have H := Lib.hid (And.intro hans hB); clear hans hB hft hown
    go_wp2_with fail
    go_ret2
    exact ⟨by rw [H.out.1]; rfl, H.out.2⟩
   ·have hans : stxAns l = (txtTo l l.length, 0) := by
     unfold stxAns
     rw [if_neg (by rw [hft]; decide), if_neg hl]
    have hjl : (Lib.join (wordsTo l l.length) [32]).length ≤ 140737488355328 := by
     rw [← txt_join]
     have := txt_len hft l.length (Nat.le_refl _)
     omega
    have hwl := wordsTo_len l l.length
    have hcall := join_words l hown hjl hwl (by omega)
    rw [← txt_join] at hcall
    have H := Lib.hid (And.intro hans (And.intro hB hcall)); clear hans hB hft hown hjl hwl hcall
    go_wp2_with fail
    refine H.out.2.2.mono ?_
    rintro e' w2 ⟨rfl, hb2⟩
    go_wp2_with fail
    go_ret2
    exact ⟨by rw [H.out.1]; rfl, H.out.2.1.trans (hb2.mono hzW)⟩
/-- A list of strings. -/
def SW (w : World) (v : Value) (ws : List (List UInt8)) : Prop :=
 ∃ a c, v = .slice a ws.length c ∧ ∀ k, k < ws.length → ∃ g off, a = some ⟨g, off, none⟩ ∧ w.cell? ⟨g, off + k, none⟩ = some (.string (bs (getw ws k)))
theorem SW.below {w w' : World} {v : Value} {ws : List (List UInt8)} (h : SW w v ws) (hb : Below w.heap.size w w') : SW w' v ws := by
 obtain ⟨a, c, rfl, h⟩ := h
 refine ⟨a, c, rfl, fun k hk => ?_⟩
 obtain ⟨g, off, ha, hc⟩ := h k hk
 exact ⟨g, off, ha, cell_keep hc (hb.block _ (lt_of_cell hc))⟩
theorem SW.of_own {w : World} {B : Nat} {v : Value} {n : Nat} {ws : List (List UInt8)} (h : w.ownsRow B 9 1 v n (ws.map strV)) (hn : ws.length = n) : SW w v ws := by
 subst hn
 rcases h.2 with ⟨rfl, h0⟩ | ⟨g, cap, cur, rfl, h1, h2, h3, h4, h5, h6⟩
 ·exact ⟨none, 0, by rw [h0], fun k hk => by omega⟩
 ·refine ⟨_, _, rfl, fun k hk => ⟨g, 0, rfl, ?_⟩⟩
  have h7 := (own_cellS (c := cap) h).2.2 k (strV (getw ws k)) (by
   unfold getw
   simp [List.getD_eq_getElem?_getD, List.getElem?_eq_getElem hk])
  exact h7
theorem bs_extract (l : List UInt8) (p q : Nat) : (bs l).extract p q = bs ((l.drop p).take (q - p)) := by
 apply ByteArray.ext
 simp [bs]
theorem bs_get {l : List UInt8} {q : Nat} {x : UInt8} (hx : l[q]? = some x) : ∀ h, (bs l)[q]'h = x := by
 intro h
 obtain ⟨h1, h2⟩ := List.getElem?_eq_some_iff.1 hx
 rw [← h2]; rfl
theorem drop_mid {l : List UInt8} {p q : Nat} {x : UInt8} (hpq : p ≤ q) (hx : l[q]? = some x) : l.drop p = (l.drop p).take (q - p) ++ x :: l.drop (q + 1) := by
 have h1 : l.drop q = x :: l.drop (q + 1) := by
  obtain ⟨h1, h2⟩ := List.getElem?_eq_some_iff.1 hx
  rw [List.drop_eq_getElem_cons h1, h2]
 conv => lhs; rw [← List.take_append_drop (q - p) (l.drop p)]
 rw [List.drop_drop, show p + (q - p) = q by omega, h1]
set_option maxRecDepth 100000 in
set_option maxHeartbeats 4000000 in
theorem l01Split_any (l : List UInt8) (c : UInt8) (W : World) (hl : l.length ≤ 1048576) :
  Calls Tryd.prog 22 #[.string (bs l), .int .u8 (c.toNat : Int)] W fun e' w' => ∃ v', e' = .returned v' ∧ SW w' v' (splitL c l) ∧ Below W.heap.size W w' := by
 have hsz : (bs l).size = l.length := bs_size l
 have hown0 := own_lit0 W W.heap.size 9 1 (Nat.le_refl _)
 have hbl : Below W.heap.size W (W.alloc (.cells #[] 9)) := (Below.refl _ _).alloc (Nat.le_refl _) _
 have HO0 := Lib.hid (And.intro hown0 hbl); clear hown0 hbl
 go_enter Tryd.func22, Tryd.ntmps22
 go_wp2_with fail
 go_loopw [5, 6, 7] (fun ou fr i wr => ∃ (p q : Nat) (ws : List (List UInt8)), fr = .int .i64 p ∧ i = .int .i64 q ∧ q ≤ l.length + 1 ∧ ws.length ≤ q ∧ wr.ownsRow W.heap.size 9 1 ou ws.length (ws.map strV) ∧ Below W.heap.size W wr ∧
   ((q = l.length + 1 ∧ splitL c l = ws) ∨ (q ≤ l.length ∧ p ≤ q ∧ splitL c l = ws ++ splitL c (l.drop p) ∧ ∀ x ∈ (l.drop p).take (q - p), x ≠ c))) (fun _ _ i _ => l.length + 1 - (intOf i).toNat)
 case atStart => exact ⟨0, 0, [], rfl, rfl, Nat.zero_le _, Nat.le_refl _, HO0.out.1, HO0.out.2, .inr ⟨Nat.zero_le _, Nat.le_refl _, by simp, fun x hx => by simp at hx⟩⟩
 case round =>
  obtain ⟨p, q, ws, rfl, rfl, hq, hwl, hown, hB, hst⟩ := hrel
  have hzW := hB.size
  obtain ⟨oa, oc, rfl, ho1, ho2⟩ := own_form hown
  obtain ⟨wo, rfl⟩ : ∃ q, q = wr := ⟨_, rfl⟩
  by_cases hqq : q ≤ l.length
  ·obtain ⟨_, hpq, hsp, hno⟩ := hst.resolve_left (fun h => by omega)
   have hqd : decide (q ≤ l.length) = true := decide_eq_true hqq
   by_cases hqe : q = l.length
   ·have HS := Lib.hid (And.intro hown (And.intro hB (And.intro hsp (And.intro hno hpq)))); clear hown hB hsp hno hst
    subst hqe
    obtain ⟨s0, hs0⟩ : ∃ s0, bs (l.drop p) = s0 := ⟨_, rfl⟩
    have hex : (bs l).extract p l.length = s0 := by rw [bs_extract, ← hs0, List.take_of_length_le (by simp)]
    have hno := HS.out.2.2.2.1
    rw [List.take_of_length_le (by simp)] at hno
    have hlast : splitL c l = ws ++ [l.drop p] := by rw [HS.out.2.2.1, splitL_last hno]
    have Hl := Lib.hid (And.intro hlast hs0); clear hlast hs0 hno
    have hown := HS.out.1
    go_wp2_with ((at_builtin; refine wp_app1 _ rfl _ _ 40 rfl W.heap.size 9 (.string ⟨#[]⟩) 16 Tryd.underlying40 inf_str rfl _ _ _ rfl hown (.string s0) _ rfl rfl (by omega) (by omega) (by omega) ?_; intro v1 w1 hown1 hgrow1 hblk1 hB1); refine Hid.out ?_)
    refine Lib.hid ?_
    have HB := Lib.hid (And.intro hown1 (HS.out.2.1.trans hB1)); clear hown1 hB1 hown
    obtain ⟨na, nc, rfl, _, _⟩ := own_form HB.out.1
    go_wp2_with fail
    go_roundw
    case rel => exact ⟨l.length + 1, l.length + 1, ws ++ [l.drop p], by go_num, by go_num, Nat.le_refl _, by simp; omega, by rw [List.map_append, List.length_append]; have := HB.out.1; rw [← Hl.out.2] at this; exact this, HB.out.2, .inl ⟨rfl, Hl.out.1⟩⟩
    case measure => simp [intOf] <;> omega
   ·have HS := Lib.hid (And.intro hown (And.intro hB (And.intro hsp (And.intro hno hpq)))); clear hown hB hsp hno hst
    have hql : q < l.length := by omega
    obtain ⟨x, hx⟩ : ∃ x, l[q]? = some x := ⟨_, List.getElem?_eq_getElem hql⟩
    have hix := bs_get hx
    have hqe2 : ((q : Int) == (l.length : Int)) = false := beq_eq_false_iff_ne.2 (by omega)
    have hdr := drop_mid HS.out.2.2.2.2 hx
    by_cases hxc : x = c
    ·subst hxc
     obtain ⟨s0, hs0⟩ : ∃ s0, bs ((l.drop p).take (q - p)) = s0 := ⟨_, rfl⟩
     have hex : (bs l).extract p q = s0 := by rw [bs_extract, hs0]
     have hcut : splitL x l = (ws ++ [(l.drop p).take (q - p)]) ++ splitL x (l.drop (q + 1)) := by
      rw [HS.out.2.2.1]
      conv => lhs; rw [hdr]
      rw [splitL_pre HS.out.2.2.2.1]
      simp
     have Hl := Lib.hid (And.intro hcut hs0); clear hcut hs0 hdr hx
     have hown := HS.out.1
     go_wp2_with ((at_builtin; refine wp_app1 _ rfl _ _ 40 rfl W.heap.size 9 (.string ⟨#[]⟩) 16 Tryd.underlying40 inf_str rfl _ _ _ rfl hown (.string s0) _ rfl rfl (by omega) (by omega) (by omega) ?_; intro v1 w1 hown1 hgrow1 hblk1 hB1); refine Hid.out ?_)
     refine Lib.hid ?_
     have HB := Lib.hid (And.intro hown1 (HS.out.2.1.trans hB1)); clear hown1 hB1 hown
     obtain ⟨na, nc, rfl, _, _⟩ := own_form HB.out.1
     go_wp2_with fail
     go_roundw
     case rel => exact ⟨q + 1, q + 1, ws ++ [(l.drop p).take (q - p)], by go_num, by go_num, by omega, by simp; omega, by rw [List.map_append, List.length_append]; have := HB.out.1; rw [← Hl.out.2] at this; exact this, HB.out.2, .inr ⟨by omega, Nat.le_refl _, Hl.out.1, fun y hy => by simp at hy⟩⟩
     case measure => simp [intOf]; omega
    ·have hxc2 : ((x.toNat : Int) == (c.toNat : Int)) = false := beq_eq_false_iff_ne.2 (fun e => hxc (UInt8.toNat_inj.1 (by omega)))
     have hno2 : ∀ y ∈ (l.drop p).take (q + 1 - p), y ≠ c := fun y hy => by
      rw [show q + 1 - p = (q - p) + 1 by have := HS.out.2.2.2.2; omega, List.take_add_one] at hy
      rcases List.mem_append.1 hy with h | h
      ·exact HS.out.2.2.2.1 y h
      ·rw [List.getElem?_drop, show p + (q - p) = q by have := HS.out.2.2.2.2; omega, hx] at h
       simp at h
       subst h
       exact hxc
     have Hn := Lib.hid hno2; clear hno2 hdr hx
     go_wp2_with fail
     go_roundw
     case rel => exact ⟨p, q + 1, ws, rfl, by go_num, by omega, by omega, HS.out.1, HS.out.2.1, .inr ⟨by omega, by have := HS.out.2.2.2.2; omega, HS.out.2.2.1, Hn.out⟩⟩
     case measure => simp [intOf]; omega
  ·obtain ⟨rfl, hfin⟩ := hst.resolve_right (fun h => by omega)
   have hqd : decide (l.length + 1 ≤ l.length) = false := decide_eq_false (by omega)
   have hqd2 : ¬ ((l.length : Int) + 1 ≤ (l.length : Int)) := by omega
   have HF := Lib.hid (And.intro hfin (And.intro (SW.of_own hown rfl) hB)); clear hfin hown hB hst
   go_wp2_with fail
   go_ret
   exact ⟨_, rfl, by rw [HF.out.1]; exact HF.out.2.1, HF.out.2.2⟩
def valTo (l : List UInt8) (k : Nat) : Nat := (l.take k).foldl (fun n b => 10 * n + (b.toNat - 48)) 0
def digTo (l : List UInt8) (k : Nat) : Bool := (l.take k).all fun b => decide (48 ≤ b.toNat) && decide (b.toNat ≤ 57)
theorem take_one {l : List UInt8} {k : Nat} {x : UInt8} (hx : l[k]? = some x) : l.take (k + 1) = l.take k ++ [x] := by rw [List.take_add_one, hx]; rfl
theorem valTo_next {l : List UInt8} {k : Nat} {x : UInt8} (hx : l[k]? = some x) : valTo l (k + 1) = 10 * valTo l k + (x.toNat - 48) := by
 unfold valTo; rw [take_one hx, List.foldl_append]; rfl
theorem digTo_next {l : List UInt8} {k : Nat} {x : UInt8} (hx : l[k]? = some x) : digTo l (k + 1) = (digTo l k && (decide (48 ≤ x.toNat) && decide (x.toNat ≤ 57))) := by
 unfold digTo; rw [take_one hx, List.all_append]; simp
theorem digTo_false {l : List UInt8} {k : Nat} (h : digTo l k = false) : digB l = false := by
 unfold digTo at h
 unfold digB
 rw [← List.take_append_drop k l, List.all_append, h]; rfl
theorem valTo_lt {l : List UInt8} : ∀ {k}, k ≤ l.length → digTo l k = true → valTo l k < 10 ^ k
 | 0, _, _ => by unfold valTo; simp
 | k + 1, hk, hd => by
   obtain ⟨x, hx⟩ : ∃ x, l[k]? = some x := ⟨_, List.getElem?_eq_getElem (by omega)⟩
   rw [digTo_next hx, Bool.and_eq_true, Bool.and_eq_true, decide_eq_true_iff, decide_eq_true_iff] at hd
   have ih := valTo_lt (by omega) hd.1
   rw [valTo_next hx, Nat.pow_succ]
   omega
theorem str_eq (a b : List UInt8) : ((bs a).toList == (bs b).toList) = decide (a = b) := by
 rw [Lib.toList_data, Lib.toList_data, bs_data, bs_data]
 by_cases h : a = b
 ·subst h; simp
 ·simp [h]
set_option maxRecDepth 100000 in
set_option maxHeartbeats 4000000 in
theorem l01Value_any (l : List UInt8) (W : World) (hl : l.length ≤ 1048576) :
  Calls Tryd.prog 23 #[.string (bs l)] W fun e' w' => e' = .returned (.tuple #[.int .i64 (valR l).2, .bool (valR l).1]) ∧ Below W.heap.size W w' := by
 have hsz : (bs l).size = l.length := bs_size l
 by_cases h1 : l.length < 1
 ·have hfin : valR l = (false, 0) := by unfold valR; rw [if_pos h1]
  have Hf := Lib.hid hfin; clear hfin
  have hl0 : l.length = 0 := by omega
  go_enter Tryd.func23, Tryd.ntmps23
  go_wp2_with fail
  go_ret2
  exact ⟨by rw [Hf.out]; rfl, Below.refl _ _⟩
 ·by_cases h13 : 13 < l.length
  ·have hfin : valR l = (false, 0) := by unfold valR; rw [if_neg h1, if_pos h13]
   have Hf := Lib.hid hfin; clear hfin
   go_enter Tryd.func23, Tryd.ntmps23
   go_wp2_with fail
   go_ret2
   exact ⟨by rw [Hf.out]; rfl, Below.refl _ _⟩
  ·go_enter Tryd.func23, Tryd.ntmps23
   go_wp2_with fail
   go_loopw [4, 5] (fun nv i wr => ∃ k : Nat, k ≤ l.length ∧ i = .int .i64 k ∧ nv = .int .i64 (valTo l k : Nat) ∧ digTo l k = true ∧ wr = W) (fun _ i _ => l.length - (intOf i).toNat)
   case atStart => exact ⟨0, Nat.zero_le _, rfl, rfl, rfl, rfl⟩
   case round =>
    obtain ⟨k, hk, rfl, rfl, hdg, rfl⟩ := hrel
    have hvl := valTo_lt hk hdg
    have hp13 : 10 ^ k ≤ 10 ^ 13 := Nat.pow_le_pow_right (by decide) (by omega)
    have hp : (10 : Nat) ^ 13 = 10000000000000 := by decide
    by_cases hkk : k < l.length
    ·obtain ⟨x, hx⟩ : ∃ x, l[k]? = some x := ⟨_, List.getElem?_eq_getElem hkk⟩
     have hix := bs_get hx
     have hnext := valTo_next hx
     have hdn := digTo_next hx
     rw [hdg, Bool.true_and] at hdn
     obtain ⟨V, hV⟩ : ∃ V, valTo l k = V := ⟨_, rfl⟩
     rw [hV] at hnext hvl
     obtain ⟨y, hy⟩ : ∃ y : Nat, x.toNat = y := ⟨_, rfl⟩
     rw [hy] at hnext hdn
     have hV9 : V < 10000000000000 := by omega
     have HS := Lib.hid (And.intro hnext (And.intro hdn (And.intro hV (And.intro hx hdg)))); clear hnext hdn hx hdg hvl hp13 hp
     rw [hV]
     clear hV
     by_cases hy1 : y < 48
     ·have hbad : valR l = (false, 0) := by
       have : digB l = false := digTo_false (k := k + 1) (by rw [HS.out.2.1]; simp; omega)
       unfold valR
       rw [if_neg h1, if_neg h13, if_pos this]
      have Hb := Lib.hid hbad; clear hbad
      have hyd : decide ((y : Int) < 48) = true := decide_eq_true (by omega)
      go_wp2_with fail
      go_ret2
      exact ⟨by rw [Hb.out]; rfl, Below.refl _ _⟩
     ·have hyd : decide ((y : Int) < 48) = false := decide_eq_false (by omega)
      by_cases hy2 : 57 < y
      ·have hbad : valR l = (false, 0) := by
        have : digB l = false := digTo_false (k := k + 1) (by rw [HS.out.2.1]; simp; omega)
        unfold valR
        rw [if_neg h1, if_neg h13, if_pos this]
       have Hb := Lib.hid hbad; clear hbad
       have hyd2 : decide ((57 : Int) < (y : Int)) = true := decide_eq_true (by omega)
       go_wp2_with fail
       go_ret2
       exact ⟨by rw [Hb.out]; rfl, Below.refl _ _⟩
      ·have hyd2 : decide ((57 : Int) < (y : Int)) = false := decide_eq_false (by omega)
       obtain ⟨z, hz⟩ : ∃ z : Nat, y = z + 48 := ⟨y - 48, by omega⟩
       have hw1 : IntKind.u8.wrap ((y : Int) - 48) = (z : Int) := by
        rw [show (y : Int) - 48 = (z : Int) by omega]
        have : z = 0 ∨ z = 1 ∨ z = 2 ∨ z = 3 ∨ z = 4 ∨ z = 5 ∨ z = 6 ∨ z = 7 ∨ z = 8 ∨ z = 9 := by omega
        rcases this with rfl | rfl | rfl | rfl | rfl | rfl | rfl | rfl | rfl | rfl <;> decide
       have hw2 : IntKind.i64.wrap (10 * (V : Int)) = 10 * (V : Int) := IntWalk.i64_in _ (by omega)
       have hw3 : IntKind.i64.wrap (10 * (V : Int) + (z : Int)) = 10 * (V : Int) + (z : Int) := IntWalk.i64_in _ (by omega)
       have hw4 : IntKind.i64.wrap (z : Int) = (z : Int) := IntWalk.i64_in _ (by omega)
       have hnx : valTo l (k + 1) = 10 * V + z := by rw [HS.out.1, hz]; omega
       have hdx : digTo l (k + 1) = true := by rw [HS.out.2.1]; simp; omega
       have Hx := Lib.hid (And.intro hnx hdx); clear hnx hdx
       clear hz
       go_wp2_with fail
       go_roundw
       case rel => exact ⟨k + 1, by omega, by go_num, by rw [Hx.out.1]; go_num, Hx.out.2, trivial⟩
       case measure => simp [intOf]; omega
    ·obtain rfl : k = l.length := by omega
     have hkd : decide (l.length < l.length) = false := decide_eq_false (Nat.lt_irrefl _)
     have hvn : valTo l l.length = valN l := by unfold valTo valN; rw [List.take_length]
     have hdb : digB l = true := by have := hdg; unfold digTo at this; rwa [List.take_length] at this
     obtain ⟨V, hV⟩ : ∃ V, valTo l l.length = V := ⟨_, rfl⟩
     rw [hV] at hvl hvn
     have hfin : valR l = (((bs (decW (V : Int))).toList == (bs l).toList), (V : Int)) := by
      unfold valR
      rw [if_neg h1, if_neg h13, if_neg (by rw [hdb]; decide), ← hvn, str_eq]
      unfold decW
      rw [Int.toNat_natCast]
     have hcall := fun w : World => dec_all V (V : Int) (by omega) (by omega) (by omega) w
     obtain ⟨s0, hs0⟩ : ∃ s0, bs (decW (V : Int)) = s0 := ⟨_, rfl⟩
     simp only [hs0] at hcall hfin
     have HF := Lib.hid (And.intro hfin hcall); clear hfin hcall hs0 hdg hvl hvn hdb hp13 hp
     rw [hV]
     clear hV
     go_wp2_with fail
     refine (HF.out.2 _).mono ?_
     rintro e' w2 ⟨rfl, hb2⟩
     go_wp2_with fail
     go_ret2
     exact ⟨by rw [HF.out.1]; rfl, hb2⟩
theorem bs_toList (l : List UInt8) : (bs l).toList = l := by rw [Lib.toList_data, bs_data]
def flS (l : List (Int × Int)) : List Value := l.flatMap fun x => [.int .i64 x.1, .int .i64 x.2]
theorem flS_snoc (l : List (Int × Int)) (x : Int × Int) : flS (l ++ [x]) = flS l ++ [.int .i64 x.1, .int .i64 x.2] := by simp [flS]
theorem flS_get {l : List (Int × Int)} : ∀ {k : Nat}, k < l.length → (flS l)[k * 2]? = some (.int .i64 (gets l k).1) ∧ (flS l)[k * 2 + 1]? = some (.int .i64 (gets l k).2) := by
 induction l with
 | nil => intro k h; simp at h
 | cons x l ih =>
   intro k h
   cases k with
   | zero => exact ⟨rfl, rfl⟩
   | succ k =>
     have h1 := ih (k := k) (by simpa using h)
     have e : flS (x :: l) = .int .i64 x.1 :: .int .i64 x.2 :: flS l := rfl
     rw [e, show (k + 1) * 2 = k * 2 + 1 + 1 from by omega]
     exact h1
theorem own2_FS {w : World} {B : Nat} {v : Value} {l : List (Int × Int)} (h : w.ownsRow B 37 2 v l.length (flS l)) : FS B w v l := by
 rcases h.2 with ⟨rfl, h0⟩ | ⟨g, cap, cur, rfl, h1, h2, h3, h4, h5, h6⟩
 ·have : l = [] := List.length_eq_zero_iff.1 h0
  subst this; exact FS.nil
 ·refine ⟨g, ⟨_, _, rfl, h3, h4, fun _ => ⟨0, cur, _, rfl, h2, fun k hk => ?_⟩⟩, fun _ => h1⟩
  have h7 := flS_get hk
  rw [← h6, List.getElem?_take, List.getElem?_take, if_pos (by omega), if_pos (by omega), Array.getElem?_toList, Array.getElem?_toList] at h7
  rw [Nat.zero_add]; exact h7
theorem own2_FSn {w : World} {B n : Nat} {v : Value} {l : List (Int × Int)} (h : w.ownsRow B 37 2 v n (flS l)) (hn : l.length = n) : FS B w v l := by subst hn; exact own2_FS h
theorem own2_form {w : World} {B z : Nat} {e : TypeId} {v : Value} {n : Nat} {xs : List Value} (h : w.ownsRow B e z v n xs) : ∃ a c, v = .slice a n c ∧ n ≤ c ∧ c ≤ maxLen := by
 rcases h.2 with ⟨rfl, h0⟩ | ⟨g, cap, cur, rfl, h1, h2, h3, h4, _⟩
 ·subst h0; exact ⟨_, _, rfl, Nat.le_refl _, Nat.zero_le _⟩
 ·exact ⟨_, _, rfl, h3, h4⟩
theorem own2_keep {w w' : World} {B z : Nat} {e : TypeId} {v : Value} {n : Nat} {xs : List Value} (h : w.ownsRow B e z v n xs) (hb : Below w.heap.size w w') : w'.ownsRow B e z v n xs := by
 refine ⟨h.1, ?_⟩
 rcases h.2 with h0 | ⟨g, cap, cur, rfl, h1, h2, h3⟩
 ·exact .inl h0
 ·exact .inr ⟨g, cap, cur, rfl, h1, by rw [hb.block _ (lt_of_heap h2)]; exact h2, h3⟩
theorem SW.cell {w : World} {a : Option Addr} {n c k : Nat} {ws : List (List UInt8)} (h : SW w (.slice a n c) ws) (hk : k < ws.length) : ∃ g off, a = some ⟨g, off, none⟩ ∧ n = ws.length ∧ w.cell? ⟨g, off + k, none⟩ = some (.string (bs (getw ws k))) := by
 obtain ⟨a', c', e, h⟩ := h
 cases e
 obtain ⟨g, off, h1, h2⟩ := h k hk
 exact ⟨g, off, h1, rfl, h2⟩
theorem SW.form {w : World} {v : Value} {ws : List (List UInt8)} (h : SW w v ws) : ∃ a c, v = .slice a ws.length c := by
 obtain ⟨a, c, rfl, _⟩ := h; exact ⟨a, c, rfl⟩
theorem split_len (c : UInt8) : ∀ l, (splitL c l).length ≤ l.length + 1
 | [] => by simp [splitL]
 | x :: r => by
   have ih := split_len c r
   rw [splitL_cons]
   split
   ·simp; omega
   ·split
    ·simp
    ·rename_i h
     rw [h] at ih
     simp at ih ⊢; omega
theorem split_word (c : UInt8) : ∀ l k, (getw (splitL c l) k).length ≤ l.length
 | [], k => by cases k <;> simp [splitL, getw]
 | x :: r, k => by
   have ih := split_word c r
   rw [splitL_cons]
   split
   ·cases k with
    | zero => simp [getw]
    | succ k => have := ih k; show (getw (splitL c r) k).length ≤ _; simp; omega
   ·split
    ·cases k <;> simp [getw]
    ·rename_i w ws h
     rw [h] at ih
     cases k with
     | zero => have := ih 0; show (x :: w).length ≤ _; simp; exact this
     | succ k => have := ih (k + 1); show (getw ws k).length ≤ _; simp; exact Nat.le_succ_of_le this
set_option maxRecDepth 100000 in
set_option maxHeartbeats 8000000 in
theorem ParseStepsR_any (t : List UInt8) (W : World) (hl : t.length ≤ 1048576) :
  Calls Tryd.prog 10 #[.string (bs t)] W fun e' w' => ∃ v', e' = .returned (.tuple #[v', .int .i64 (psAns t).2]) ∧ FS W.heap.size w' v' (psAns t).1 ∧ Below W.heap.size W w' := by
 by_cases ht : t = []
 ·subst ht
  have hans : psAns [] = ([], 0) := rfl
  have H := Lib.hid hans; clear hans
  have he : bs [] = (ByteArray.mk #[]) := rfl
  rw [he]
  clear he
  go_enter Tryd.func10, Tryd.ntmps10
  go_wp2_with fail
  go_ret2
  exact ⟨_, by rw [H.out]; rfl, by rw [H.out]; exact own2_FS (own_lit0 W W.heap.size 37 2 (Nat.le_refl _)), (Below.refl _ _).alloc (Nat.le_refl _) _⟩
 ·have hne : (bs t).toList.isEmpty = false := by
   rw [bs_toList]
   cases t with
   | nil => exact absurd rfl ht
   | cons x r => rfl
  obtain ⟨ws, hws⟩ : ∃ ws, splitL 32 t = ws := ⟨_, rfl⟩
  have hsp : ∀ W : World, Calls Tryd.prog 22 #[.string (bs t), .int .u8 32] W fun e' w' => ∃ v', e' = .returned v' ∧ SW w' v' (splitL 32 t) ∧ Below W.heap.size W w' := fun W => l01Split_any t 32 W hl
  have hwl := split_len 32 t
  have hww := split_word 32 t
  simp only [hws] at hsp
  rw [hws] at hwl hww
  have HW := Lib.hid (And.intro hws (And.intro hsp hww)); clear hws hsp hww
  go_enter Tryd.func10, Tryd.ntmps10
  go_wp2_with fail
  refine (HW.out.2.1 _).mono ?_
  rintro e' w2 ⟨wv, rfl, hwv, hb2⟩
  obtain ⟨wa, wc, rfl⟩ := hwv.form
  have hown0 := own_lit0 w2 w2.heap.size 37 2 (Nat.le_refl _)
  have hbl : Below w2.heap.size w2 (w2.alloc (.cells #[] 37)) := (Below.refl _ _).alloc (Nat.le_refl _) _
  have H0 := Lib.hid (And.intro hown0 (And.intro hbl (And.intro hwv hb2))); clear hown0 hbl hb2 hwv
  have hz2 := H0.out.2.2.2.size
  go_wp2_with fail
  go_loopw [5, 6] (fun ou i wr => ∃ k : Nat, k ≤ ws.length ∧ i = .int .i64 k ∧ okTo pstR ws k = true ∧ wr.ownsRow w2.heap.size 37 2 ou k (flS (outTo pstR ws k)) ∧ Below w2.heap.size w2 wr) (fun _ i _ => ws.length - (intOf i).toNat)
  case atStart => exact ⟨0, Nat.zero_le _, rfl, rfl, H0.out.1, H0.out.2.1⟩
  case round =>
   obtain ⟨k, hk, rfl, hok, hown, hB⟩ := hrel
   have hzW := hB.size
   obtain ⟨oa, oc, rfl, _, _⟩ := own2_form hown
   obtain ⟨wo, rfl⟩ : ∃ q, q = wr := ⟨_, rfl⟩
   have hwv := H0.out.2.2.1.below hB
   by_cases hkk : k < ws.length
   ·obtain ⟨g, off, rfl, _, hcw⟩ := hwv.cell hkk
    have hkn : ¬ ws.length ≤ k := by omega
    have hkd : decide (k < ws.length) = true := decide_eq_true hkk
    obtain ⟨w, hw⟩ : ∃ w, getw ws k = w := ⟨_, rfl⟩
    have hoks : okTo pstR ws (k + 1) = (pstR w).1 := by rw [← hw]; unfold okTo; rw [hok]; rfl
    have houts : outTo pstR ws (k + 1) = outTo pstR ws k ++ [(pstR w).2] := by rw [← hw]; rfl
    have hlw : w.length ≤ 1048576 := by rw [← hw]; have := HW.out.2.2 k; omega
    rw [hw] at hcw
    have HS := Lib.hid (And.intro hoks (And.intro houts (And.intro hown hB))); clear hoks houts hw hown hwv hB hok
    by_cases hplus : w = [43]
    ·have hpl : ((bs w).toList == [43]) = true := by rw [bs_toList, hplus]; rfl
     have hst : pstR w = (true, (-1, 0)) := by unfold pstR; rw [if_pos hplus]
     have Hst := Lib.hid hst; clear hst
     have hown5 := HS.out.2.2.1
     have hB5 := HS.out.2.2.2
     clear hplus
     have hz5 := hB5.size
     have hzA : (wo.alloc (.cells #[.int .i64 (-1), .int .i64 (0)] 37)).heap.size = wo.heap.size + 1 := by simp
     go_wp2_with (at_builtin; refine wp_app rfl _ _ 26 rfl w2.heap.size 37 (.agg #[.int .i64 0, .int .i64 0]) 2 16 Tryd.underlying26 inf_step rfl (by omega) _ _ _ rfl (hown5.alloc _) ⟨_, 0, none⟩ 1 1 [.int .i64 (-1), .int .i64 (0)] rfl rfl (World.news_of_block (heap_alloc_new _ _)) (by simp [Value.oneCell']) (by unfold maxLen; omega) (by omega) (by omega) ?_; intro v8 w8 hown8 hgrow8 hblk8; refine Hid.out ?_)
     refine Lib.hid ?_
     have hB8 : Below w2.heap.size w2 w8 := (hB5.alloc hz5 _).grown hgrow8 (by omega) (fun g hg => (hown5.lt g hg).1)
     have HB := Lib.hid (And.intro hown8 hB8); clear hown8 hgrow8 hblk8 hB8 hown5 hB5 hzA
     obtain ⟨na, nc, rfl, _, _⟩ := own2_form HB.out.1
     go_wp2_with fail
     go_roundw
     case rel => exact ⟨k + 1, by omega, by go_num, by rw [HS.out.1, Hst.out], by rw [HS.out.2.1, flS_snoc, Hst.out]; exact HB.out.1, HB.out.2⟩
     case measure => simp [intOf]; omega
    ·have hpl : ((bs w).toList == [43]) = false := by rw [bs_toList]; simp [hplus]
     have hspw : ∀ W : World, Calls Tryd.prog 22 #[.string (bs w), .int .u8 47] W fun e' w' => ∃ v', e' = .returned v' ∧ SW w' v' (splitL 47 w) ∧ Below W.heap.size W w' := fun W => l01Split_any w 47 W hlw
     have hpw := split_word 47 w
     obtain ⟨ps, hps⟩ : ∃ ps, splitL 47 w = ps := ⟨_, rfl⟩
     simp only [hps] at hspw
     rw [hps] at hpw
     have hunf : pstR w = pairR ps := by rw [pstR_pair hplus, hps]
     have HP := Lib.hid (And.intro hspw (And.intro hpw hunf)); clear hspw hpw hunf hps hplus
     by_cases h2 : ps.length = 2
     ·obtain ⟨p0, p1, rfl⟩ := two_of h2
      have hl0 : p0.length ≤ 1048576 := by have := HP.out.2.1 0; have : p0.length ≤ w.length := this; omega
      have hl1 : p1.length ≤ 1048576 := by have := HP.out.2.1 1; have : p1.length ≤ w.length := this; omega
      obtain ⟨r0, hr0⟩ : ∃ r, valR p0 = r := ⟨_, rfl⟩
      obtain ⟨r1, hr1⟩ : ∃ r, valR p1 = r := ⟨_, rfl⟩
      have hC0 := fun w : World => l01Value_any p0 w hl0
      have hC1 := fun w : World => l01Value_any p1 w hl1
      simp only [hr0] at hC0
      simp only [hr1] at hC1
      have hst : pstR w = (r0.1 && r1.1, (r0.2, r1.2)) := by rw [HP.out.2.2, ← hr0, ← hr1]; rfl
      have Hst := Lib.hid (And.intro hst (And.intro hC0 hC1)); clear hst hC0 hC1 hr0 hr1 hl0 hl1
      go_wp2_with fail
      refine (HP.out.1 _).mono ?_
      rintro e' w3 ⟨pv, rfl, hpv, hb3⟩
      obtain ⟨pa, pc, rfl⟩ := hpv.form
      obtain ⟨pg, po, rfl, _, hc0⟩ := hpv.cell (k := 0) (by simp)
      obtain ⟨pg', po', e, _, hc1⟩ := hpv.cell (k := 1) (by simp)
      cases e
      have hc0 : w3.cell? ⟨pg, po, none⟩ = some (.string (bs p0)) := hc0
      have hc1 : w3.cell? ⟨pg, po + 1, none⟩ = some (.string (bs p1)) := hc1
      have Hb3 := Lib.hid hb3; clear hb3 hpv hcw
      go_wp2_with fail
      refine (Hst.out.2.1 _).mono ?_
      rintro e' w4 ⟨rfl, hb4⟩
      have hc1' := cell_keep hc1 (hb4.block _ (lt_of_cell hc1))
      have Hb4 := Lib.hid hb4; clear hb4 hc0 hc1
      go_wp2_with fail
      refine (Hst.out.2.2 _).mono ?_
      rintro e' w5 ⟨rfl, hb5⟩
      have hb05 : Below wo.heap.size wo w5 := Hb3.out.trans ((Hb4.out.trans (hb5.mono Hb4.out.size)).mono Hb3.out.size)
      have hown5 := own2_keep HS.out.2.2.1 hb05
      have hB5 : Below w2.heap.size w2 w5 := HS.out.2.2.2.trans (hb05.mono hzW)
      clear hc1' hb5
      cases h0 : r0.1
      ·have hst2 : (pstR w).1 = false := by rw [Hst.out.1, h0]; rfl
       have H0f := Lib.hid (And.intro h0 hst2); clear h0 hst2
       have hbad : psAns t = ([], 6) := by
        unfold psAns
        rw [if_neg ht, HW.out.1]
        rw [if_pos (ok_false (k := k + 1) (by rw [HS.out.1, H0f.out.2]) _ (by omega))]
       have Hbad := Lib.hid hbad; clear hbad
       go_wp2_with fail
       go_ret2
       exact ⟨_, by rw [Hbad.out]; rfl, by rw [Hbad.out]; exact FS.nil, H0.out.2.2.2.trans (hB5.mono hz2)⟩
      ·cases h1 : r1.1
       ·have hst2 : (pstR w).1 = false := by rw [Hst.out.1, h0, h1]; rfl
        have H0f := Lib.hid (And.intro h0 (And.intro h1 hst2)); clear h0 h1 hst2
        have hbad : psAns t = ([], 6) := by
         unfold psAns
         rw [if_neg ht, HW.out.1]
         rw [if_pos (ok_false (k := k + 1) (by rw [HS.out.1, H0f.out.2.2]) _ (by omega))]
        have Hbad := Lib.hid hbad; clear hbad
        go_wp2_with fail
        go_ret2
        exact ⟨_, by rw [Hbad.out]; rfl, by rw [Hbad.out]; exact FS.nil, H0.out.2.2.2.trans (hB5.mono hz2)⟩
       ·have hst2 : pstR w = (true, (r0.2, r1.2)) := by rw [Hst.out.1, h0, h1]; rfl
        have H0f := Lib.hid (And.intro h0 (And.intro h1 hst2)); clear h0 h1 hst2
        have hz5 := hB5.size
        have hzA : (w5.alloc (.cells #[.int .i64 (r0.2), .int .i64 (r1.2)] 37)).heap.size = w5.heap.size + 1 := by simp
        go_wp2_with (at_builtin; refine wp_app rfl _ _ 26 rfl w2.heap.size 37 (.agg #[.int .i64 0, .int .i64 0]) 2 16 Tryd.underlying26 inf_step rfl (by omega) _ _ _ rfl (hown5.alloc _) ⟨_, 0, none⟩ 1 1 [.int .i64 (r0.2), .int .i64 (r1.2)] rfl rfl (World.news_of_block (heap_alloc_new _ _)) (by simp [Value.oneCell']) (by unfold maxLen; omega) (by omega) (by omega) ?_; intro v8 w8 hown8 hgrow8 hblk8; refine Hid.out ?_)
        refine Lib.hid ?_
        have hB8 : Below w2.heap.size w2 w8 := (hB5.alloc hz5 _).grown hgrow8 (by omega) (fun g hg => (hown5.lt g hg).1)
        have HB := Lib.hid (And.intro hown8 hB8); clear hown8 hgrow8 hblk8 hB8 hown5 hB5 hzA
        obtain ⟨na, nc, rfl, _, _⟩ := own2_form HB.out.1
        go_wp2_with fail
        go_roundw
        case rel => exact ⟨k + 1, by omega, by go_num, by rw [HS.out.1, H0f.out.2.2], by rw [HS.out.2.1, flS_snoc, H0f.out.2.2]; exact HB.out.1, HB.out.2⟩
        case measure => simp [intOf]; omega
     ·have hst : (pstR w).1 = false := by rw [HP.out.2.2]; exact pairR_ne h2
      have Hst := Lib.hid hst; clear hst
      have hbad : psAns t = ([], 6) := by
       unfold psAns
       rw [if_neg ht, HW.out.1]
       rw [if_pos (ok_false (k := k + 1) (by rw [HS.out.1, Hst.out]) _ (by omega))]
      have Hbad := Lib.hid hbad; clear hbad
      have h2d : ((ps.length : Int) != 2) = true := by simp; omega
      have h2e : ¬ ((ps.length : Int) = 2) := by omega
      go_wp2_with fail
      refine (HP.out.1 _).mono ?_
      rintro e' w3 ⟨pv, rfl, hpv, hb3⟩
      obtain ⟨pa, pc, rfl⟩ := hpv.form
      have hB3 : Below w2.heap.size w2 w3 := HS.out.2.2.2.trans (hb3.mono hzW)
      clear hpv hcw
      go_wp2_with fail
      go_ret2
      exact ⟨_, by rw [Hbad.out]; rfl, by rw [Hbad.out]; exact FS.nil, H0.out.2.2.2.trans (hB3.mono hz2)⟩
   ·obtain rfl : k = ws.length := by omega
    have hkd : decide (ws.length < ws.length) = false := decide_eq_false (Nat.lt_irrefl _)
    obtain ⟨ol, hol⟩ : ∃ ol, outTo pstR ws ws.length = ol := ⟨_, rfl⟩
    have hll : ol.length = ws.length := by rw [← hol]; exact out_len _
    rw [hol] at hown
    have hfs := own2_FSn hown hll
    have hcode := l19Code_any _ ol wo (hfs.vs)
    obtain ⟨cd, hcd⟩ : ∃ cd, codeS ol = cd := ⟨_, rfl⟩
    rw [hcd] at hcode
    have HC := Lib.hid (And.intro hfs (And.intro hB (And.intro hcode (And.intro hok (And.intro hol hcd))))); clear hfs hB hcode hok hol hcd hown hwv hll
    by_cases hc0 : cd = 0
    ·have hans : psAns t = (ol, 0) := by
      unfold psAns
      rw [if_neg ht, HW.out.1, if_neg (by rw [HC.out.2.2.2.1]; decide), HC.out.2.2.2.2.1, HC.out.2.2.2.2.2, if_neg (by simp [hc0])]
     have Ha := Lib.hid hans; clear hans
     subst hc0
     go_wp2_with fail
     refine HC.out.2.2.1.mono ?_
     rintro e' w6 ⟨rfl, hb6⟩
     have Hb6 := Lib.hid hb6; clear hb6
     go_wp2_with fail
     go_ret2
     exact ⟨_, by rw [Ha.out]; rfl, by rw [Ha.out]; exact (HC.out.1.below Hb6.out).mono hz2, H0.out.2.2.2.trans ((HC.out.2.1.trans (Hb6.out.mono hzW)).mono hz2)⟩
    ·have hans : psAns t = ([], 6) := by
      unfold psAns
      rw [if_neg ht, HW.out.1, if_neg (by rw [HC.out.2.2.2.1]; decide), HC.out.2.2.2.2.1, HC.out.2.2.2.2.2, if_pos hc0]
     have Ha := Lib.hid hans; clear hans
     have hcdd : (cd != 0) = true := by simp [hc0]
     clear hc0
     go_wp2_with fail
     refine HC.out.2.2.1.mono ?_
     rintro e' w6 ⟨rfl, hb6⟩
     have Hb6 := Lib.hid hb6; clear hb6
     go_wp2_with fail
     go_ret2
     exact ⟨_, by rw [Ha.out]; rfl, by rw [Ha.out]; exact FS.nil, H0.out.2.2.2.trans ((HC.out.2.1.trans (Hb6.out.mono hzW)).mono hz2)⟩
end Go.Proofs.YtmjplkbmhdkggaaDoor
