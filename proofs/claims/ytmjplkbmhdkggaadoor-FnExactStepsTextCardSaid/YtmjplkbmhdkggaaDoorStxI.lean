/- Steps as text: the program. No conditions. -/
import Derived.Maps.AppendAt
import Derived.Test.YtmjplkbmhdkggaaDoorMStxC
namespace Go.Proofs.YtmjplkbmhdkggaaDoor
open Go.RowKit
set_option linter.unusedVariables false
set_option linter.unusedSimpArgs false
theorem inf_str : (Tryd.prog.info? 9).map (fun i => (i.zero, i.size, i.bytes)) = some (some (.string ⟨#[]⟩), 1, 16) := by kernel_rfl
def strV (b : List UInt8) : Value := .string (bs b)
theorem own_cellS {w : World} {B : Nat} {e : TypeId} {g n c : Nat} {vs : List Value} (h : w.ownsRow B e 1 (.slice (some ⟨g, 0, none⟩) n c) n vs) : g < w.heap.size ∧ n ≤ c ∧ ∀ j u, vs[j]? = some u → w.cell? ⟨g, 0 + j, none⟩ = some u := by
 rcases h.2 with ⟨e1, _⟩ | ⟨g', cap, cur, e1, h1, h2, h3, h4, h5, h6⟩
 ·cases e1
 ·cases e1
  refine ⟨lt_of_heap h2, h3, fun j u hj => ?_⟩
  rw [cell_of_block h2, Nat.zero_add, ← Array.getElem?_toList]
  rw [← h6, List.getElem?_take] at hj
  split at hj
  ·exact hj
  ·cases hj
theorem join_words (l : List (Int × Int)) {W0 wo : World} {oa : Option Addr} {oc n : Nat} {ws : List (List UInt8)} (hown : wo.ownsRow W0.heap.size 9 1 (.slice oa n oc) n (ws.map strV)) (hjl : (Lib.join ws [32]).length ≤ 140737488355328) (hwl : ws.length = n) (hn9 : n ≤ 140737488355328) :
  Calls Tryd.prog 20 #[.slice oa n oc, .string { data := #[32] }] wo fun e w' => e = .returned (.string (bs (Lib.join ws [32]))) ∧ Below wo.heap.size wo w' := by
 have hsep : (ByteArray.mk #[32]).data.toList = [32] := rfl
 by_cases hn : n = 0
 ·have hw0 : ws = [] := List.length_eq_zero_iff.1 (by omega)
  subst hw0
  subst hn
  refine (Go.Proofs.Tryd.strings_Join_none oa oc { data := #[32] } wo).mono ?_
  rintro e w ⟨he, hw⟩
  rw [Lib.join_nil]
  subst hw
  exact ⟨he, Below.refl _ _⟩
 ·rcases hown.2 with ⟨e1, e2⟩ | ⟨g, cap, cur, e1, _⟩
  ·exact absurd e2 hn
  ·cases e1
   obtain ⟨h1, h2, h3⟩ := own_cellS hown
   have hxs : (ws.map bs).length = n := by rw [List.length_map]; exact hwl
   have hmap : (ws.map bs).map (·.data.toList) = ws := by
    rw [List.map_map]
    conv => rhs; rw [← List.map_id ws]
    rfl
   have hJ := Go.Proofs.Tryd.strings_Join g 0 oc (ws.map bs) { data := #[32] } wo (fun j x hj => h3 j (.string x) (by
    rw [List.getElem?_map] at hj ⊢
    cases hw : ws[j]? with
    | none => rw [hw] at hj; cases hj
    | some y => rw [hw] at hj; cases hj; rfl)) h1 (by rw [hxs]; exact hn9) (by rw [hxs]; exact h2) (by rw [hmap, hsep]; exact hjl)
   rw [hmap, hxs, hsep] at hJ
   exact hJ
set_option maxRecDepth 100000 in
set_option maxHeartbeats 8000000 in
theorem StepsText_any {S : Nat → Prop} (v : Value) (l : List (Int × Int)) (W : World) (h : VS S W v l) (hlen : l.length ≤ 100000000) :
  Calls Tryd.prog 8 #[v] W fun e' w' => e' = .returned (.tuple #[.string (bs (stxAns l).1), .int .i64 (stxAns l).2]) ∧ Below W.heap.size W w' := by
 have hV := h
 obtain ⟨a, c, rfl, hm⟩ := h.form
 obtain ⟨i0, gi, gz0, gz1, gz2⟩ := info_parts inf_str
 have hown0 := own_lit0 W W.heap.size 9 1 (Nat.le_refl _)
 have hbl : Below W.heap.size W (W.alloc (.cells #[] 9)) := (Below.refl _ _).alloc (Nat.le_refl _) _
 have HO0 := Lib.hid (And.intro hown0 hbl); clear hown0 hbl
 go_enter Tryd.func8, Tryd.ntmps8
 go_wp2_with fail
 go_loopw [4, 10] (fun ov i wr => ∃ k : Nat, k ≤ l.length ∧ i = .int .i64 k ∧ fitTo l k = true ∧ wr.ownsRow W.heap.size 9 1 ov k ((wordsTo l k).map strV) ∧ Below W.heap.size W wr) (fun _ i _ => l.length - (intOf i).toNat)
 case atStart => exact ⟨0, Nat.zero_le _, rfl, rfl, HO0.out.1, HO0.out.2⟩
 case round =>
  obtain ⟨k, hk, rfl, hft, hown, hB⟩ := hrel
  have hzW := hB.size
  obtain ⟨oa, oc, rfl, ho1, ho2⟩ := own_form hown
  obtain ⟨wo, rfl⟩ : ∃ q, q = wr := ⟨_, rfl⟩
  by_cases hkk : k < l.length
  ·obtain ⟨b1, off1, rfl, _, hc1, hc2⟩ := (hV.below hB).cell hkk
   have hkn : ¬ l.length ≤ k := by omega
   have hkd : decide (k < l.length) = true := decide_eq_true hkk
   have hwstep : wordsTo l (k + 1) = wordsTo l k ++ [wordS (gets l k)] := rfl
   have hfstep : fitTo l (k + 1) = fitS (gets l k) := by unfold fitTo; rw [hft]; rfl
   obtain ⟨x, hx⟩ : ∃ x, gets l k = x := ⟨_, rfl⟩
   rw [hx] at hc1 hc2 hwstep hfstep
   have HS := Lib.hid (And.intro hwstep (And.intro hfstep (And.intro hx (And.intro hown hB)))); clear hwstep hfstep hx hft hown hB
   obtain ⟨wx, hwx, hBx, hzx, HZx, hcx, hhx⟩ := box_facts wo #[.int .i64 x.1, .int .i64 x.2] 37
   cases ho : openS x
   ·have HO := Lib.hid ho; clear ho
    cases h1 : inB x.1 0 9
    ·have H1 := Lib.hid h1; clear h1
     have hbad : stxAns l = ([], 2) := by
      have h2 : fitTo l (k + 1) = false := by rw [HS.out.2.1]; unfold fitS; rw [HO.out, H1.out]; rfl
      unfold stxAns
      rw [if_pos (fitTo_false h2 _ (by omega))]
     have Hbad := Lib.hid hbad; clear hbad
     go_wp2_with fail
     rw [← hwx]
     refine (isOpenStep_b x _ _ HO.out).mono ?_
     rintro e' w2 ⟨rfl, hb2⟩
     have hb02 := hBx.trans (hb2.mono hBx.size)
     have hz02 := hb02.size
     have hown2 := own_chg HS.out.2.2.2.1 (Chg.of_below (F := fun _ => False) hb02) (fun _ _ h => h)
     have hcx2 : ∀ o, w2.cell? ⟨wo.heap.size, o, none⟩ = (#[.int .i64 x.1, .int .i64 x.2] : Array Value)[o]? := fun o => by rw [(bcell hb2).1 _ _ hzx, hcx]
     clear hc1 hc2 hcx hhx
     go_wp2_with (go_at_call 18; refine (within_b x.1 0 9 _ _ H1.out).mono ?_; rintro e' w'' ⟨rfl, rfl⟩)
     go_ret2
     exact ⟨by rw [Hbad.out]; rfl, HS.out.2.2.2.2.trans (hb02.mono hzW)⟩
    ·have H1 := Lib.hid h1; clear h1
     cases h2 : inB x.2 0 11
     ·have H2 := Lib.hid h2; clear h2
      have hbad : stxAns l = ([], 2) := by
       have h2 : fitTo l (k + 1) = false := by rw [HS.out.2.1]; unfold fitS; rw [HO.out, H1.out, H2.out]; rfl
       unfold stxAns
       rw [if_pos (fitTo_false h2 _ (by omega))]
      have Hbad := Lib.hid hbad; clear hbad
      go_wp2_with fail
      rw [← hwx]
      refine (isOpenStep_b x _ _ HO.out).mono ?_
      rintro e' w2 ⟨rfl, hb2⟩
      have hb02 := hBx.trans (hb2.mono hBx.size)
      have hz02 := hb02.size
      have hown2 := own_chg HS.out.2.2.2.1 (Chg.of_below (F := fun _ => False) hb02) (fun _ _ h => h)
      have hcx2 : ∀ o, w2.cell? ⟨wo.heap.size, o, none⟩ = (#[.int .i64 x.1, .int .i64 x.2] : Array Value)[o]? := fun o => by rw [(bcell hb2).1 _ _ hzx, hcx]
      clear hc1 hc2 hcx hhx
      go_wp2_with (first | (go_at_call 18; with_reducible refine (within_b x.1 0 9 _ _ H1.out).mono ?_; rintro e' w'' ⟨rfl, rfl⟩) | (go_at_call 18; with_reducible refine (within_b x.2 0 11 _ _ H2.out).mono ?_; rintro e' w'' ⟨rfl, rfl⟩))
      go_ret2
      exact ⟨by rw [Hbad.out]; rfl, HS.out.2.2.2.2.trans (hb02.mono hzW)⟩
     ·have H2 := Lib.hid h2; clear h2
      have hr1 := inB_iff.1 H1.out
      have hr2 := inB_iff.1 H2.out
      have hw : wordS x = decW x.1 ++ [47] ++ decW x.2 := by unfold wordS; rw [HO.out]; rfl
      have hd1 := dec_small hr1.1 (Int.le_trans hr1.2 (by omega))
      have hd2 := dec_small hr2.1 hr2.2
      have hC1 := fun w => text_small x.1 hr1.1 (Int.le_trans hr1.2 (by omega)) w
      have hC2 := fun w => text_small x.2 hr2.1 hr2.2 w
      obtain ⟨d1, hd1e⟩ : ∃ d, bs (decW x.1) = d := ⟨_, rfl⟩
      obtain ⟨d2, hd2e⟩ : ∃ d, bs (decW x.2) = d := ⟨_, rfl⟩
      obtain ⟨s2, hs2⟩ : ∃ s, bs (decW x.1 ++ [47]) = s := ⟨_, rfl⟩
      obtain ⟨s3, hs3⟩ : ∃ s, bs (decW x.1 ++ [47] ++ decW x.2) = s := ⟨_, rfl⟩
      have ha2 : d1 ++ ({ data := #[47] } : ByteArray) = s2 := by rw [← hd1e, ← hs2]; exact bs_app _ [47]
      have ha3 : s2 ++ d2 = s3 := by rw [← hs2, ← hd2e, ← hs3]; exact bs_app _ _
      have hq1 : d1.size ≤ 2 := by rw [← hd1e, bs_size]; omega
      have hq2 : d2.size ≤ 2 := by rw [← hd2e, bs_size]; omega
      have hz3 : s2.size ≤ 100 := by rw [← hs2, bs_size, List.length_append]; simp; omega
      have hg2 : ¬ 9223372036854775807 < d1.size + 1 := by omega
      have hg3 : ¬ 9223372036854775807 < s2.size + d2.size := by omega
      have hnx : (wordsTo l (k + 1)).map strV = (wordsTo l k).map strV ++ [.string s3] := by
       rw [HS.out.1, hw, List.map_append, ← hs3]; rfl
      simp only [hd1e] at hC1
      simp only [hd2e] at hC2
      have HX := Lib.hid (And.intro hnx (And.intro hC1 hC2)); clear hr1 hr2 hnx hd1 hd2 hw hC1 hC2 hd1e hd2e hs2 hs3
      go_wp2_with fail
      rw [← hwx]
      refine (isOpenStep_b x _ _ HO.out).mono ?_
      rintro e' w2 ⟨rfl, hb2⟩
      have hb02 := hBx.trans (hb2.mono hBx.size)
      have hz02 := hb02.size
      have hown2 := own_chg HS.out.2.2.2.1 (Chg.of_below (F := fun _ => False) hb02) (fun _ _ h => h)
      have hcx2 : ∀ o, w2.cell? ⟨wo.heap.size, o, none⟩ = (#[.int .i64 x.1, .int .i64 x.2] : Array Value)[o]? := fun o => by rw [(bcell hb2).1 _ _ hzx, hcx]
      clear hc1 hc2 hcx hhx
      have hS2 : w2.cell? ⟨wo.heap.size, 0, none⟩ = some (.int .i64 x.1) ∧ w2.cell? ⟨wo.heap.size, 1, none⟩ = some (.int .i64 x.2) := ⟨hcx2 0, hcx2 1⟩
      go_wp2_with (first | (go_at_call 18; with_reducible refine (within_b x.1 0 9 _ _ H1.out).mono ?_; rintro e' w'' ⟨rfl, rfl⟩) | (go_at_call 18; with_reducible refine (within_b x.2 0 11 _ _ H2.out).mono ?_; rintro e' w'' ⟨rfl, rfl⟩))
      clear hcx2
      refine wp_region_noPanic ?_
      refine wp_region_held_drew (S := fun w' => w'.cell? ⟨wo.heap.size, 0, none⟩ = some (.int .i64 x.1) ∧ w'.cell? ⟨wo.heap.size, 1, none⟩ = some (.int .i64 x.2)) (by kernel_rfl) ⟨cell_keep hS2.1 rfl, cell_keep hS2.2 rfl⟩ (fun hHeld => ?_)
      (refine wpAnyH_take (i := 0) (v := .slice oa k oc) rfl (by kernel_rfl) (by kernel_rfl) (by kernel_rfl) (fun _ _ _ h => h) (Or.inl ⟨by kernel_rfl, fun w hSw => by (try dsimp only at hSw); go_split_ands; go_simp⟩) (by assumption) ?_; simp only [Act.put, List.setIfInBounds_toArray, List.set_cons_zero, List.set_cons_succ])
      (refine wpAnyH_take (i := 1) (v := .pointer (some ⟨wo.heap.size, 0, none⟩)) rfl (by kernel_rfl) (by kernel_rfl) (by kernel_rfl) (fun _ _ _ h => h) (Or.inl ⟨by kernel_rfl, fun w hSw => by (try dsimp only at hSw); go_split_ands; go_simp⟩) (by assumption) ?_; simp only [Act.put, List.setIfInBounds_toArray, List.set_cons_zero, List.set_cons_succ])
      (refine wpAnyH_take (i := 2) (v := .int .i64 x.1) rfl (by kernel_rfl) (by kernel_rfl) (by kernel_rfl) (fun _ _ _ h => h) (Or.inl ⟨by kernel_rfl, fun w hSw => by (try dsimp only at hSw); go_split_ands; go_simp⟩) (by assumption) ?_; simp only [Act.put, List.setIfInBounds_toArray, List.set_cons_zero, List.set_cons_succ])
      (refine wpAnyH_take (i := 5) (v := .pointer (some ⟨wo.heap.size, 1, none⟩)) rfl (by kernel_rfl) (by kernel_rfl) (by kernel_rfl) (fun _ _ _ h => h) (Or.inl ⟨by kernel_rfl, fun w hSw => by (try dsimp only at hSw); go_split_ands; go_simp⟩) (by assumption) ?_; simp only [Act.put, List.setIfInBounds_toArray, List.set_cons_zero, List.set_cons_succ])
      (refine wpAnyH_take (i := 6) (v := .int .i64 x.2) rfl (by kernel_rfl) (by kernel_rfl) (by kernel_rfl) (fun _ _ _ h => h) (Or.inl ⟨by kernel_rfl, fun w hSw => by (try dsimp only at hSw); go_split_ands; go_simp⟩) (by assumption) ?_; simp only [Act.put, List.setIfInBounds_toArray, List.set_cons_zero, List.set_cons_succ])
      have hb2d : Below w2.heap.size w2 w2.drew := (Below.refl _ _).drew
      have hownd := own_chg hown2 (Chg.of_below (F := fun _ => False) hb2d) (fun _ _ h => h)
      obtain ⟨wd, hwd⟩ : ∃ wd, wd = w2.drew := ⟨_, rfl⟩
      rw [← hwd] at hHeld hb2d hownd ⊢
      clear hwd hS2 hown2
      refine wpAnyH_ready (rs := [3]) (by kernel_rfl) (by simp) (AllReadyH.cons rfl (fun K hK => ?_) AllReadyH.nil)
      go_simp
      go_at_call 19
      refine (HX.out.2.1 _).mono ?_
      rintro e' w5 ⟨rfl, rfl⟩
      dsimp only
      (refine hK.out _ _ hHeld (fun hHeld => ?_); clear hK K; (try simp only [Act.put, List.setIfInBounds_toArray, List.set_cons_zero, List.set_cons_succ]))
      (refine wpAnyH_take (i := 4) (v := .string s2) rfl (by kernel_rfl) (by kernel_rfl) (by kernel_rfl) (fun _ _ _ h => h) (Or.inl ⟨by kernel_rfl, fun w hSw => by (try dsimp only at hSw); go_split_ands; go_simp⟩) (by assumption) ?_; simp only [Act.put, List.setIfInBounds_toArray, List.set_cons_zero, List.set_cons_succ])
      refine wpAnyH_ready (rs := [7]) (by kernel_rfl) (by simp) (AllReadyH.cons rfl (fun K hK => ?_) AllReadyH.nil)
      go_simp
      go_at_call 19
      refine (HX.out.2.2 _).mono ?_
      rintro e' w6 ⟨rfl, rfl⟩
      dsimp only
      (refine hK.out _ _ hHeld (fun hHeld => ?_); clear hK K; (try simp only [Act.put, List.setIfInBounds_toArray, List.set_cons_zero, List.set_cons_succ]))
      (refine wpAnyH_take (i := 8) (v := .string s3) rfl (by kernel_rfl) (by kernel_rfl) (by kernel_rfl) (fun _ _ _ h => h) (Or.inl ⟨by kernel_rfl, fun w hSw => by (try dsimp only at hSw); go_split_ands; go_simp⟩) (by assumption) ?_; simp only [Act.put, List.setIfInBounds_toArray, List.set_cons_zero, List.set_cons_succ])
      obtain ⟨wb, hwb⟩ : ∃ wb, wb = w6.alloc (.cells #[.string s3] 9) := ⟨_, rfl⟩
      have hbb : Below w6.heap.size w6 wb := by rw [hwb]; exact (Below.refl _ _).alloc (Nat.le_refl _) _
      have hownb := own_chg hownd (Chg.of_below (F := fun _ => False) hbb) (fun _ _ h => h)
      have hnb : ∀ j u, [Value.string s3][j]? = some u → wb.cell? ((⟨w6.heap.size, 0, none⟩ : Addr).add j) = some u := by rw [hwb]; exact World.news_of_block (heap_alloc_new _ _)
      have hSb : wb.cell? ⟨wo.heap.size, 0, none⟩ = some (.int .i64 x.1) ∧ wb.cell? ⟨wo.heap.size, 1, none⟩ = some (.int .i64 x.2) := ⟨cell_keep hHeld.1 (hbb.block _ (lt_of_cell hHeld.1)), cell_keep hHeld.2 (hbb.block _ (lt_of_cell hHeld.2))⟩
      have hzb : W.heap.size ≤ wb.heap.size := Nat.le_trans (Nat.le_trans (Nat.le_trans hzW hb02.size) hb2d.size) hbb.size
      have Hwb := Lib.hid hwb; clear hwb
      refine wpAnyH_ready (rs := [9]) (by kernel_rfl) (by simp) (AllReadyH.cons rfl (fun K hK => ?_) AllReadyH.nil)
      go_simp
      rw [← Hwb.out]
      (refine hK.out _ _ hSb (fun hHeld => ?_); clear hK K; (try simp only [Act.put, List.setIfInBounds_toArray, List.set_cons_zero, List.set_cons_succ]))
      refine wpAnyH_ready (rs := [10]) (by kernel_rfl) (by simp) (AllReadyH.cons rfl (fun K hK => ?_) AllReadyH.nil)
      refine step_append_lies _ (by rfl) _ _ _ (by rfl) W.heap.size 9 i0 _ 1 16 Tryd.underlying40 gi gz0 gz1 gz2 rfl (by omega) _ k _ (by rfl) hownb ⟨_, 0, none⟩ 1 1 [.string s3] (by rfl) (by rfl) hnb (by simp [Value.oneCell']) (by omega) (by unfold maxLen; omega) (by omega) hzb _ rfl ?_
      intro gg cap8 w8 hown8 hgrow8 hat8 hlt8
      have hB8 : Below W.heap.size wb w8 := (Below.refl _ _).grown hgrow8 hzb (fun g hg => (hownb.lt g hg).1)
      have hS8 : w8.cell? ⟨wo.heap.size, 0, none⟩ = some (.int .i64 x.1) ∧ w8.cell? ⟨wo.heap.size, 1, none⟩ = some (.int .i64 x.2) := by
       have hne : wb.heap.size ≥ 0 := Nat.zero_le _
       have hz8 : ∀ g, Value.ownBlock (.slice oa k oc) = some g → g < wo.heap.size := fun g hg => (HS.out.2.2.2.1.lt g hg).2
       have hk8 : w8.heap[wo.heap.size]? = wb.heap[wo.heap.size]? := hgrow8.block _ (lt_of_cell hSb.1) (fun e => by have := hz8 _ e.symm; omega)
       exact ⟨cell_keep hSb.1 hk8, cell_keep hSb.2 hk8⟩
      have HB := Lib.hid (And.intro hown8 ((HS.out.2.2.2.2.trans (hb02.mono hzW)).trans (((hb2d.mono (Nat.le_trans hzW hb02.size)).trans (hbb.mono (Nat.le_trans (Nat.le_trans hzW hb02.size) hb2d.size))).trans hB8))); clear hown8 hgrow8 hat8 hlt8 hB8
      (refine hK.out _ _ hS8 (fun hHeld => ?_); clear hK K; (try simp only [Act.put, List.setIfInBounds_toArray, List.set_cons_zero, List.set_cons_succ]))
      (refine wpAnyH_ready (rs := [11]) (by kernel_rfl) (by simp) (AllReadyH.cons rfl (fun K hK => ?_) AllReadyH.nil); go_simp)
      (refine hK.out _ _ hS8 (fun hHeld => ?_); clear hK K; (try simp only [Act.put, List.setIfInBounds_toArray, List.set_cons_zero, List.set_cons_succ]))
      refine wpAnyH_done (by kernel_rfl) (NoPanic.normal ?_) _
      go_wp2_with fail
      go_roundw
      case rel => exact ⟨k + 1, by omega, by go_num, by rw [HS.out.2.1]; unfold fitS; rw [HO.out, H1.out, H2.out]; rfl, by rw [HX.out.1]; exact HB.out.1, HB.out.2⟩
      case measure => simp [intOf]; omega
   ·have HO := Lib.hid ho; clear ho
    have hw : wordS x = [43] := by unfold wordS; rw [if_pos HO.out]
    have Hw := Lib.hid hw; clear hw
    go_wp2_with fail
    rw [← hwx]
    refine (isOpenStep_b x _ _ HO.out).mono ?_
    rintro e' w2 ⟨rfl, hb2⟩
    have hb02 := hBx.trans (hb2.mono hBx.size)
    have hz02 := hb02.size
    have hown2 := own_chg HS.out.2.2.2.1 (Chg.of_below (F := fun _ => False) hb02) (fun _ _ h => h)
    have hcx2 : ∀ o, w2.cell? ⟨wo.heap.size, o, none⟩ = (#[.int .i64 x.1, .int .i64 x.2] : Array Value)[o]? := fun o => by rw [(bcell hb2).1 _ _ hzx, hcx]
    clear hc1 hc2 hcx hhx
    clear hcx2
    go_wp2_with ((at_builtin; refine wp_app1 _ rfl _ _ 40 rfl W.heap.size 9 (.string ⟨#[]⟩) 16 Tryd.underlying40 inf_str rfl _ _ _ rfl hown2 (.string ⟨#[43]⟩) _ rfl rfl (by omega) (by omega) (by omega) ?_; intro v1 w1 hown1 hgrow1 hblk1 hB1); refine Hid.out ?_)
    refine Lib.hid ?_
    have HB := Lib.hid (And.intro hown1 hB1); clear hown1 hB1 hown2
    obtain ⟨na, nc, rfl, _, _⟩ := own_form HB.out.1
    go_wp2_with fail
    go_roundw
    case rel => exact ⟨k + 1, by omega, by go_num, by rw [HS.out.2.1]; unfold fitS; rw [HO.out]; rfl, by rw [HS.out.1, Hw.out, List.map_append]; exact HB.out.1, (HS.out.2.2.2.2.trans (hb02.mono hzW)).trans HB.out.2⟩
    case measure => simp [intOf]; omega
  ·obtain rfl : k = l.length := by omega
   have hkd : decide (l.length < l.length) = false := decide_eq_false (Nat.lt_irrefl _)
   by_cases hl : 1200 < l.length
   ·have hans : stxAns l = ([], 3) := by
     unfold stxAns
     rw [if_neg (by rw [hft]; decide), if_pos hl]
    have H := Lib.hid (And.intro hans hB); clear hans hB hft hown
    go_wp2_with fail
    go_ret2
    exact ⟨by rw [H.out.1]; rfl, H.out.2⟩
   ·have hans : stxAns l = (txtTo l l.length, 0) := by
     unfold stxAns
     rw [if_neg (by rw [hft]; decide), if_neg hl]
    have hjl : (Lib.join (wordsTo l l.length) [32]).length ≤ 140737488355328 := by
     rw [← txt_join]
     have := txt_len hft l.length (Nat.le_refl _)
     omega
    have hwl := wordsTo_len l l.length
    have hcall := join_words l hown hjl hwl (by omega)
    rw [← txt_join] at hcall
    have H := Lib.hid (And.intro hans (And.intro hB hcall)); clear hans hB hft hown hjl hwl hcall
    go_wp2_with fail
    refine H.out.2.2.mono ?_
    rintro e' w2 ⟨rfl, hb2⟩
    go_wp2_with fail
    go_ret2
    exact ⟨by rw [H.out.1]; rfl, H.out.2.1.trans (hb2.mono hzW)⟩
end Go.Proofs.YtmjplkbmhdkggaaDoor
