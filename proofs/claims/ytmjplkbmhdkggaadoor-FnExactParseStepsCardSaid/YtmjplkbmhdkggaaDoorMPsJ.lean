/- Steps read out of a text: the program's ParseSteps. Conditions: what the library's variables hold. -/
import Derived.Shelf.Vars
import Derived.Stop.LaidErr
import Derived.Lib.LaidTab
import Derived.HandedShaped
import Derived.MakeChecks
import Derived.Test.YtmjplkbmhdkggaaDoorMPsR
namespace Go.Proofs.YtmjplkbmhdkggaaDoor
open Go.RowKit
set_option linter.unusedVariables false
set_option linter.unusedSimpArgs false
theorem infS : (Tryd.prog.info? 37).map (fun i => (i.zero, i.size, i.bytes)) = some (some (.agg #[.int .i64 0, .int .i64 0]), 2, 16) := by kernel_rfl
/-- The two cells of a pair that a part of the program has made. -/
theorem pair_cells {w : World} {B : Nat} {v : Value} {x y : Int} (h : w.ownsRow B 2 1 v 2 [.int .i64 x, .int .i64 y]) : ∃ g c, v = .slice (some ⟨g, 0, none⟩) 2 c ∧ 2 ≤ c ∧ B ≤ g ∧ g < w.heap.size ∧ w.cell? ⟨g, 0, none⟩ = some (.int .i64 x) ∧ w.cell? ⟨g, 1, none⟩ = some (.int .i64 y) := by
 rcases h.2 with ⟨_, h0⟩ | ⟨g, cap, cur, rfl, h1, h2, h3, _⟩
 ·cases h0
 ·have h7 := own_cellS (c := cap) h
  exact ⟨g, cap, rfl, h3, h1, h7.1, by have := h7.2.2 0 _ rfl; rwa [Nat.zero_add] at this, by have := h7.2.2 1 _ rfl; rwa [Nat.zero_add] at this⟩
set_option maxRecDepth 100000 in
set_option maxHeartbeats 8000000 in
theorem ParseSteps_any (t : List UInt8) (W : World) (hl : t.length ≤ 1048576) (hE : Env W) :
  Calls Tryd.prog 11 #[.string (bs t)] W fun e' w' => ∃ v', e' = .returned (.tuple #[v', .int .i64 (psAns t).2]) ∧ FS W.heap.size w' v' (psAns t).1 ∧ Below W.heap.size W w' := by
 rw [← ps_eq t]
 by_cases ht : t = []
 ·subst ht
  have hans : psImp [] = ([], 0) := rfl
  have H := Lib.hid hans; clear hans
  have he : bs [] = (ByteArray.mk #[]) := rfl
  rw [he]
  clear he
  go_enter Tryd.func11, Tryd.ntmps11
  go_wp2_with fail
  go_ret2
  exact ⟨_, by rw [H.out]; rfl, by rw [H.out]; exact FS.nil, Below.refl _ _⟩
 ·have hne : (bs t).toList.isEmpty = false := by
   rw [bs_toList]
   cases t with
   | nil => exact absurd rfl ht
   | cons x r => rfl
  have hplen := split_len 32 t
  have hpw := split_word 32 t
  have hown0 := own_lit0 W W.heap.size 37 2 (Nat.le_refl _)
  have hbl : Below W.heap.size W (W.alloc (.cells #[] 37)) := (Below.refl _ _).alloc (Nat.le_refl _) _
  obtain ⟨wx, hwx0⟩ : ∃ wx, wx = W.alloc (.cells #[] 37) := ⟨_, rfl⟩
  have hzx : W.heap.size < wx.heap.size := by rw [hwx0]; simp
  rw [← hwx0] at hown0 hbl
  have hsp := split_any t 32 wx hl (hE.below hbl)
  obtain ⟨ws, hws⟩ : ∃ ws, splitL 32 t = ws := ⟨_, rfl⟩
  rw [hws] at hplen hpw hsp
  have HP := Lib.hid (And.intro hpw (And.intro hsp (And.intro hown0 (And.intro hbl (And.intro hwx0 (And.intro hws hE)))))); clear hws hpw hsp hown0 hbl hE
  go_enter Tryd.func11, Tryd.ntmps11
  go_wp2_with fail
  rw [← HP.out.2.2.2.2.1]
  clear hwx0
  refine HP.out.2.1.mono ?_
  rintro e' w2 ⟨cp, rfl, hsw, hgl, hb2⟩
  have hB2 : Below W.heap.size W w2 := HP.out.2.2.2.1.trans (hb2.mono (by omega))
  have H2 := Lib.hid (And.intro hsw (And.intro hB2 (own2_keep HP.out.2.2.1 hb2))); clear hsw hb2 hB2
  go_wp2_with fail
  go_loopw [4, 17] (fun ou i wr => ∃ k : Nat, k ≤ ws.length ∧ i = .int .i64 k ∧ okTo pstI ws k = true ∧ wr.ownsRow W.heap.size 37 2 ou k (flS (outTo pstI ws k)) ∧ ou.ownBlock ≠ some wx.heap.size ∧ wx.heap.size < wr.heap.size ∧ wr.heap[wx.heap.size]? = w2.heap[wx.heap.size]? ∧ Below W.heap.size W wr) (fun _ i _ => ws.length - (intOf i).toNat)
  case atStart => exact ⟨0, Nat.zero_le _, rfl, rfl, H2.out.2.2, (fun e => by simp [Value.ownBlock] at e; omega), hgl, rfl, H2.out.2.1⟩
  case round =>
   obtain ⟨k, hk, rfl, hok, hown, hne', hgr, hhr, hB⟩ := hrel
   have hzW := hB.size
   obtain ⟨oa, oc, rfl, _, _⟩ := own2_form hown
   obtain ⟨wo, rfl⟩ : ∃ q, q = wr := ⟨_, rfl⟩
   have hsw := H2.out.1.keep hhr
   by_cases hkk : k < ws.length
   ·obtain ⟨g, off, e, _, hcw⟩ := hsw.cell hkk
    cases e
    rw [Nat.zero_add] at hcw
    have hkn : ¬ ws.length ≤ k := by omega
    have hkd : decide (k < ws.length) = true := decide_eq_true hkk
    obtain ⟨w, hw⟩ : ∃ w, getw ws k = w := ⟨_, rfl⟩
    have hoks : okTo pstI ws (k + 1) = (pstI w).1 := by rw [← hw]; unfold okTo; rw [hok]; rfl
    have houts : outTo pstI ws (k + 1) = outTo pstI ws k ++ [(pstI w).2] := by rw [← hw]; rfl
    have hlw : w.length ≤ 1048576 := by rw [← hw]; have := HP.out.1 k; omega
    rw [hw] at hcw
    have HS := Lib.hid (And.intro hoks (And.intro houts (And.intro hown (And.intro hne' (And.intro hhr hB))))); clear hoks houts hw hown hne' hhr hsw hB hok
    by_cases hplus : w = [43]
    ·have hpl : ((bs w).toList == [43]) = true := by rw [bs_toList, hplus]; rfl
     have hst : pstI w = (true, (-1, 0)) := by unfold pstI; rw [if_pos hplus]
     have Hst := Lib.hid hst; clear hst
     have hown5 := HS.out.2.2.1
     clear hplus
     have hzA : (wo.alloc (.cells #[.int .i64 (-1), .int .i64 (0)] 37)).heap.size = wo.heap.size + 1 := by simp
     go_wp2_with (at_builtin; refine wp_app rfl _ _ 26 rfl W.heap.size 37 (.agg #[.int .i64 0, .int .i64 0]) 2 16 Tryd.underlying26 infS rfl (by omega) _ _ _ rfl (hown5.alloc _) ⟨_, 0, none⟩ 1 1 [.int .i64 (-1), .int .i64 (0)] rfl rfl (World.news_of_block (heap_alloc_new _ _)) (by simp [Value.oneCell']) (by unfold maxLen; omega) (by omega) (by omega) ?_; intro v8 w8 hown8 hgrow8 hblk8; refine Hid.out ?_)
     refine Lib.hid ?_
     have hB8 : Below W.heap.size W w8 := (HS.out.2.2.2.2.2.alloc hzW _).grown hgrow8 (by omega) (fun g hg => (hown5.lt g hg).1)
     have hne8 : v8.ownBlock ≠ some wx.heap.size := fun e => by
      rcases hblk8 with h | h
      ·exact HS.out.2.2.2.1 (h.symm.trans e)
      ·rw [e] at h; have := Option.some.inj h; omega
     have hh8 : w8.heap[wx.heap.size]? = w2.heap[wx.heap.size]? := (hgrow8.block _ (by omega) (fun e => HS.out.2.2.2.1 e.symm)).trans ((((Below.refl _ _).alloc (Nat.le_refl _) _).block _ hgr).trans HS.out.2.2.2.2.1)
     have hz8 := hgrow8.size
     have HB := Lib.hid (And.intro hown8 (And.intro hB8 (And.intro hne8 hh8))); clear hown8 hgrow8 hblk8 hB8 hne8 hh8 hown5
     obtain ⟨na, nc, rfl, _, _⟩ := own2_form HB.out.1
     go_wp2_with fail
     go_roundw
     case rel => exact ⟨k + 1, by omega, by go_num, by rw [HS.out.1, Hst.out], by rw [HS.out.2.1, flS_snoc, Hst.out]; exact HB.out.1, HB.out.2.2.1, by omega, HB.out.2.2.2, HB.out.2.1⟩
     case measure => simp [intOf]; omega
    ·have hpl : ((bs w).toList == [43]) = false := by rw [bs_toList]; simp [hplus]
     have hpa := parted_any w wo hlw (HP.out.2.2.2.2.2.2.below HS.out.2.2.2.2.2)
     have hunf : pstI w = pairI (splitL 47 w) := pstI_pair hplus
     obtain ⟨ps, hps⟩ : ∃ ps, splitL 47 w = ps := ⟨_, rfl⟩
     rw [hps] at hpa hunf
     obtain ⟨ok, hok⟩ : ∃ ok, okN ps ps.length = ok := ⟨_, rfl⟩
     have Hps := Lib.hid (And.intro hunf hok)
     rw [hok] at hpa
     clear hunf hps hplus hok
     go_wp2_with fail
     refine hpa.mono ?_
     rintro e' w3 ⟨pv, rfl, hpv, ⟨pa, pn, pc, rfl⟩, hb3⟩
     have hB3 : Below W.heap.size W w3 := HS.out.2.2.2.2.2.trans (hb3.mono hzW)
     have hz3 := hb3.size
     clear hpa
     cases ok
     ·have hst : (pstI w).1 = false := by
       rw [Hps.out.1]
       by_cases h2 : ps.length = 2
       ·obtain ⟨p0, p1, rfl⟩ := two_of h2
        have := Hps.out.2
        exact this
       ·exact pairI_ne h2
      have hbad : psImp t = ([], 6) := by
       unfold psImp
       rw [if_neg ht, HP.out.2.2.2.2.2.1]
       rw [if_pos (ok_false (k := k + 1) (by rw [HS.out.1, hst]) _ (by omega))]
      have Hbad := Lib.hid hbad; clear hbad
      clear hst hpv hcw hb3
      go_wp2_with fail
      go_ret2
      exact ⟨_, by rw [Hbad.out]; rfl, by rw [Hbad.out]; exact FS.nil, hB3⟩
     ·have hpo := hpv rfl
      obtain ⟨_, _, e, _, _⟩ := own_form hpo
      cases e
      clear hpv
      by_cases h2 : ps.length = 2
      ·obtain ⟨p0, p1, rfl⟩ := two_of h2
       have h3 := Hps.out.2
       have hst : pstI w = (true, ((numI p0).2, (numI p1).2)) := by
        rw [Hps.out.1]
        show ((numI p0).1 && (numI p1).1, _) = _
        rw [show ((numI p0).1 && (numI p1).1) = true from h3]
       have hpo : w3.ownsRow wo.heap.size 2 1 (.slice pa 2 pc) 2 [.int .i64 (numI p0).2, .int .i64 (numI p1).2] := hpo
       obtain ⟨x, hx⟩ : ∃ x, (numI p0).2 = x := ⟨_, rfl⟩
       obtain ⟨y, hy⟩ : ∃ y, (numI p1).2 = y := ⟨_, rfl⟩
       rw [hx, hy] at hst hpo
       obtain ⟨pg, pc', e, hpc, hpg, hpl3, hc0, hc1⟩ := pair_cells hpo
       cases e
       have hown3 := own2_keep HS.out.2.2.1 hb3
       have hh3 : w3.heap[wx.heap.size]? = w2.heap[wx.heap.size]? := (hb3.block _ hgr).trans HS.out.2.2.2.2.1
       have Hn := Lib.hid (And.intro hst (And.intro hh3 (And.intro hB3 hown3))); clear hst hh3 hB3 hown3 hpo hb3 hcw h2 h3 hx hy
       obtain ⟨i0, gi, gz0, gz1, gz2⟩ := info_parts infS
       go_wp2_with fail
       refine wp_region_noPanic ?_
       refine wp_region_held_drew (S := fun w' => w'.cell? ⟨pg, 0, none⟩ = some (.int .i64 x) ∧ w'.cell? ⟨pg, 1, none⟩ = some (.int .i64 y)) (by kernel_rfl) ⟨cell_keep hc0 rfl, cell_keep hc1 rfl⟩ (fun hHeld => ?_)
       (refine wpAnyH_take (i := 0) (v := .slice oa k oc) rfl (by kernel_rfl) (by kernel_rfl) (by kernel_rfl) (fun _ _ _ h => h) (Or.inl ⟨by kernel_rfl, fun w hSw => by (try dsimp only at hSw); go_split_ands; go_simp⟩) (by assumption) ?_; simp only [Act.put, List.setIfInBounds_toArray, List.set_cons_zero, List.set_cons_succ])
       (refine wpAnyH_take (i := 1) (v := .slice (some ⟨pg, 0, none⟩) 2 pc) rfl (by kernel_rfl) (by kernel_rfl) (by kernel_rfl) (fun _ _ _ h => h) (Or.inl ⟨by kernel_rfl, fun w hSw => by (try dsimp only at hSw); go_split_ands; go_simp⟩) (by assumption) ?_; simp only [Act.put, List.setIfInBounds_toArray, List.set_cons_zero, List.set_cons_succ])
       (refine wpAnyH_take (i := 2) (v := .pointer (some ⟨pg, 0, none⟩)) rfl (by kernel_rfl) (by kernel_rfl) (by kernel_rfl) (fun _ _ _ h => h) (Or.inl ⟨by kernel_rfl, fun w hSw => by (try dsimp only at hSw); go_split_ands; go_simp⟩) (by assumption) ?_; simp only [Act.put, List.setIfInBounds_toArray, List.set_cons_zero, List.set_cons_succ])
       (refine wpAnyH_take (i := 3) (v := .int .i64 x) rfl (by kernel_rfl) (by kernel_rfl) (by kernel_rfl) (fun _ _ _ h => h) (Or.inl ⟨by kernel_rfl, fun w hSw => by (try dsimp only at hSw); go_split_ands; go_simp⟩) (by assumption) ?_; simp only [Act.put, List.setIfInBounds_toArray, List.set_cons_zero, List.set_cons_succ])
       (refine wpAnyH_take (i := 4) (v := .slice (some ⟨pg, 0, none⟩) 2 pc) rfl (by kernel_rfl) (by kernel_rfl) (by kernel_rfl) (fun _ _ _ h => h) (Or.inl ⟨by kernel_rfl, fun w hSw => by (try dsimp only at hSw); go_split_ands; go_simp⟩) (by assumption) ?_; simp only [Act.put, List.setIfInBounds_toArray, List.set_cons_zero, List.set_cons_succ])
       (refine wpAnyH_take (i := 5) (v := .pointer (some ⟨pg, 1, none⟩)) rfl (by kernel_rfl) (by kernel_rfl) (by kernel_rfl) (fun _ _ _ h => h) (Or.inl ⟨by kernel_rfl, fun w hSw => by (try dsimp only at hSw); go_split_ands; go_simp⟩) (by assumption) ?_; simp only [Act.put, List.setIfInBounds_toArray, List.set_cons_zero, List.set_cons_succ])
       (refine wpAnyH_take (i := 6) (v := .int .i64 y) rfl (by kernel_rfl) (by kernel_rfl) (by kernel_rfl) (fun _ _ _ h => h) (Or.inl ⟨by kernel_rfl, fun w hSw => by (try dsimp only at hSw); go_split_ands; go_simp⟩) (by assumption) ?_; simp only [Act.put, List.setIfInBounds_toArray, List.set_cons_zero, List.set_cons_succ])
       (refine wpAnyH_take (i := 7) (v := .agg #[.int .i64 x, .int .i64 y]) rfl (by kernel_rfl) (by kernel_rfl) (by kernel_rfl) (fun _ _ _ h => h) (Or.inl ⟨by kernel_rfl, fun w hSw => by (try dsimp only at hSw); go_split_ands; go_simp⟩) (by assumption) ?_; simp only [Act.put, List.setIfInBounds_toArray, List.set_cons_zero, List.set_cons_succ])
       obtain ⟨wb, hwb⟩ : ∃ wb, wb = (w3.alloc (.cells #[.int .i64 x, .int .i64 y] 37)).drew := ⟨_, rfl⟩
       have hbb : Below w3.heap.size w3 wb := by rw [hwb]; exact ((Below.refl _ _).alloc (Nat.le_refl _) _).drew
       have hownb := own2_keep Hn.out.2.2.2 hbb
       have hnb : ∀ j u, [Value.int .i64 x, .int .i64 y][j]? = some u → wb.cell? ((⟨w3.heap.size, 0, none⟩ : Addr).add j) = some u := by rw [hwb]; exact World.news_of_block (heap_alloc_new _ _)
       have hSb : wb.cell? ⟨pg, 0, none⟩ = some (.int .i64 x) ∧ wb.cell? ⟨pg, 1, none⟩ = some (.int .i64 y) := ⟨cell_keep hc0 (hbb.block _ hpl3), cell_keep hc1 (hbb.block _ hpl3)⟩
       have hzb3 := hbb.size
       have hzb : W.heap.size ≤ wb.heap.size := by omega
       have Hwb := Lib.hid hwb; clear hwb hc0 hc1
       refine wpAnyH_ready (rs := [8]) (by kernel_rfl) (by simp) (AllReadyH.cons rfl (fun K hK => ?_) AllReadyH.nil)
       go_simp
       rw [← Hwb.out]
       (refine hK.out _ _ hSb (fun hHeld => ?_); clear hK K; (try simp only [Act.put, List.setIfInBounds_toArray, List.set_cons_zero, List.set_cons_succ]))
       refine wpAnyH_ready (rs := [9]) (by kernel_rfl) (by simp) (AllReadyH.cons rfl (fun K hK => ?_) AllReadyH.nil)
       refine step_append_lies _ (by rfl) _ _ _ (by rfl) W.heap.size 37 i0 _ 2 16 Tryd.underlying26 gi gz0 gz1 gz2 rfl (by omega) _ k _ (by rfl) hownb ⟨_, 0, none⟩ 1 1 [.int .i64 x, .int .i64 y] (by rfl) (by rfl) hnb (by simp [Value.oneCell']) (by omega) (by unfold maxLen; omega) (by omega) hzb _ rfl ?_
       intro gg cap8 w8 hown8 hgrow8 hat8 hlt8
       have hB8 : Below W.heap.size wb w8 := (Below.refl _ _).grown hgrow8 hzb (fun g hg => (hownb.lt g hg).1)
       have hbase : ∀ g, Value.ownBlock (.slice oa k oc) = some g → g < wo.heap.size := fun g hg => (HS.out.2.2.1.lt g hg).2
       have hS8 : w8.cell? ⟨pg, 0, none⟩ = some (.int .i64 x) ∧ w8.cell? ⟨pg, 1, none⟩ = some (.int .i64 y) := by
        have hk8 : w8.heap[pg]? = wb.heap[pg]? := hgrow8.block _ (lt_of_cell hSb.1) (fun e => by have := hbase _ e.symm; omega)
        exact ⟨cell_keep hSb.1 hk8, cell_keep hSb.2 hk8⟩
       have hne8 : (Value.slice (some ⟨gg, 0, none⟩) (k + 1) cap8).ownBlock ≠ some wx.heap.size := fun e => by
        rcases hat8 with h | h
        ·rw [show (Value.slice (some ⟨gg, 0, none⟩) (k + 1) cap8).ownBlock = some gg from rfl] at e
         exact HS.out.2.2.2.1 (h.trans e)
        ·rw [show (Value.slice (some ⟨gg, 0, none⟩) (k + 1) cap8).ownBlock = some gg from rfl] at e
         cases e; omega
       have hh8 : w8.heap[wx.heap.size]? = w2.heap[wx.heap.size]? := (hgrow8.block _ (by omega) (fun e => HS.out.2.2.2.1 e.symm)).trans ((hbb.block _ (by omega)).trans Hn.out.2.1)
       have hz8 := hgrow8.size
       have HB := Lib.hid (And.intro hown8 (And.intro ((Hn.out.2.2.1.trans (hbb.mono (by omega))).trans hB8) (And.intro hne8 hh8))); clear hown8 hgrow8 hat8 hB8 hne8 hh8 hbase
       (refine hK.out _ _ hS8 (fun hHeld => ?_); clear hK K; (try simp only [Act.put, List.setIfInBounds_toArray, List.set_cons_zero, List.set_cons_succ]))
       (refine wpAnyH_ready (rs := [10]) (by kernel_rfl) (by simp) (AllReadyH.cons rfl (fun K hK => ?_) AllReadyH.nil); go_simp)
       (refine hK.out _ _ hS8 (fun hHeld => ?_); clear hK K; (try simp only [Act.put, List.setIfInBounds_toArray, List.set_cons_zero, List.set_cons_succ]))
       refine wpAnyH_done (by kernel_rfl) (NoPanic.normal ?_) _
       go_wp2_with fail
       go_roundw
       case rel => exact ⟨k + 1, by omega, by go_num, by rw [HS.out.1, Hn.out.1], by rw [HS.out.2.1, flS_snoc, Hn.out.1]; exact HB.out.1, HB.out.2.2.1, by omega, HB.out.2.2.2, HB.out.2.1⟩
       case measure => simp [intOf]; omega
      ·have hst : (pstI w).1 = false := by rw [Hps.out.1]; exact pairI_ne h2
       have hbad : psImp t = ([], 6) := by
        unfold psImp
        rw [if_neg ht, HP.out.2.2.2.2.2.1]
        rw [if_pos (ok_false (k := k + 1) (by rw [HS.out.1, hst]) _ (by omega))]
       have Hbad := Lib.hid hbad; clear hbad
       have h2d : ((ps.length : Int) != 2) = true := by simp; omega
       have h2e : ¬ ((ps.length : Int) = 2) := by omega
       clear hst hpo hcw hb3
       go_wp2_with fail
       go_ret2
       exact ⟨_, by rw [Hbad.out]; rfl, by rw [Hbad.out]; exact FS.nil, hB3⟩
   ·obtain rfl : k = ws.length := by omega
    have hkd : decide (ws.length < ws.length) = false := decide_eq_false (Nat.lt_irrefl _)
    obtain ⟨ol, hol⟩ : ∃ ol, outTo pstI ws ws.length = ol := ⟨_, rfl⟩
    have hll : ol.length = ws.length := by rw [← hol]; exact out_len _
    rw [hol] at hown
    have hfs := own2_FSn hown hll
    have htx := StepsText_any _ ol wo (hfs.vs) (by omega)
    have hans : psImp t = if (stxAns ol).2 ≠ 0 ∨ (stxAns ol).1 ≠ t then ([], 6) else (ol, 0) := by
     unfold psImp
     rw [if_neg ht, HP.out.2.2.2.2.2.1, if_neg (by rw [hok]; decide), hol]
    obtain ⟨r, hr⟩ : ∃ r, stxAns ol = r := ⟨_, rfl⟩
    rw [hr] at htx hans
    obtain ⟨s, cd⟩ := r
    have HC := Lib.hid (And.intro hfs (And.intro hB (And.intro htx hans))); clear hfs hB htx hans hok hol hown hsw hll hr hne' hhr
    by_cases hc0 : cd = 0
    ·subst hc0
     by_cases hst : s = t
     ·have hse : ((bs s).toList == (bs t).toList) = true := by rw [str_eq]; exact decide_eq_true hst
      have hans : psImp t = (ol, 0) := by rw [HC.out.2.2.2, if_neg (by simp [hst])]
      have Ha := Lib.hid hans; clear hans hst
      go_wp2_with fail
      refine HC.out.2.2.1.mono ?_
      rintro e' w6 ⟨rfl, hb6⟩
      have Hb6 := Lib.hid hb6; clear hb6
      go_wp2_with fail
      go_ret2
      exact ⟨_, by rw [Ha.out]; rfl, by rw [Ha.out]; exact HC.out.1.below Hb6.out, HC.out.2.1.trans (Hb6.out.mono hzW)⟩
     ·have hse : ((bs s).toList == (bs t).toList) = false := by rw [str_eq]; exact decide_eq_false hst
      have hans : psImp t = ([], 6) := by rw [HC.out.2.2.2, if_pos (.inr hst)]
      have Ha := Lib.hid hans; clear hans hst
      go_wp2_with fail
      refine HC.out.2.2.1.mono ?_
      rintro e' w6 ⟨rfl, hb6⟩
      have Hb6 := Lib.hid hb6; clear hb6
      go_wp2_with fail
      go_ret2
      exact ⟨_, by rw [Ha.out]; rfl, by rw [Ha.out]; exact FS.nil, HC.out.2.1.trans (Hb6.out.mono hzW)⟩
    ·have hans : psImp t = ([], 6) := by rw [HC.out.2.2.2, if_pos (.inl hc0)]
     have Ha := Lib.hid hans; clear hans
     have hcdd : (cd != 0) = true := by simp [hc0]
     clear hc0
     go_wp2_with fail
     refine HC.out.2.2.1.mono ?_
     rintro e' w6 ⟨rfl, hb6⟩
     have Hb6 := Lib.hid hb6; clear hb6
     go_wp2_with fail
     go_ret2
     exact ⟨_, by rw [Ha.out]; rfl, by rw [Ha.out]; exact FS.nil, HC.out.2.1.trans (Hb6.out.mono hzW)⟩
/-- A contract that asks for what the row lists and for the world's shape. -/
theorem handed_both {H : Type} {enc : TypeId × Value → H} {a : Assume} {C : Checked} {os : Os} {f : FuncId} {fn : Func} {s : ChangeSpec} {conds : List PathCond} {apart fresh handsOn again : Bool} {X : World → Array Value → Prop}
  (hX : ∀ (w w' : World) (args : Array Value), w.heap = w'.heap → X w args → X w' args)
  (own : ownKnob C.prog.godebug = none) (started : os.Started) (noInit : C.prog.inits.idxOf? f = none) (hfn : C.prog.funcs[f]? = some fn)
  (witness : ∃ (w : World) (tape : Tape) (i : Input), w.os = os ∧ (w.forCall tape i).Shaped C.prog ∧ i.vars = [] ∧ Input.okWide C.prog (w.forCall tape i) .any w.heap.size f i ∧
   ((s.pre enc C.prog fn conds apart (w.forCall tape i).memory i.args ∧ X (w.forCall tape i).memory i.args) ∧ sizedMet enc C.prog fn (OpenSpec.ofChange s) apart (w.forCall tape i).memory i.args) ∧ a.holds C.prog (lone (Frame.enter C.prog f i.args .normal) [] (w.forCall tape i)))
  (contract : ∀ (W : World) (base : Nat) (args : Array Value) (ds gs : List (DataW H)) (before : List MemPlace),
   (∀ (j : Nat) t v, fn.params[j]? = some t → args[j]? = some v → Value.okWide C.prog W .any base t v) →
   DataW.Whole enc C.prog fn.params.toList s.vars apart W args.toList ds gs before →
   conds.all (PathCond.test C.prog ⟨fn.params.toList, ds, s.plain.varTypes C.prog, gs⟩) = true →
   (DataW.weightsEach C.prog (fn.params.toList ++ s.plain.varTypes C.prog) (ds ++ gs)).all (· ≤ reachBytes) = true → X W args → W.ShapedOpen C.prog →
   a.holds C.prog (lone (Frame.enter C.prog f args .normal) [] W) →
   Calls C.prog f args W fun e W' => ∃ v, e = .returned v ∧ s.post enc C.prog fn apart fresh handsOn again W args v W') :
  ReturnsInHanded a C os f .any (fun w args => (s.pre enc C.prog fn conds apart w args ∧ X w args) ∧ sizedMet enc C.prog fn (OpenSpec.ofChange s) apart w args) (s.post enc C.prog fn apart fresh handsOn again) := by
 refine returnsInHanded_of_calls own started noInit witness ?_
 intro w tape i _ hsh _ hok hpre hholds
 obtain ⟨_, _, _, fn', hfn', _, _, _, _, hval⟩ := hok
 have e : fn' = fn := Option.some.inj (hfn'.symm.trans hfn)
 subst e
 obtain ⟨⟨⟨ds, gs, before, hw, hc⟩, hx⟩, hz⟩ := hpre
 have hw' := DataW.Whole.of_heap (w' := w.forCall tape i) (by rfl) hw
 refine (contract (w.forCall tape i) w.heap.size i.args ds gs before hval hw' hc (hz.weights hw) (hX _ _ _ (by rfl) hx) hsh hholds).mono fun e W' ⟨v, he, hp⟩ => ?_
 subst he
 exact ChangeSpec.post_blind hp
/-- A variable of an integer's type holds some integer. -/
theorem var_int_of_shaped {P : Program} {w : World} {n : String} {g : Nat} {t : TypeId} {zero : Array Value} {k : IntKind}
  (h : w.ShapedOpen P) (hn : P.globalNamed n = some g) (hg : g < P.globals.size)
  (h0 : ((begin P (fun _ _ => 0) default).world.heap[g]?).bind Obj.row? = some (zero, t)) (hz : zero.size = 1)
  (hb : P.buildable t = true) (hc : P.cellTypes P.depth t = some [t]) (hu : P.underlying t = some (.int k)) :
  ∃ m, w.var? P n = some #[.int k m] := by
 obtain ⟨m, hm⟩ := cell_of_shapedOpen_int h hg h0 hz hb hc hu
 obtain ⟨cs, hh, hs, _⟩ := h.1 g zero t hg h0
 refine ⟨m, ?_⟩
 unfold World.var?
 rw [hn]
 simp only [Option.bind_some, hh]
 have h1 : cs.size = 1 := by omega
 have h2 : cs[0]? = some (.int k m) := by simpa [World.cell?, hh] using hm
 obtain ⟨l⟩ := cs
 match l, h1 with
 | [x], _ =>
   have : x = .int k m := by simpa using h2
   rw [this]
theorem star : "*" ++ "errors.errorString" = "*errors.errorString" := by decide
theorem row_err (u : TypeId) (h : Tryd.prog.typeName? 3 u = some "*errors.errorString") : u = 113 :=
 typeName_ptr_named (nm := "errors.errorString") (by rw [star]; kernel_rfl) (by kernel_rfl) (by decide) u (by rw [star]; exact h)
/-- What the library's variables hold, out of a row's list that begins with the four tables. -/
theorem env_of {W : World} {d0 d1 d3 : DataW Unit} {n0 n1 n3 : String} {t0 t1 : List UInt8} {r : List (String × DataW Unit)}
  (hL : laidMet Tryd.prog ((n0, d0) :: (n1, d1) :: ("internal/strconv.uint64pow10", Lib.tabData .u64 Lib.pow10Tab) :: (n3, d3) :: ("strconv.ErrRange", .iface "*errors.errorString" (.ptr (.agg [.lit (.string t0)]))) :: ("strconv.ErrSyntax", .iface "*errors.errorString" (.ptr (.agg [.lit (.string t1)]))) :: r) W)
  (hsh : W.ShapedOpen Tryd.prog) : Env W := by
 refine ⟨?_, ?_, ?_, ?_⟩
 ·exact Lib.tabIs_of_head (g := 0) (t := 87) (e := 72) (n := 20) (by kernel_rfl) (by kernel_rfl) (by kernel_rfl) (by kernel_rfl) (by kernel_rfl) (by kernel_rfl) hL.tail.tail
 ·obtain ⟨a, s, hv, _⟩ := laid_sentinel (g := 4) (ti := 60) (tp := 113) (te := 115) (ts := 9) hL.tail.tail.tail.tail.tail (by kernel_rfl) (by kernel_rfl) Tryd.underlying60 row_err Tryd.underlying113 Tryd.underlying115 rfl rfl (by kernel_rfl) (by kernel_rfl) (by kernel_rfl)
  exact ⟨_, _, hv⟩
 ·obtain ⟨a, s, hv, _⟩ := laid_sentinel (g := 5) (ti := 60) (tp := 113) (te := 115) (ts := 9) hL.tail.tail.tail.tail (by kernel_rfl) (by kernel_rfl) Tryd.underlying60 row_err Tryd.underlying113 Tryd.underlying115 rfl rfl (by kernel_rfl) (by kernel_rfl) (by kernel_rfl)
  exact ⟨_, _, hv⟩
 ·exact var_int_of_shaped (g := 1) (t := 3) (zero := #[.int .i64 0]) hsh (by kernel_rfl) (of_decide_eq_true (by kernel_rfl)) (by kernel_rfl) rfl (by kernel_rfl) (by kernel_rfl) (by kernel_rfl)
end Go.Proofs.YtmjplkbmhdkggaaDoor
