/- The longest chain, as the program finds it. No conditions. -/
import Derived.Test.YtcdgechaehljgaaChainO
namespace Go.Proofs.Ytcdgechaehljgaa
open Go.RowKit
set_option linter.unusedVariables false
set_option linter.unusedSimpArgs false

theorem inf_int0 : (Try.prog.info? 3).map (fun i => (i.zero, i.size, i.bytes)) = some (some (.int .i64 0), 1, 8) := by kernel_rfl
theorem long_ord {t : List (List Int)} {ord : Nat → Nat} (O : Ord t ord) : mxTo (fun _ => true) (fun i => ch t (ord i)) t.length = longest t := by
  unfold longest
  obtain ⟨a0, a1, a2⟩ := mxTo_char (p := fun _ => true) (g := fun i => ch t (ord i)) t.length
  obtain ⟨b0, b1, b2⟩ := mxTo_char (p := fun _ => true) (g := ch t) t.length
  generalize mxTo (fun _ => true) (fun i => ch t (ord i)) t.length = x at *
  generalize mxTo (fun _ => true) (ch t) t.length = y at *
  have h1 : x ≤ y := by
    rcases a2 with h | ⟨i, hi, _, e⟩
    · omega
    · have := b1 (ord i) (O.lt i hi) rfl; omega
  have h2 : y ≤ x := by
    rcases b2 with h | ⟨i, hi, _, e⟩
    · omega
    · obtain ⟨j, hj, ej⟩ := O.onto i hi
      have := a1 j hj rfl
      rw [ej] at this; omega
  omega
theorem done_of {t : List (List Int)} {ord : Nat → Nat} (T : Tab t) (O : Ord t ord) {j o : Nat} (hj : j < t.length) (ho : o < t.length) (h : strictB t (ord j) o = true) : ∃ i, i < j ∧ ord i = o ∧ o ≠ ord j := by
  have hlt := strict_ones T (O.lt j hj) ho h
  obtain ⟨i, hi, ei⟩ := O.onto o ho
  have hne : o ≠ ord j := fun e => by rw [e] at hlt; omega
  refine ⟨i, ?_, ei, hne⟩
  by_cases hij : i < j
  · exact hij
  · by_cases e : i = j
    · subst e; exact absurd ei.symm hne
    · have := O.up j i (by omega) hi
      rw [ei] at this; omega

set_option maxHeartbeats 1000000 in
set_option maxRecDepth 100000 in
theorem LongestChain_any {S0 : Nat → Prop} (v : Value) (t : List (List Int)) (W : World) (h0 : V2 S0 W v t) :
    Calls Try.prog 46 #[v] W fun e' w' => e' = .returned (.tuple #[.int .i64 (longAns t).1, .int .i64 (longAns t).2]) ∧ Below W.heap.size W w' := by
  have h := V2.mono h0 (S' := fun b => b < W.heap.size) (fun b _ hlt => hlt) (fun _ _ _ => rfl)
  obtain ⟨a, c, rfl, hmx⟩ := h.form
  obtain ⟨W1, hW1, hB01, hz01, HZ01, hc01, hh01⟩ := box_facts W #[.slice a t.length c] 24
  have hV1 := h.below hB01
  have hc0 : W1.cell? ⟨W.heap.size, 0, none⟩ = some (.slice a t.length c) := by rw [hc01]; rfl
  cases ht : isTab t
  · have ha : longAns t = (0, 1) := by simp [longAns, ht]
    rw [ha]
    have HT := Lib.hid ht; clear ht ha hc01
    go_enter Try.func46, Try.ntmps46
    go_wp2_with fail
    rw [← hW1]
    have HW1 := Lib.hid hW1; clear hW1
    go_wp2_with (go_at_call 88; refine (isTable_b _ _ _ _ HT.out hV1).mono ?_; rintro e' w' ⟨rfl, rfl⟩)
    go_ret2
    exact ⟨rfl, hB01⟩
  · have ha : longAns t = (longest t, 0) := by simp [longAns, ht]
    have T := tab_of ht
    have hrows := (isTab_iff.1 ht).1
    rw [ha]
    have HT := Lib.hid ht; clear ht ha hc01 hh01
    have hl10 : t.length ≤ 10 := hrows.2
    have hl1 : 0 < t.length := hrows.1
    clear hrows
    go_enter Try.func46, Try.ntmps46
    go_wp2_with fail
    rw [← hW1]
    have HW1 := Lib.hid hW1; clear hW1
    go_wp2_with fail
    refine (isTable_b _ _ _ _ HT.out hV1).mono ?_
    rintro e' w' ⟨rfl, rfl⟩
    go_wp2_with first | (at_make; refine wp_mk _ rfl _ _ 43 rfl 2 (.int .i64 0) 1 8 Try.underlying43 inf_int t.length rfl rfl (by omega) (by omega) ?_; intro w2 csL hhL hsL _ hB2 hsz2; have hc2 : w2.cell? ⟨W.heap.size, 0, none⟩ = some (.slice a t.length c) := by rw [(bcell hB2).1 _ _ hz01, hc0]) | (at_make; refine wp_mk _ rfl _ _ 79 rfl 3 (.int .i64 0) 1 8 Try.underlying79 inf_int0 t.length rfl rfl (by omega) (by omega) ?_; intro w3 csO hhO hsO _ hB3 hsz3)
    have HhL := Lib.hid (And.intro hhL hsL); clear hhL hsL
    have hB02 := hB01.trans (hB2.mono (by omega))
    go_loopw [7, 23] (fun _ i wr => ∃ (k : Nat) (cs : Array Value), k ≤ t.length ∧ i = .int .i64 k ∧ wr.heap[w2.heap.size]? = some (.cells cs 3 (0, 0)) ∧ cs.size = t.length ∧ (∀ j, j < k → cs[j]? = some (.int .i64 (j : Int))) ∧ Below w2.heap.size w2 wr) (fun _ i _ => t.length - (intOf i).toNat)
    case atStart => exact ⟨0, csO, Nat.zero_le _, rfl, hhO, by omega, fun j hj => by omega, hB3⟩
    case round =>
      obtain ⟨k, cs, hk, rfl, hh, hs, hcs, hB⟩ := hrel
      by_cases hkk : k < t.length
      · obtain ⟨u0, hco⟩ : ∃ u0, wr.cell? ⟨w2.heap.size, k, none⟩ = some u0 := ⟨cs[k]'(by omega), by rw [cell_of_block hh]; exact Array.getElem?_eq_getElem (by omega)⟩
        have hfo := frozen_of_block hh k
        have Hh := Lib.hid hh; clear hh
        have Hcs := Lib.hid hcs; clear hcs
        have Hs := Lib.hid hs; clear hs
        go_wp2_with fail
        go_roundw
        case rel =>
          refine ⟨k + 1, cs.setIfInBounds k (.int .i64 (k : Int)), by omega, by go_num, heap_setCell_self Hh.out _, by simp [Hs.out], fun j hj => ?_, by (repeat (first | (with_reducible refine Below.setCell ?_ ?_ _) | (with_reducible refine Below.alloc ?_ ?_ _) | (with_reducible refine Below.drew ?_) | (with_reducible refine below_drewN ?_ _) | (with_reducible exact Below.refl _ _) | (with_reducible assumption) | (with_reducible refine Below.trans ?_ (Below.mono (by with_reducible assumption) ?_)) | go_size))⟩
          rw [Array.getElem?_setIfInBounds]
          split
          · rename_i e; subst e; simp [Hs.out, hkk]
          · exact Hcs.out j (by omega)
        case measure => simp [intOf]; omega
      · obtain rfl : k = t.length := by omega
        have hcr : wr.cell? ⟨W.heap.size, 0, none⟩ = some (.slice a t.length c) := by rw [(bcell hB).1 _ _ (by omega), hc2]
        have hgw := lt_of_heap hh
        have hVr := (h.below hB02).below hB
        have hB0r := hB02.trans (hB.mono (by omega))
        have HhLr := HhL.out
        have hLr : wr.heap[W1.heap.size]? = some (.cells csL 2 (0, 0)) := by rw [hB.block _ (by omega)]; exact HhLr.1
        have hord := order_any T hl1 (by omega) _ W.heap.size w2.heap.size t.length cs 3 wr hVr (fun x hx e => by omega) (by omega) (by have := hB0r.size; have := hB01.size; have := hB02.size; have := hB.size; omega) hcr hh hcs
        have Hord := Lib.hid hord
        have HLr := Lib.hid (And.intro hLr HhLr.2); clear hLr HhLr hord hh hcs hs
        have hLne : W1.heap.size ≠ w2.heap.size := by omega
        go_wp2_with fail
        refine Hord.out.mono ?_
        rintro e' w5 ⟨rfl, ord, O, hoc, hC5⟩
        have hzr := hB.size
        have hzB0 := hB0r.size
        have hL5 : w5.heap[W1.heap.size]? = some (.cells csL 2 (0, 0)) := hC5.heap HLr.out.1 hLne
        have hV5 := hVr.mono (S' := fun b => b < W.heap.size) (fun _ h _ => h) (hC5.keep (fun x hx e => by omega))
        have hc5 : w5.cell? ⟨W.heap.size, 0, none⟩ = some (.slice a t.length c) := by rw [hC5.cell (by omega) (by omega)]; exact hcr
        have hz5 := hC5.size
        have hB5 : Below W.heap.size W w5 := hB0r.trans (hC5.to_below (B := W.heap.size) (fun i hi => by omega) hzB0)
        have hsL := HLr.out.2
        have Hoc := Lib.hid hoc
        have HO := Lib.hid O
        have Hlast := Lib.hid (long_ord O)
        clear hVr hcr hC5 hoc O HLr hB0r
        go_wp2_with fail
        go_loopw [5, 9, 10, 11, 36] (fun s _ _ _ i wr => ∃ (j : Nat) (cl : Array Value), j ≤ t.length ∧ i = .int .i64 (j : Int) ∧ s = .int .i64 (mxTo (fun _ => true) (fun i => ch t (ord i)) j) ∧ wr.heap[W1.heap.size]? = some (.cells cl 2 (0, 0)) ∧ cl.size = t.length ∧ (∀ i, i < j → cl[ord i]? = some (.int .i64 (ch t (ord i)))) ∧ Chg (fun b => b = W1.heap.size) w5 wr) (fun _ _ _ _ i _ => t.length - (intOf i).toNat)
        case atStart => exact ⟨0, csL, Nat.zero_le _, rfl, rfl, hL5, by omega, fun i hi => by omega, Chg.refl _ _⟩
        case round =>
          obtain ⟨j, cl, hj, rfl, rfl, hh, hs, hcl, hC⟩ := hrel
          obtain ⟨wo, rfl⟩ : ∃ wo, wo = wr := ⟨_, rfl⟩
          have hmb : 0 ≤ mxTo (fun _ => true) (fun i => ch t (ord i)) j := (mxTo_char (p := fun _ => true) (g := fun i => ch t (ord i)) j).1
          by_cases hjj : j < t.length
          · have hk : ord j < t.length := HO.out.lt j hjj
            obtain ⟨k, hkd⟩ : ∃ k, ord j = k := ⟨_, rfl⟩
            have hoj : wo.cell? ⟨w2.heap.size, j, none⟩ = some (.int .i64 (k : Int)) := by rw [hC.cell (by omega) (by omega), Hoc.out j hjj, hkd]
            rw [hkd] at hk
            obtain ⟨u0, hco⟩ : ∃ u0, wo.cell? ⟨W1.heap.size, k, none⟩ = some u0 := ⟨cl[k]'(by omega), by rw [cell_of_block hh]; exact Array.getElem?_eq_getElem (by omega)⟩
            have hfo := frozen_of_block hh k
            have hbx : wo.cell? ⟨W.heap.size, 0, none⟩ = some (.slice a t.length c) := by rw [hC.cell (by omega) (by omega)]; exact hc5
            have hzo := hC.size
            have Hkd := Lib.hid hkd; clear hkd
            have Hh := Lib.hid (And.intro hh (And.intro hs hcl)); clear hh hs hcl
            have hC1 := hC.setCell (p := ⟨W1.heap.size, k, none⟩) (.inl rfl) (.int .i64 1)
            have hbx1 : (wo.setCell ⟨W1.heap.size, k, none⟩ (.int .i64 1)).cell? ⟨W.heap.size, 0, none⟩ = some (.slice a t.length c) := by rw [hC1.cell (by omega) (by omega)]; exact hc5
            go_wp2_with fail
            go_loopw [10, 11, 45] (fun _ _ i wn => ∃ (o : Nat) (cn : Array Value), o ≤ t.length ∧ i = .int .i64 (o : Int) ∧ wn.heap[W1.heap.size]? = some (.cells cn 2 (0, 0)) ∧ cn.size = t.length ∧ cn[k]? = some (.int .i64 (mxTo (strictB t k) (ch t) o + 1)) ∧ (∀ i, i < j → ord i ≠ k → cn[ord i]? = some (.int .i64 (ch t (ord i)))) ∧ Chg (fun b => b = W1.heap.size) w5 wn) (fun _ _ i _ => t.length - (intOf i).toNat)
            case atStart => exact ⟨0, cl.setIfInBounds k (.int .i64 1), Nat.zero_le _, rfl, heap_setCell_self Hh.out.1 _, by simp [Hh.out.2.1], by rw [Array.getElem?_setIfInBounds, if_pos rfl, if_pos (by have := Hh.out.2.1; omega)]; rfl, fun i hi hne => by rw [Array.getElem?_setIfInBounds, if_neg (fun e => hne e.symm)]; exact Hh.out.2.2 i hi, hC1⟩
            case round =>
              obtain ⟨o, cn, ho, rfl, hhn, hsn, hck, hcn, hCn⟩ := hrel
              have hmo := mx_bound (t := t) (p := strictB t k) o
              have hbxn : wr.cell? ⟨W.heap.size, 0, none⟩ = some (.slice a t.length c) := by rw [hCn.cell (by omega) (by omega)]; exact hc5
              have hVn := hV5.mono (S' := fun b => b < W.heap.size) (fun _ h _ => h) (hCn.keep (fun x hx e => by omega))
              by_cases hoo : o < t.length
              · obtain ⟨b1, off1, a1, c1, rfl, _, hc1, hr1⟩ := hVn.cell hoo
                obtain ⟨b2, off2, a2, c2, e2, _, hc2', hr2⟩ := hVn.cell hk
                simp only [Option.some.injEq, Addr.mk.injEq, and_true] at e2
                obtain ⟨rfl, rfl⟩ := e2
                have hlo := T.len o hoo
                have hlk := T.len k hk
                have hfew := T.few
                have hb1 := T.bits o hoo
                have hb2 := T.bits k hk
                have hm1 := hr1.len
                have hm2 := hr2.len
                unfold maxLen at hm1 hm2
                have Hn := Lib.hid (And.intro hhn (And.intro hsn (And.intro hck hcn))); clear hhn hsn hck hcn
                have Hb := Lib.hid (And.intro hb1 hb2); clear hb1 hb2
                have hll : (getl t o).length = (getl t k).length ∧ (getl t o).length ≤ 1048576 := by omega
                have Hll := Lib.hid hll; clear hll hlo hlk hfew
                cases hin : inR (getl t o) (getl t k)
                · have hst : mxTo (strictB t k) (ch t) (o + 1) = mxTo (strictB t k) (ch t) o := by rw [mxTo, if_neg (by simp [strictB, hin])]
                  have HS := Lib.hid hst; clear hst
                  have Hin := Lib.hid hin; clear hin
                  go_wp2_with fail
                  refine (isContained_b _ _ _ _ _ _ Hin.out hr1 hr2 Hll.out.1 Hll.out.2 Hb.out.1 Hb.out.2).mono ?_
                  rintro e' wp ⟨rfl, hbp⟩
                  go_wp2_with fail
                  go_roundw
                  case rel => exact ⟨o + 1, cn, by omega, by go_num, by rw [hbp.block _ (lt_of_heap Hn.out.1)]; exact Hn.out.1, Hn.out.2.1, by rw [HS.out]; exact Hn.out.2.2.1, Hn.out.2.2.2, hCn.then_below hbp⟩
                  case measure => simp [intOf]; omega
                · cases hsm : decide (getl t o = getl t k)
                  · have hsb : strictB t k o = true := by simp [strictB, hsm, hin]
                    have hst : mxTo (strictB t k) (ch t) (o + 1) = max (mxTo (strictB t k) (ch t) o) (ch t o) := by rw [mxTo, if_pos hsb]
                    obtain ⟨i0, hi0, ei0, hne0⟩ := done_of T HO.out hjj hoo (by rw [Hkd.out]; exact hsb)
                    rw [Hkd.out] at hne0
                    have hco' : cn[o]? = some (.int .i64 (ch t o)) := by have := Hn.out.2.2.2 i0 hi0 (by rw [ei0]; exact hne0); rw [ei0] at this; exact this
                    have hchb := ch_bound t o
                    have HS := Lib.hid hst; clear hst hsb ei0
                    have Hin := Lib.hid hin; clear hin
                    have Hsm := Lib.hid hsm; clear hsm
                    have Hco := Lib.hid hco'; clear hco'
                    go_wp2_with fail
                    refine (isContained_b _ _ _ _ _ _ Hin.out hr1 hr2 Hll.out.1 Hll.out.2 Hb.out.1 Hb.out.2).mono ?_
                    rintro e' wp ⟨rfl, hbp⟩
                    have hCp := hCn.then_below hbp
                    have hbxp : wp.cell? ⟨W.heap.size, 0, none⟩ = some (.slice (some ⟨b1, off1, none⟩) t.length c) := by rw [hCp.cell (by omega) (by omega)]; exact hc5
                    obtain ⟨b3, off3, a3, c3, e3, _, hc3, hr3⟩ := (hVn.below hbp).cell hk
                    simp only [Option.some.injEq, Addr.mk.injEq, and_true] at e3
                    obtain ⟨rfl, rfl⟩ := e3
                    go_wp2_with fail
                    refine (slEqual_b _ _ _ _ _ _ Hsm.out (hr1.below hbp) hr3).mono ?_
                    rintro e' wq ⟨rfl, nq, hwq⟩
                    have hbq : Below wp.heap.size wp wq := by rw [hwq]; exact below_drewN (Below.refl _ _) _
                    clear hwq
                    have hCq := hCp.then_below hbq
                    have hhq : wq.heap[W1.heap.size]? = some (.cells cn 2 (0, 0)) := by rw [hbq.block _ (by have := hCp.size; have := lt_of_heap hL5; omega), hbp.block _ (lt_of_heap Hn.out.1)]; exact Hn.out.1
                    have hq1 : wq.cell? ⟨W1.heap.size, k, none⟩ = some (.int .i64 (mxTo (strictB t k) (ch t) o + 1)) := by rw [cell_of_block hhq]; exact Hn.out.2.2.1
                    have hq2 : wq.cell? ⟨W1.heap.size, o, none⟩ = some (.int .i64 (ch t o)) := by rw [cell_of_block hhq]; exact Hco.out
                    have hfk := frozen_of_block hhq k
                    have hkcn : k < cn.size := by rw [Hn.out.2.1]; exact hk
                    have Hhq := Lib.hid hhq; clear hhq
                    generalize mxTo (strictB t k) (ch t) o = mm at *
                    generalize ch t o = cc at *
                    have hw : wrap64 (cc + 1) = cc + 1 := IntWalk.wrap64_in _ (by omega)
                    go_wp2_with fail
                    go_region
                    go_wp2_with fail
                    go_roundw
                    case rel =>
                      have hmx : max (mm + 1) (cc + 1) = max mm cc + 1 := by omega
                      refine ⟨o + 1, cn.setIfInBounds k (.int .i64 (max mm cc + 1)), by omega, by go_num, ?_, by simp [Hn.out.2.1], ?_, ?_, ?_⟩
                      · exact heap_setCell_self Hhq.out _
                      · rw [HS.out, Array.getElem?_setIfInBounds, if_pos rfl, if_pos hkcn]
                      · intro i hi hne
                        rw [Array.getElem?_setIfInBounds, if_neg (fun e => hne e.symm)]
                        exact Hn.out.2.2.2 i hi hne
                      · exact (hCq.setCell (p := ⟨W1.heap.size, k, none⟩) (.inl rfl) _).drew
                    case measure => simp [intOf]; omega
                  · have hst : mxTo (strictB t k) (ch t) (o + 1) = mxTo (strictB t k) (ch t) o := by rw [mxTo, if_neg (by simp [strictB, of_decide_eq_true hsm])]
                    have HS := Lib.hid hst; clear hst
                    have Hin := Lib.hid hin; clear hin
                    have Hsm := Lib.hid hsm; clear hsm
                    go_wp2_with fail
                    refine (isContained_b _ _ _ _ _ _ Hin.out hr1 hr2 Hll.out.1 Hll.out.2 Hb.out.1 Hb.out.2).mono ?_
                    rintro e' wp ⟨rfl, hbp⟩
                    have hCp := hCn.then_below hbp
                    have hbxp : wp.cell? ⟨W.heap.size, 0, none⟩ = some (.slice (some ⟨b1, off1, none⟩) t.length c) := by rw [hCp.cell (by omega) (by omega)]; exact hc5
                    obtain ⟨b3, off3, a3, c3, e3, _, hc3, hr3⟩ := (hVn.below hbp).cell hk
                    simp only [Option.some.injEq, Addr.mk.injEq, and_true] at e3
                    obtain ⟨rfl, rfl⟩ := e3
                    go_wp2_with fail
                    refine (slEqual_b _ _ _ _ _ _ Hsm.out (hr1.below hbp) hr3).mono ?_
                    rintro e' wq ⟨rfl, nq, hwq⟩
                    have hbq : Below wp.heap.size wp wq := by rw [hwq]; exact below_drewN (Below.refl _ _) _
                    clear hwq
                    go_wp2_with fail
                    go_roundw
                    case rel => exact ⟨o + 1, cn, by omega, by go_num, by rw [hbq.block _ (by have := hCp.size; have := lt_of_heap hL5; omega), hbp.block _ (lt_of_heap Hn.out.1)]; exact Hn.out.1, Hn.out.2.1, by rw [HS.out]; exact Hn.out.2.2.1, Hn.out.2.2.2, hCp.then_below hbq⟩
                    case measure => simp [intOf]; omega
              · obtain rfl : o = t.length := by omega
                have hck2 : cn[k]? = some (.int .i64 (ch t k)) := by rw [hck, ch_eq T hk]
                have hst : mxTo (fun _ => true) (fun i => ch t (ord i)) (j + 1) = max (mxTo (fun _ => true) (fun i => ch t (ord i)) j) (ch t k) := by rw [mxTo, if_pos rfl, Hkd.out]
                have hrc : wr.cell? ⟨W1.heap.size, k, none⟩ = some (.int .i64 (ch t k)) := by rw [cell_of_block hhn]; exact hck2
                have HS := Lib.hid hst; clear hst
                have Hn := Lib.hid (And.intro hhn (And.intro hsn (And.intro hck2 hcn))); clear hhn hsn hck hcn hck2
                generalize mxTo (fun _ => true) (fun i => ch t (ord i)) j = mm at *
                have Hcd := Lib.hid (rfl : ch t k = ch t k)
                obtain ⟨cc, hcc⟩ : ∃ x, ch t k = x := ⟨_, rfl⟩
                rw [hcc] at hrc
                have Hcc := Lib.hid hcc; clear hcc
                go_wp2_with fail
                go_roundw
                case rel =>
                  refine ⟨j + 1, cn, by omega, by go_num, by rw [HS.out, Hcc.out], Hn.out.1, Hn.out.2.1, fun i hi => ?_, hCn⟩
                  by_cases e : ord i = k
                  · rw [e]; exact Hn.out.2.2.1
                  · by_cases e2 : i = j
                    · subst e2; exact absurd Hkd.out e
                    · exact Hn.out.2.2.2 i (by omega) e
                case measure => simp [intOf]; omega
          · obtain rfl : j = t.length := by omega
            rw [show mxTo (fun _ => true) (fun i => ch t (ord i)) t.length = longest t from Hlast.out] at *
            have hBx := hB5.trans (hC.to_below (B := W.heap.size) (fun i hi => by omega) (by omega))
            clear hh hs hcl
            go_wp2_with fail
            go_ret2
            exact ⟨rfl, hBx⟩
end Go.Proofs.Ytcdgechaehljgaa
