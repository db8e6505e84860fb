/- How many outsiders open so many doors: as the reference counts them. No conditions. -/
import Derived.Test.YtmfgdoflddhngaaGreatMRefFirst
namespace Go.Proofs.YtmfgdoflddhngaaGreat
open Go.RowKit
set_option linter.unusedVariables false
set_option linter.unusedSimpArgs false

theorem sel_cnt (locks : List (List (List Int))) (cuts ks : List (List Int)) (D : Nat) : cntL locks (selL locks cuts true ks) 1 D = cntL locks (outsOf cuts ks) 1 D := by
  apply List.ext_getElem (by simp [cntL])
  intro i h1 h2
  simp only [cntL, List.getElem_map, List.getElem_range]
  congr 1
  unfold cntN selL outsOf
  rw [List.countP_filter, List.countP_filter]
  congr 1
  funext k
  unfold selK
  by_cases h : ndoors locks k = 1 + i
  · have : 0 < 1 + i := by omega
    simp [h, this]
  · simp [h]
theorem cntL_take {locks : List (List (List Int))} {list : List (List Int)} {i D p : Nat} (hi : i < list.length) (hp : ndoors locks (getl list i) = p + 1) (hD : p < D) :
    (cntL locks (list.take i) 1 D).set p (geti (cntL locks (list.take i) 1 D) p + 1) = cntL locks (list.take (i + 1)) 1 D := by
  have := cntL_set (locks := locks) (ks := list.take i) (k := getl list i) (lo := 1) (n := D) (by omega) (by omega)
  rw [hp, Nat.add_sub_cancel] at this
  rw [this, ← take_getl hi]

set_option maxRecDepth 100000 in
set_option maxHeartbeats 2000000 in
theorem l22Profile_any {S S' : Nat → Prop} (m : Mk) (u v : Value) (t cuts : List (List Int)) (n : Nat) (W : World) (hf : Fits m t cuts) (hn : (n : Int) = m.c) (h : V2 S W u t) (hc : V2 S' W v cuts) :
    Calls Tryz.prog 119 #[.agg #[.int .i64 m.c, .int .i64 m.d, .int .i64 m.s, .int .i64 m.e, .int .i64 m.l, u], v] W fun e' w' => ∃ G : Nat, e' = .returned (.slice (some ⟨G, 0, none⟩) (getl t 0).length (getl t 0).length) ∧
      BlkI w' G (cntL (locksTo n t cuts (getl t 0).length) (outsOf cuts (keysOf m)) 1 (getl t 0).length) ∧ Below W.heap.size W w' := by
  obtain ⟨a, c, rfl, hmx⟩ := h.form
  obtain ⟨a', c', rfl, hmx'⟩ := hc.form
  have hrows := hf.rows
  have hdoors := hf.doors
  have hkl := keysOf_length hf.ok
  have hmk := Mk.ok_iff.1 hf.ok
  have hc0 : 0 ≤ m.c := by omega
  obtain ⟨W1, hW1, hB01, hz01, HZ01, hc01, hh01⟩ := box_facts W #[.int .i64 m.c, .int .i64 m.d, .int .i64 m.s, .int .i64 m.e, .int .i64 m.l, .slice a t.length c] 28
  have hV1 := (h.below hB01).old
  have hC1 := (hc.below hB01).old
  obtain ⟨b0, off0, a0, c0, rfl, _, hcc0, hr0⟩ := hV1.cell (k := 0) (by omega)
  simp only [Nat.add_zero] at hcc0
  have hout := l21Outsiders_any (S := fun _ => True) (S' := fun _ => True) m (.slice (some ⟨b0, off0, none⟩) t.length c) (.slice a' cuts.length c') t cuts n true
  have hdo := fun (kv : Value) (key : List Int) => l16Doors_any (S := fun _ => True) (S' := fun _ => True) (S2 := fun _ => True) m (.slice (some ⟨b0, off0, none⟩) t.length c) (.slice a' cuts.length c') kv t cuts key n
  obtain ⟨locks, hlocks⟩ : ∃ x, x = locksTo n t cuts (getl t 0).length := ⟨_, rfl⟩
  obtain ⟨D, hD⟩ : ∃ D, (getl t 0).length = D := ⟨_, rfl⟩
  have hll : locks.length = D := by rw [hlocks, locksTo_len, hD]
  rw [← hlocks] at hout ⊢
  simp only [← hlocks] at hdo
  rw [hD] at hcc0 hdoors ⊢
  have hsc := sel_cnt locks cuts (keysOf m) D
  obtain ⟨list, hlist⟩ : ∃ x, selL locks cuts true (keysOf m) = x := ⟨_, rfl⟩
  have hlen : list.length ≤ 262144 := by rw [← hlist]; exact Nat.le_trans (selL_length _ _ _ _) hkl
  have hmem : ∀ i, i < list.length → (∃ p, ndoors locks (getl list i) = p + 1 ∧ p < D) ∧ (getl list i).length ≤ n := fun i hi => by
    have h1 := getl_mem hi
    rw [← hlist] at h1
    unfold selL at h1
    rw [List.mem_filter] at h1
    have h2 := (isKey_iff.1 ((mem_keysOf hc0).1 h1.1)).1
    have h3 : 0 < ndoors locks (getl (selL locks cuts true (keysOf m)) i) := by
      have := h1.2
      unfold selK at this
      simp only [Bool.and_eq_true, beq_iff_eq, decide_eq_true_eq] at this
      exact this.1
    rw [hlist] at h3
    have h4 := ndoors_le locks (getl list i)
    have h5 : ((getl list i).length : Int) = m.c := by rw [← hlist]; exact h2
    exact ⟨⟨ndoors locks (getl list i) - 1, by omega, by omega⟩, by omega⟩
  rw [hlist] at hout hsc
  have Hmem := Lib.hid (And.intro hmem hsc); clear hmem hsc
  have HD := Lib.hid (And.intro hD (And.intro hlocks (And.intro hll (And.intro hlist hcc0)))); clear hD hlocks hll hlist hkl hmk hc0 hcc0 hr0
  have Hf := Lib.hid (And.intro hf (And.intro hn (And.intro hout hdo))); clear hf hn hout hdo
  go_enter Tryz.func119, Tryz.ntmps119
  go_wp2_with fail
  rw [← hW1]
  refine (Hf.out.2.2.1 _ Hf.out.1 Hf.out.2.1 hV1.any hC1.any).mono ?_
  rintro e' wS ⟨lv, rfl, hlv, hbS⟩
  have hxS : ∀ o, wS.cell? ⟨W.heap.size, o, none⟩ = (#[.int .i64 m.c, .int .i64 m.d, .int .i64 m.s, .int .i64 m.e, .int .i64 m.l, .slice (some ⟨b0, off0, none⟩) t.length c] : Array Value)[o]? := fun o => by rw [(bcell hbS).1 _ _ hz01, hc01]
  have hccS := cell_keep HD.out.2.2.2.2 (hbS.block _ (lt_of_cell HD.out.2.2.2.2))
  obtain ⟨la, lc, rfl, hlm⟩ := hlv.form
  have hzS := hbS.size
  have HW1 := Lib.hid hW1; clear hW1 hh01
  have Hc01 := Lib.hid hc01; clear hc01
  go_wp2_with (at_make; refine wp_mk _ rfl _ _ 46 rfl 2 (.int .i64 0) 1 8 Tryz.underlying46 inf_int D rfl rfl (by omega) (by omega) ?_; intro w2 cs0 hh0 hs0 ht0 hB0 hsz0)
  have hblk := blk_made hh0 ht0
  rw [← cntL_nil locks 1 D] at hblk
  have hb12 := hbS.trans (hB0.mono hzS)
  have hne : ∀ b, b < wS.heap.size → b ≠ wS.heap.size := fun b hb e => by omega
  have hV2 : V2 (fun b => b ≠ wS.heap.size) w2 (.slice (some ⟨b0, off0, none⟩) t.length c) t := ((hV1.below hbS).below hB0).mono (fun b h1 h2 => hne b (by have h1' : b < W1.heap.size := h1; omega)) (fun _ _ _ => rfl)
  have hC2 : V2 (fun b => b ≠ wS.heap.size) w2 (.slice a' cuts.length c') cuts := ((hC1.below hbS).below hB0).mono (fun b h1 h2 => hne b (by have h1' : b < W1.heap.size := h1; omega)) (fun _ _ _ => rfl)
  have hL2 : V2 (fun b => b ≠ wS.heap.size) w2 (.slice la list.length lc) list := (hlv.below hB0).mono (fun b h1 h2 => hne b h1) (fun _ _ _ => rfl)
  clear hxS hccS
  have HB := Lib.hid hblk; clear hblk hh0 ht0
  go_loopw [7] (fun i wr => ∃ k : Nat, k ≤ list.length ∧ i = .int .i64 (k : Int) ∧ BlkI wr wS.heap.size (cntL locks (list.take k) 1 D) ∧ Chg (fun b => b = wS.heap.size) w2 wr) (fun i _ => list.length - (intOf i).toNat)
  case atStart => exact ⟨0, Nat.zero_le _, rfl, HB.out, Chg.refl _ _⟩
  case round =>
    obtain ⟨k, hk, rfl, hblk, hch⟩ := hrel
    have hzr := hch.size
    have hz12 := hb12.size
    by_cases hkk : k < list.length
    · obtain ⟨⟨p, hp, hpD⟩, hkn⟩ := Hmem.out.1 k hkk
      obtain ⟨b1, off1, a1, c1, rfl, _, hc1, hr1⟩ := (hL2.mono (S' := fun _ => True) (fun _ _ _ => trivial) (hch.keep fun b hb => hb)).cell hkk
      have hVr := hV2.mono (S' := fun _ => True) (fun _ _ _ => trivial) (hch.keep fun b hb => hb)
      have hCr := hC2.mono (S' := fun _ => True) (fun _ _ _ => trivial) (hch.keep fun b hb => hb)
      have hxr : ∀ o, wr.cell? ⟨W.heap.size, o, none⟩ = (#[.int .i64 m.c, .int .i64 m.d, .int .i64 m.s, .int .i64 m.e, .int .i64 m.l, .slice (some ⟨b0, off0, none⟩) t.length c] : Array Value)[o]? := fun o => by
        rw [hch.cell (by omega) (by omega), (bcell hb12).1 _ _ hz01, Hc01.out]
      have hdr : Below wr.heap.size wr wr.drew := (Below.refl _ _).drew
      have hlk := cntL_len locks (list.take k) 1 D
      have hge := cntL_get (locks := locks) (ks := list.take k) (lo := 1) (n := D) (j := p) hpD
      have hcn := cntN_le locks (list.take k) (1 + p)
      have htl : (list.take k).length ≤ k := List.length_take_le _ _
      obtain ⟨x, hx⟩ : ∃ x, geti (cntL locks (list.take k) 1 D) p = x := ⟨_, rfl⟩
      have hxb : 0 ≤ x ∧ x ≤ 262144 := by omega
      have hcell := hblk.cell (k := p) (by omega)
      rw [hx] at hcell
      have hst := cntL_take hkk hp hpD
      rw [hx] at hst
      have Hst := Lib.hid (And.intro hst (And.intro hp hblk)); clear hst hp hblk hx hge hcn
      have hw1 : IntKind.i64.wrap (p : Int) = (p : Int) := IntWalk.i64_in _ (by omega)
      have hw2 : IntKind.i64.wrap (x + 1) = x + 1 := IntWalk.i64_in _ (by omega)
      have hp0 : (0 : Int) ≤ (p : Int) := by omega
      have hpD2 : (p : Int) < (D : Int) := by omega
      have hGr : wS.heap.size < wr.heap.size := by omega
      have hzw : W.heap.size < wr.heap.size := by omega
      go_wp2_with fail
      go_region_law? (go_simp; go_at_call 134; refine (Hf.out.2.2.2 _ (getl list k) _ Hf.out.1 Hf.out.2.1 hkn (hVr.below hdr) (hCr.below hdr) ((hr1.any).below hdr)).mono ?_; rintro e' wq ⟨vq, rfl, hFq, hbq⟩; obtain ⟨aq, cq, rfl, hqm⟩ := hFq.v1.form; rw [show (doorsOf locks (getl list k)).length = p + 1 from Hst.out.2.1]; have hb0q : Below wr.heap.size wr wq := hdr.trans (hbq.mono (Nat.le_refl _)); have hcq : wq.cell? ⟨wS.heap.size, p, none⟩ = some (.int .i64 x) := cell_keep hcell (hb0q.block _ (lt_of_cell hcell)); have hbk : BlkI wq wS.heap.size (cntL locks (list.take k) 1 D) := Hst.out.2.2.keep (hb0q.block _ hGr); have hfq := hbk.frozen p; (try dsimp only))
      all_goals go_wp2
      all_goals go_roundw
      all_goals first
        | (show _ ∨ _; exact .inl (by simp [intOf]; omega))
        | exact ⟨k + 1, by omega, by go_num, by rw [← Hst.out.1]; exact hbk.set p (x + 1), (hch.then_below hb0q).setCell (.inl rfl) _⟩
        | (simp [intOf]; omega)
    · obtain rfl : k = list.length := by omega
      rw [List.take_length, Hmem.out.2] at hblk
      have Hb := Lib.hid hblk; clear hblk
      go_wp2_with fail
      go_ret
      exact ⟨_, rfl, Hb.out, hB01.trans ((hb12.trans (hch.to_below (fun i hi => by omega) hb12.size)).mono (by omega))⟩
end Go.Proofs.YtmfgdoflddhngaaGreat

namespace Go.Proofs.YtmfgdoflddhngaaGreat
open Go.RowKit
set_option linter.unusedVariables false
set_option linter.unusedSimpArgs false

/-- The last place of a count above 0 among the first k, counted from 1; 0 if there is none. -/
def worst (l : List Int) : Nat → Int
  | 0 => 0
  | k + 1 => if 0 < geti l k then (k : Int) + 1 else worst l k
theorem worst_bd (l : List Int) (k : Nat) : 0 ≤ worst l k ∧ worst l k ≤ k := by
  induction k with
  | zero => exact ⟨Int.le_refl _, Int.le_refl _⟩
  | succ k ih => unfold worst; split <;> omega
/-- The profile of a system. -/
def profAns (m : Mk) (t cuts : List (List Int)) : List Int × Int :=
  if designC m t cuts ≠ 0 then ([], designC m t cuts) else (cntL (locksTo m.c.toNat t cuts (getl t 0).length) (outsOf cuts (keysOf m)) 1 (getl t 0).length, 0)
theorem profAns_few (m : Mk) (t cuts : List (List Int)) : Few (profAns m t cuts).1 := by
  unfold profAns
  split
  · exact ⟨by simp, fun x hx => by simp at hx⟩
  · rename_i hp
    have hf := (design_fits (Classical.not_not.1 hp)).1
    have hkl := keysOf_length hf.ok
    have hdoors := hf.doors
    have := outsOf_length cuts (keysOf m)
    exact cntL_few (by omega) (by omega)
theorem profAns_len (m : Mk) (t cuts : List (List Int)) : (profAns m t cuts).1.length ≤ 1048576 := Nat.le_trans (profAns_few m t cuts).1 (by omega)
def worstAns (m : Mk) (t cuts : List (List Int)) : Int × Int := (worst (profAns m t cuts).1 (profAns m t cuts).1.length, (profAns m t cuts).2)
theorem F1.nil0 {B : Nat} {w : World} : F1 B w (.slice none 0 0) [] := ⟨0, ⟨none, 0, rfl, Nat.le_refl _, Nat.zero_le _, fun hn => absurd rfl hn⟩, fun hn => absurd rfl hn⟩
theorem ProfileOf_any {S S' : Nat → Prop} (m : Mk) (u v : Value) (t cuts : List (List Int)) (W : World) (h : V2 S W u t) (hc : V2 S' W v cuts) :
    Calls Tryz.prog 38 #[.agg #[.int .i64 m.c, .int .i64 m.d, .int .i64 m.s, .int .i64 m.e, .int .i64 m.l, u], v] W fun e' w' => ∃ v', e' = .returned (.tuple #[v', .int .i64 (profAns m t cuts).2]) ∧ F1 W.heap.size w' v' (profAns m t cuts).1 ∧ Below W.heap.size W w' := by
  obtain ⟨a, c, rfl, hmx⟩ := h.form
  obtain ⟨a', c', rfl, hmx'⟩ := hc.form
  obtain ⟨W1, hW1, hB01, hz01, HZ01, hc01, hh01⟩ := box_facts W #[.int .i64 m.c, .int .i64 m.d, .int .i64 m.s, .int .i64 m.e, .int .i64 m.l, .slice a t.length c] 28
  have hV1 := (h.below hB01).any
  have hC1 := (hc.below hB01).any
  have hcode := designCode_any m _ _ t cuts W1 hV1 hC1
  by_cases hp : designC m t cuts = 0
  · rw [hp] at hcode
    have hf := (design_fits hp).1
    have hmc := mc_nat hf.ok
    have hdoors := hf.doors
    have hkl := keysOf_length hf.ok
    have hol := outsOf_length cuts (keysOf m)
    obtain ⟨locks, hlocks⟩ : ∃ x, x = locksTo m.c.toNat t cuts (getl t 0).length := ⟨_, rfl⟩
    obtain ⟨D, hD⟩ : ∃ D, (getl t 0).length = D := ⟨_, rfl⟩
    have hll : locks.length = D := by rw [hlocks, locksTo_len, hD]
    have hfin : profAns m t cuts = (cntL locks (outsOf cuts (keysOf m)) 1 D, 0) := by unfold profAns; rw [if_neg (by rw [hp]; decide), ← hlocks, hD]
    have hpr := profileOf_any (S := fun _ => True) (S' := fun _ => True) m (.slice a t.length c) (.slice a' cuts.length c') t cuts m.c.toNat
    rw [← hlocks, hD] at hpr
    rw [hfin]
    rw [hD] at hdoors
    have Hf := Lib.hid (And.intro hf (And.intro hmc hpr)); clear hf hmc hpr hol hkl
    have Hp := Lib.hid (And.intro hp (And.intro hfin (And.intro hlocks (And.intro hD hll)))); clear hp hfin hlocks hD hll
    have Hcode := Lib.hid hcode; clear hcode
    go_enter Tryz.func38, Tryz.ntmps38
    go_wp2_with fail
    rw [← hW1]
    refine Hcode.out.mono ?_
    rintro e' w2 ⟨rfl, hb2⟩
    have hx2 : ∀ o, w2.cell? ⟨W.heap.size, o, none⟩ = (#[.int .i64 m.c, .int .i64 m.d, .int .i64 m.s, .int .i64 m.e, .int .i64 m.l, .slice a t.length c] : Array Value)[o]? := fun o => by rw [(bcell hb2).1 _ _ hz01, hc01]
    have hz2 : W.heap.size < w2.heap.size := by have := hb2.size; omega
    clear hc01 hh01
    go_wp2_with fail
    refine (Hf.out.2.2 _ Hf.out.1 Hf.out.2.1 (hV1.below hb2) (hC1.below hb2)).mono ?_
    rintro e' w3 ⟨G, rfl, hG, hblk, hb3⟩
    have hx := hblk.x1 (off := 1) (by rw [cntL_len]; omega) (by rw [cntL_len]; omega)
    rw [cntL_drop, cntL_len] at hx
    have Hx := Lib.hid hx; clear hx hblk hx2
    have h1D : (1 : Int) ≤ ((D : Int) + 1) := by omega
    go_wp2_with fail
    go_ret2
    exact ⟨_, rfl, ⟨G, Hx.out, fun _ => by have := hb2.size; omega⟩, hB01.trans ((hb2.trans (hb3.mono hb2.size)).mono (by omega))⟩
  · have hfin : profAns m t cuts = ([], designC m t cuts) := by unfold profAns; rw [if_pos hp]; (try rfl)
    have e1 : (designC m t cuts != 0) = true := by simp [hp]
    rw [hfin]
    have Hp := Lib.hid (And.intro hp hfin); clear hp hfin
    generalize designC m t cuts = pc at *
    go_enter Tryz.func38, Tryz.ntmps38
    go_wp2_with fail
    rw [← hW1]
    refine hcode.mono ?_
    rintro e' w2 ⟨rfl, hb2⟩
    clear hc01 hh01
    go_wp2_with fail
    go_ret2
    exact ⟨_, rfl, F1.nil0, hB01.trans (hb2.mono (by omega))⟩
theorem WorstSeverity_any {S S' : Nat → Prop} (m : Mk) (u v : Value) (t cuts : List (List Int)) (W : World) (h : V2 S W u t) (hc : V2 S' W v cuts) :
    Calls Tryz.prog 27 #[.agg #[.int .i64 m.c, .int .i64 m.d, .int .i64 m.s, .int .i64 m.e, .int .i64 m.l, u], v] W fun e' w' => e' = .returned (.tuple #[.int .i64 (worstAns m t cuts).1, .int .i64 (worstAns m t cuts).2]) ∧ Below W.heap.size W w' := by
  obtain ⟨a, c, rfl, hmx⟩ := h.form
  obtain ⟨a', c', rfl, hmx'⟩ := hc.form
  obtain ⟨W1, hW1, hB01, hz01, HZ01, hc01, hh01⟩ := box_facts W #[.int .i64 m.c, .int .i64 m.d, .int .i64 m.s, .int .i64 m.e, .int .i64 m.l, .slice a t.length c] 28
  have hV1 := (h.below hB01).any
  have hC1 := (hc.below hB01).any
  have hpr := ProfileOf_any m _ _ t cuts W1 hV1 hC1
  have hfew := profAns_few m t cuts
  unfold worstAns
  obtain ⟨l, hl⟩ : ∃ x, (profAns m t cuts).1 = x := ⟨_, rfl⟩
  obtain ⟨z, hz⟩ : ∃ x, (profAns m t cuts).2 = x := ⟨_, rfl⟩
  rw [hl] at hpr hfew ⊢
  rw [hz] at hpr ⊢
  obtain ⟨r, hr⟩ : ∃ x, worst l l.length = x := ⟨_, rfl⟩
  rw [hr]
  have hlen := hfew.1
  have Hpr := Lib.hid (And.intro hpr (And.intro hl (And.intro hz hr))); clear hpr hl hz hr hfew
  go_enter Tryz.func27, Tryz.ntmps27
  go_wp2_with fail
  rw [← hW1]
  refine Hpr.out.1.mono ?_
  rintro e' w2 ⟨v', rfl, hF, hb2⟩
  have hV := hF.v1
  obtain ⟨la, lc, rfl, hlm⟩ := hV.form
  clear hc01 hh01 hF
  go_wp2_with fail
  go_loop [8, 9, 10, 19] (fun s _ _ i => ∃ k : Nat, k ≤ l.length ∧ i = .int .i64 (k : Int) ∧ s = .int .i64 (worst l k)) (fun _ _ _ i => l.length - (intOf i).toNat)
  case atStart => exact ⟨0, Nat.zero_le _, rfl, rfl⟩
  case round =>
    obtain ⟨k, hk, rfl, rfl⟩ := hrel
    have hst : worst l (k + 1) = if 0 < geti l k then (k : Int) + 1 else worst l k := rfl
    obtain ⟨q, hq⟩ : ∃ q, worst l k = q := ⟨_, rfl⟩
    rw [hq] at hst ⊢
    by_cases hkk : k < l.length
    · obtain ⟨b2, off2, rfl, _, hc2⟩ := hV.cell hkk
      obtain ⟨x, hx⟩ : ∃ x, geti l k = x := ⟨_, rfl⟩
      rw [hx] at hst hc2
      have Hq := Lib.hid (And.intro hq hx); clear hq hx
      by_cases hx0 : 0 < x
      · rw [if_pos hx0] at hst
        have Hst := Lib.hid hst; clear hst
        go_wp2_with fail
        go_round
        case rel => exact ⟨k + 1, by omega, by go_num, by rw [Hst.out]⟩
        case measure => simp [intOf]; omega
      · rw [if_neg hx0] at hst
        have Hst := Lib.hid hst; clear hst
        go_wp2_with fail
        go_round
        case rel => exact ⟨k + 1, by omega, by go_num, by rw [Hst.out]⟩
        case measure => simp [intOf]; omega
    · obtain rfl : k = l.length := by omega
      have Hst := Lib.hid hst; clear hst
      have Hq := Lib.hid hq; clear hq
      go_wp2_with fail
      go_ret2
      obtain rfl : q = r := Hq.out.symm.trans Hpr.out.2.2.2
      exact ⟨rfl, hB01.trans (hb2.mono (by omega))⟩
set_option maxRecDepth 100000 in
theorem l22Worst_any {S : Nat → Prop} (v : Value) (l : List Int) (W : World) (r : Int) (hr : worst l l.length = r) (h : V1 S W v l) (hlen : l.length ≤ 1000) :
    Calls Tryz.prog 122 #[v] W fun e' w' => e' = .returned (.int .i64 r) ∧ W = w' := by
  have hV := h
  obtain ⟨a, c, rfl, hm⟩ := h.form
  have Hr := Lib.hid hr; clear hr
  obtain ⟨z0, hz0⟩ : ∃ z, z = (l.length : Int) - 1 := ⟨_, rfl⟩
  go_enter Tryz.func122, Tryz.ntmps122
  go_wp2_with fail
  go_loop [3] (fun i => ∃ (k : Nat) (z : Int), k ≤ l.length ∧ z = (k : Int) - 1 ∧ i = .int .i64 z ∧ worst l k = r) (fun i => (intOf i + 1).toNat)
  case atStart => exact ⟨l.length, z0, Nat.le_refl _, hz0, by go_num, Hr.out⟩
  case round =>
    obtain ⟨k, z, hk, hz, rfl, hq⟩ := hrel
    cases k with
    | zero =>
      have hzn : z < 0 := by omega
      clear hz
      have Hq := Lib.hid hq; clear hq
      go_wp2_with fail
      go_ret
      exact ⟨ret_int Hq.out, rfl⟩
    | succ k =>
      have hst : worst l (k + 1) = if 0 < geti l k then (k : Int) + 1 else worst l k := rfl
      rw [hq] at hst
      obtain rfl : z = (k : Int) := by omega
      clear hz
      obtain ⟨b2, off2, rfl, _, hc2⟩ := hV.cell (show k < l.length by omega)
      obtain ⟨x, hx⟩ : ∃ x, geti l k = x := ⟨_, rfl⟩
      rw [hx] at hst hc2
      have Hq := Lib.hid (And.intro hq hx); clear hq hx
      obtain ⟨z2, hz2⟩ : ∃ z2, z2 = (k : Int) - 1 := ⟨_, rfl⟩
      by_cases hx0 : 0 < x
      · rw [if_pos hx0] at hst
        have Hst := Lib.hid hst; clear hst
        go_wp2_with fail
        go_ret
        exact ⟨ret_int Hst.out.symm, rfl⟩
      · rw [if_neg hx0] at hst
        have Hst := Lib.hid hst; clear hst
        go_wp2_with fail
        go_round
        case rel => exact ⟨k, z2, by omega, hz2, by go_num, Hst.out.symm⟩
        case measure => simp [intOf]
end Go.Proofs.YtmfgdoflddhngaaGreat
