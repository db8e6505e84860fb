/- How many outsiders open so many doors: as the reference counts them. No conditions. -/
import Derived.Test.YtbckginfipeibaaGreatSum
namespace Go.Proofs.YtbckginfipeibaaGreat
open Go.RowKit
set_option linter.unusedVariables false
set_option linter.unusedSimpArgs false

theorem sel_cnt (locks : List (List (List Int))) (cuts ks : List (List Int)) (D : Nat) : cntL locks (selL locks cuts true ks) 1 D = cntL locks (outsOf cuts ks) 1 D := by
  apply List.ext_getElem (by simp [cntL])
  intro i h1 h2
  simp only [cntL, List.getElem_map, List.getElem_range]
  congr 1
  unfold cntN selL outsOf
  rw [List.countP_filter, List.countP_filter]
  congr 1
  funext k
  unfold selK
  by_cases h : ndoors locks k = 1 + i
  · have : 0 < 1 + i := by omega
    simp [h, this]
  · simp [h]
theorem cntL_take {locks : List (List (List Int))} {list : List (List Int)} {i D p : Nat} (hi : i < list.length) (hp : ndoors locks (getl list i) = p + 1) (hD : p < D) :
    (cntL locks (list.take i) 1 D).set p (geti (cntL locks (list.take i) 1 D) p + 1) = cntL locks (list.take (i + 1)) 1 D := by
  have := cntL_set (locks := locks) (ks := list.take i) (k := getl list i) (lo := 1) (n := D) (by omega) (by omega)
  rw [hp, Nat.add_sub_cancel] at this
  rw [this, ← take_getl hi]

set_option maxRecDepth 100000 in
set_option maxHeartbeats 2000000 in
theorem l22Profile_any {S S' : Nat → Prop} (m : Mk) (u v : Value) (t cuts : List (List Int)) (n : Nat) (W : World) (hf : Fits m t cuts) (hn : (n : Int) = m.c) (h : V2 S W u t) (hc : V2 S' W v cuts) :
    Calls Tryz.prog 35 #[.agg #[.int .i64 m.c, .int .i64 m.d, .int .i64 m.s, .int .i64 m.e, .int .i64 m.l, u], v] W fun e' w' => ∃ G : Nat, e' = .returned (.slice (some ⟨G, 0, none⟩) (getl t 0).length (getl t 0).length) ∧
      BlkI w' G (cntL (locksTo n t cuts (getl t 0).length) (outsOf cuts (keysOf m)) 1 (getl t 0).length) ∧ Below W.heap.size W w' := by
  obtain ⟨a, c, rfl, hmx⟩ := h.form
  obtain ⟨a', c', rfl, hmx'⟩ := hc.form
  have hrows := hf.rows
  have hdoors := hf.doors
  have hkl := keysOf_length hf.ok
  have hmk := Mk.ok_iff.1 hf.ok
  have hc0 : 0 ≤ m.c := by omega
  obtain ⟨W1, hW1, hB01, hz01, HZ01, hc01, hh01⟩ := box_facts W #[.int .i64 m.c, .int .i64 m.d, .int .i64 m.s, .int .i64 m.e, .int .i64 m.l, .slice a t.length c] 33
  have hV1 := (h.below hB01).old
  have hC1 := (hc.below hB01).old
  obtain ⟨b0, off0, a0, c0, rfl, _, hcc0, hr0⟩ := hV1.cell (k := 0) (by omega)
  simp only [Nat.add_zero] at hcc0
  have hout := l21Outsiders_any (S := fun _ => True) (S' := fun _ => True) m (.slice (some ⟨b0, off0, none⟩) t.length c) (.slice a' cuts.length c') t cuts n true
  have hdo := fun (kv : Value) (key : List Int) => l16Doors_any (S := fun _ => True) (S' := fun _ => True) (S2 := fun _ => True) m (.slice (some ⟨b0, off0, none⟩) t.length c) (.slice a' cuts.length c') kv t cuts key n
  obtain ⟨locks, hlocks⟩ : ∃ x, x = locksTo n t cuts (getl t 0).length := ⟨_, rfl⟩
  obtain ⟨D, hD⟩ : ∃ D, (getl t 0).length = D := ⟨_, rfl⟩
  have hll : locks.length = D := by rw [hlocks, locksTo_len, hD]
  rw [← hlocks] at hout ⊢
  simp only [← hlocks] at hdo
  rw [hD] at hcc0 hdoors ⊢
  have hsc := sel_cnt locks cuts (keysOf m) D
  obtain ⟨list, hlist⟩ : ∃ x, selL locks cuts true (keysOf m) = x := ⟨_, rfl⟩
  have hlen : list.length ≤ 262144 := by rw [← hlist]; exact Nat.le_trans (selL_length _ _ _ _) hkl
  have hmem : ∀ i, i < list.length → (∃ p, ndoors locks (getl list i) = p + 1 ∧ p < D) ∧ (getl list i).length ≤ n := fun i hi => by
    have h1 := getl_mem hi
    rw [← hlist] at h1
    unfold selL at h1
    rw [List.mem_filter] at h1
    have h2 := (isKey_iff.1 ((mem_keysOf hc0).1 h1.1)).1
    have h3 : 0 < ndoors locks (getl (selL locks cuts true (keysOf m)) i) := by
      have := h1.2
      unfold selK at this
      simp only [Bool.and_eq_true, beq_iff_eq, decide_eq_true_eq] at this
      exact this.1
    rw [hlist] at h3
    have h4 := ndoors_le locks (getl list i)
    have h5 : ((getl list i).length : Int) = m.c := by rw [← hlist]; exact h2
    exact ⟨⟨ndoors locks (getl list i) - 1, by omega, by omega⟩, by omega⟩
  rw [hlist] at hout hsc
  have Hmem := Lib.hid (And.intro hmem hsc); clear hmem hsc
  have HD := Lib.hid (And.intro hD (And.intro hlocks (And.intro hll (And.intro hlist hcc0)))); clear hD hlocks hll hlist hkl hmk hc0 hcc0 hr0
  have Hf := Lib.hid (And.intro hf (And.intro hn (And.intro hout hdo))); clear hf hn hout hdo
  go_enter Tryz.func35, Tryz.ntmps35
  go_wp2_with fail
  rw [← hW1]
  refine (Hf.out.2.2.1 _ Hf.out.1 Hf.out.2.1 hV1.any hC1.any).mono ?_
  rintro e' wS ⟨lv, rfl, hlv, hbS⟩
  have hxS : ∀ o, wS.cell? ⟨W.heap.size, o, none⟩ = (#[.int .i64 m.c, .int .i64 m.d, .int .i64 m.s, .int .i64 m.e, .int .i64 m.l, .slice (some ⟨b0, off0, none⟩) t.length c] : Array Value)[o]? := fun o => by rw [(bcell hbS).1 _ _ hz01, hc01]
  have hccS := cell_keep HD.out.2.2.2.2 (hbS.block _ (lt_of_cell HD.out.2.2.2.2))
  obtain ⟨la, lc, rfl, hlm⟩ := hlv.form
  have hzS := hbS.size
  have HW1 := Lib.hid hW1; clear hW1 hh01
  have Hc01 := Lib.hid hc01; clear hc01
  go_wp2_with (at_make; refine wp_mk _ rfl _ _ 44 rfl 2 (.int .i64 0) 1 8 Tryz.underlying44 inf_int D rfl rfl (by omega) (by omega) ?_; intro w2 cs0 hh0 hs0 ht0 hB0 hsz0)
  have hblk := blk_made hh0 ht0
  rw [← cntL_nil locks 1 D] at hblk
  have hb12 := hbS.trans (hB0.mono hzS)
  have hne : ∀ b, b < wS.heap.size → b ≠ wS.heap.size := fun b hb e => by omega
  have hV2 : V2 (fun b => b ≠ wS.heap.size) w2 (.slice (some ⟨b0, off0, none⟩) t.length c) t := ((hV1.below hbS).below hB0).mono (fun b h1 h2 => hne b (by have h1' : b < W1.heap.size := h1; omega)) (fun _ _ _ => rfl)
  have hC2 : V2 (fun b => b ≠ wS.heap.size) w2 (.slice a' cuts.length c') cuts := ((hC1.below hbS).below hB0).mono (fun b h1 h2 => hne b (by have h1' : b < W1.heap.size := h1; omega)) (fun _ _ _ => rfl)
  have hL2 : V2 (fun b => b ≠ wS.heap.size) w2 (.slice la list.length lc) list := (hlv.below hB0).mono (fun b h1 h2 => hne b h1) (fun _ _ _ => rfl)
  clear hxS hccS
  have HB := Lib.hid hblk; clear hblk hh0 ht0
  go_loopw [7] (fun i wr => ∃ k : Nat, k ≤ list.length ∧ i = .int .i64 (k : Int) ∧ BlkI wr wS.heap.size (cntL locks (list.take k) 1 D) ∧ Chg (fun b => b = wS.heap.size) w2 wr) (fun i _ => list.length - (intOf i).toNat)
  case atStart => exact ⟨0, Nat.zero_le _, rfl, HB.out, Chg.refl _ _⟩
  case round =>
    obtain ⟨k, hk, rfl, hblk, hch⟩ := hrel
    have hzr := hch.size
    have hz12 := hb12.size
    by_cases hkk : k < list.length
    · obtain ⟨⟨p, hp, hpD⟩, hkn⟩ := Hmem.out.1 k hkk
      obtain ⟨b1, off1, a1, c1, rfl, _, hc1, hr1⟩ := (hL2.mono (S' := fun _ => True) (fun _ _ _ => trivial) (hch.keep fun b hb => hb)).cell hkk
      have hVr := hV2.mono (S' := fun _ => True) (fun _ _ _ => trivial) (hch.keep fun b hb => hb)
      have hCr := hC2.mono (S' := fun _ => True) (fun _ _ _ => trivial) (hch.keep fun b hb => hb)
      have hxr : ∀ o, wr.cell? ⟨W.heap.size, o, none⟩ = (#[.int .i64 m.c, .int .i64 m.d, .int .i64 m.s, .int .i64 m.e, .int .i64 m.l, .slice (some ⟨b0, off0, none⟩) t.length c] : Array Value)[o]? := fun o => by
        rw [hch.cell (by omega) (by omega), (bcell hb12).1 _ _ hz01, Hc01.out]
      have hdr : Below wr.heap.size wr wr.drew := (Below.refl _ _).drew
      have hlk := cntL_len locks (list.take k) 1 D
      have hge := cntL_get (locks := locks) (ks := list.take k) (lo := 1) (n := D) (j := p) hpD
      have hcn := cntN_le locks (list.take k) (1 + p)
      have htl : (list.take k).length ≤ k := List.length_take_le _ _
      obtain ⟨x, hx⟩ : ∃ x, geti (cntL locks (list.take k) 1 D) p = x := ⟨_, rfl⟩
      have hxb : 0 ≤ x ∧ x ≤ 262144 := by omega
      have hcell := hblk.cell (k := p) (by omega)
      rw [hx] at hcell
      have hst := cntL_take hkk hp hpD
      rw [hx] at hst
      have Hst := Lib.hid (And.intro hst (And.intro hp hblk)); clear hst hp hblk hx hge hcn
      have hw1 : IntKind.i64.wrap (p : Int) = (p : Int) := IntWalk.i64_in _ (by omega)
      have hw2 : IntKind.i64.wrap (x + 1) = x + 1 := IntWalk.i64_in _ (by omega)
      have hp0 : (0 : Int) ≤ (p : Int) := by omega
      have hpD2 : (p : Int) < (D : Int) := by omega
      have hGr : wS.heap.size < wr.heap.size := by omega
      have hzw : W.heap.size < wr.heap.size := by omega
      go_wp2_with fail
      go_region_law? (go_simp; go_at_call 22; refine (Hf.out.2.2.2 _ (getl list k) _ Hf.out.1 Hf.out.2.1 hkn (hVr.below hdr) (hCr.below hdr) ((hr1.any).below hdr)).mono ?_; rintro e' wq ⟨vq, rfl, hFq, hbq⟩; obtain ⟨aq, cq, rfl, hqm⟩ := hFq.v1.form; rw [show (doorsOf locks (getl list k)).length = p + 1 from Hst.out.2.1]; have hb0q : Below wr.heap.size wr wq := hdr.trans (hbq.mono (Nat.le_refl _)); have hcq : wq.cell? ⟨wS.heap.size, p, none⟩ = some (.int .i64 x) := cell_keep hcell (hb0q.block _ (lt_of_cell hcell)); have hbk : BlkI wq wS.heap.size (cntL locks (list.take k) 1 D) := Hst.out.2.2.keep (hb0q.block _ hGr); have hfq := hbk.frozen p; (try dsimp only))
      all_goals go_wp2
      all_goals go_roundw
      all_goals first
        | (show _ ∨ _; exact .inl (by simp [intOf]; omega))
        | exact ⟨k + 1, by omega, by go_num, by rw [← Hst.out.1]; exact hbk.set p (x + 1), (hch.then_below hb0q).setCell (.inl rfl) _⟩
        | (simp [intOf]; omega)
    · obtain rfl : k = list.length := by omega
      rw [List.take_length, Hmem.out.2] at hblk
      have Hb := Lib.hid hblk; clear hblk
      go_wp2_with fail
      go_ret
      exact ⟨_, rfl, Hb.out, hB01.trans ((hb12.trans (hch.to_below (fun i hi => by omega) hb12.size)).mono (by omega))⟩
end Go.Proofs.YtbckginfipeibaaGreat
