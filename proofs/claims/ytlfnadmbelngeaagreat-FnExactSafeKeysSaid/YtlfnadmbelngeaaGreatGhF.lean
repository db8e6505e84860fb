/- A list of lists in memory of one's own, with the blocks named; the visit that gathers the first outsiders of a kind. No conditions. -/
import Derived.Test.YtlfnadmbelngeaaGreatSort
import Derived.Test.YtlfnadmbelngeaaGreatOut
import Derived.Test.YtlfnadmbelngeaaGreatHullI
import Derived.Test.YtlfnadmbelngeaaGreatOuts
import Derived.Test.YtlfnadmbelngeaaGreatGhosts
namespace Go.Proofs.YtlfnadmbelngeaaGreat
open Go.RowKit
set_option linter.unusedVariables false
set_option linter.unusedSimpArgs false

/-- As Out2, the rows' values and their blocks named. -/
def Out2x (B : Nat) (w : World) (v : Value) (ls : List (List Int)) (vs : List Value) (bk : Nat → Nat) : Prop :=
  w.ownsRow B 29 1 v ls.length vs ∧ (∀ k, k < ls.length → ∃ rv, vs[k]? = some rv ∧ X1 w rv (getl ls k) (bk k)) ∧
    (∀ k, k < ls.length → getl ls k ≠ [] → B ≤ bk k ∧ v.ownBlock ≠ some (bk k) ∧ ∀ j, j < ls.length → j ≠ k → getl ls j ≠ [] → bk j ≠ bk k)
theorem Out2x.out {B : Nat} {w : World} {v : Value} {ls : List (List Int)} {vs : List Value} {bk : Nat → Nat} (h : Out2x B w v ls vs bk) : Out2 B w v ls := ⟨vs, bk, h.1, h.2.1, h.2.2⟩
theorem Out2x.push {B : Nat} {w w2 w1 : World} {v v1 rv : Value} {ls : List (List Int)} {l : List Int} {b : Nat} {vs : List Value} {bk : Nat → Nat}
    (h : Out2x B w v ls vs bk)
    (hB : B ≤ w.heap.size) (hb : Below w.heap.size w w2) (hx : X1 w2 rv l b) (hbn : l ≠ [] → w.heap.size ≤ b)
    (hown : w1.ownsRow B 29 1 v1 (ls.length + 1) (vs ++ [rv])) (hg : w2.grownBy w1 v.ownBlock) (hblk : v1.ownBlock = v.ownBlock ∨ ∃ g, v1.ownBlock = some g ∧ w2.heap.size ≤ g) : Out2x B w1 v1 (ls ++ [l]) (vs ++ [rv]) (fun k => if k < ls.length then bk k else b) := by
  obtain ⟨h1, h2, h3⟩ := h
  have hvl : ∀ g, v.ownBlock = some g → g < w.heap.size := fun g hgg => (h1.lt g hgg).2
  have hxl : ∀ k, k < ls.length → getl ls k ≠ [] → bk k < w.heap.size := fun k hk hn => by
    obtain ⟨rv, _, h⟩ := h2 k hk; exact h.lt hn
  have hne1 : ∀ c, c < w2.heap.size → v.ownBlock ≠ some c → v1.ownBlock ≠ some c := fun c hc hn e => by
    rcases hblk with e1 | ⟨g, e1, hge⟩
    · exact hn (e1.symm.trans e)
    · rw [e] at e1; cases e1; omega
  have hvl1 := h1.1
  refine ⟨by simpa using hown, fun k hk => ?_, fun k hk hn => ?_⟩
  · by_cases hkl : k < ls.length
    · obtain ⟨rv', h4, h5⟩ := h2 k hkl
      refine ⟨rv', by rw [List.getElem?_append_left (by omega)]; exact h4, ?_⟩
      rw [getl_app1 hkl]
      simp only [hkl, if_true]
      exact h5.keep fun hn => by
        rw [hg.block _ (Nat.lt_of_lt_of_le (hxl k hkl hn) hb.size) (fun e => (h3 k hkl hn).2.1 e.symm), hb.block _ (hxl k hkl hn)]
    · have e : k = ls.length := by simp at hk; omega
      subst e
      refine ⟨rv, by rw [List.getElem?_append_right (by omega)]; simp [show ls.length - vs.length = 0 by omega], ?_⟩
      rw [getl_app2]
      simp only [Nat.lt_irrefl, if_false]
      exact hx.keep fun hn => hg.block _ (hx.lt hn) (fun e => by have := hvl b e.symm; have := hbn hn; omega)
  · by_cases hkl : k < ls.length
    · rw [getl_app1 hkl] at hn
      simp only [hkl, if_true]
      obtain ⟨h4, h5, h6⟩ := h3 k hkl hn
      refine ⟨h4, hne1 _ (Nat.lt_of_lt_of_le (hxl k hkl hn) hb.size) h5, fun j hj hjk hnj => ?_⟩
      by_cases hjl : j < ls.length
      · rw [getl_app1 hjl] at hnj
        simp only [hjl, if_true]
        exact h6 j hjl hjk hnj
      · have e : j = ls.length := by simp at hj; omega
        subst e
        rw [getl_app2] at hnj
        simp only [Nat.lt_irrefl, if_false]
        have := hbn hnj; have := hxl k hkl hn; omega
    · have e : k = ls.length := by simp at hk; omega
      subst e
      rw [getl_app2] at hn
      simp only [Nat.lt_irrefl, if_false]
      refine ⟨by have := hbn hn; omega, hne1 _ (hx.lt hn) (fun e => by have := hvl b e; have := hbn hn; omega), fun j hj hjk hnj => ?_⟩
      have hjl : j < ls.length := by simp at hj; omega
      rw [getl_app1 hjl] at hnj
      simp only [hjl, if_true]
      have := hbn hn; have := hxl j hjl hnj; omega
/-- The blocks that a list of lists stands in, and the one of the cell that holds it. -/
def OutF (OB : Nat) (v : Value) (ls : List (List Int)) (bk : Nat → Nat) (b : Nat) : Prop := b = OB ∨ v.ownBlock = some b ∨ ∃ k, k < ls.length ∧ getl ls k ≠ [] ∧ b = bk k
theorem Out2x.stay {B OB : Nat} {w w' : World} {v : Value} {ls : List (List Int)} {vs : List Value} {bk : Nat → Nat} (h : Out2x B w v ls vs bk) (hk : ∀ b, OutF OB v ls bk b → w'.heap[b]? = w.heap[b]?) : Out2x B w' v ls vs bk := by
  obtain ⟨h1, h2, h3⟩ := h
  refine ⟨⟨h1.1, ?_⟩, fun k hkl => ?_, h3⟩
  · rcases h1.2 with h0 | ⟨g, cap, cur, rfl, h4, h5, h6⟩
    · exact .inl h0
    · exact .inr ⟨g, cap, cur, rfl, h4, by rw [hk g (.inr (.inl rfl))]; exact h5, h6⟩
  · obtain ⟨rv, h4, h5⟩ := h2 k hkl
    exact ⟨rv, h4, h5.keep fun hn => hk _ (.inr (.inr ⟨k, hkl, hn, rfl⟩))⟩
theorem Out2x.lt {B OB : Nat} {w : World} {v : Value} {ls : List (List Int)} {vs : List Value} {bk : Nat → Nat} (h : Out2x B w v ls vs bk) (ho : OB < w.heap.size) : ∀ b, OutF OB v ls bk b → b < w.heap.size := by
  rintro b (rfl | h1 | ⟨k, h1, h2, rfl⟩)
  · exact ho
  · exact (h.1.lt _ h1).2
  · obtain ⟨rv, _, h5⟩ := h.2.1 k h1
    exact h5.lt h2

/-- The blocks that a list of lists stands in. -/
def OutG (v : Value) (ls : List (List Int)) (bk : Nat → Nat) (b : Nat) : Prop := v.ownBlock = some b ∨ ∃ k, k < ls.length ∧ getl ls k ≠ [] ∧ b = bk k
theorem Out2x.lo {B : Nat} {w w' : World} {v : Value} {ls : List (List Int)} {vs : List Value} {bk : Nat → Nat} (h : Out2x B w v ls vs bk) (hk : ∀ b, OutG v ls bk b → w'.heap[b]? = w.heap[b]?) : Out2x B w' v ls vs bk := by
  obtain ⟨h1, h2, h3⟩ := h
  refine ⟨⟨h1.1, ?_⟩, fun k hkl => ?_, h3⟩
  · rcases h1.2 with h0 | ⟨g, cap, cur, rfl, h4, h5, h6⟩
    · exact .inl h0
    · exact .inr ⟨g, cap, cur, rfl, h4, by rw [hk g (.inl rfl)]; exact h5, h6⟩
  · obtain ⟨rv, h4, h5⟩ := h2 k hkl
    exact ⟨rv, h4, h5.keep fun hn => hk _ (.inr ⟨k, hkl, hn, rfl⟩)⟩
theorem OutG.push {b3 z : Nat} {v v' : Value} {ls : List (List Int)} {l : List Int} {bk : Nat → Nat} (hblk : v'.ownBlock = v.ownBlock ∨ ∃ g, v'.ownBlock = some g ∧ z ≤ g) (hb3 : l ≠ [] → z ≤ b3) :
    ∀ b, OutG v' (ls ++ [l]) (fun k => if k < ls.length then bk k else b3) b → OutG v ls bk b ∨ z ≤ b := by
  rintro b (h1 | ⟨k, h1, h2, rfl⟩)
  · rcases hblk with e | ⟨g, e, hz⟩
    · exact .inl (.inl (e ▸ h1))
    · rw [e] at h1; cases h1; exact .inr hz
  · by_cases hk : k < ls.length
    · rw [getl_app1 hk] at h2
      simp only [hk, if_true]
      exact .inl (.inr ⟨k, hk, h2, rfl⟩)
    · have e : k = ls.length := by simp at h1; omega
      subst e
      rw [getl_app2] at h2
      simp only [Nat.lt_irrefl, if_false]
      exact .inr (hb3 h2)
/-- What is gathered: the first keys of a kind, at most as many as told. -/
def ghStep (gb : Bool) (most : Int) (s : List (List Int)) (key ds : List Int) : List (List Int) × Bool :=
  if decide (0 < ds.length) = gb ∧ (s.length : Int) < most then (s ++ [key], decide ((s.length : Int) + 1 < most)) else (s, decide ((s.length : Int) < most))
def GhInv (B GB OB MB : Nat) (gb : Bool) (most : Int) (s : List (List Int)) (F : Nat → Prop) (w : World) : Prop :=
  ∃ lv vs bk, (∀ b, F b ↔ OutF OB lv s bk b) ∧ w.heap[OB]? = some (.cells #[lv] 24 (0, 0)) ∧ Out2x B w lv s vs bk ∧ ¬ OutG lv s bk OB ∧ B ≤ w.heap.size
theorem enters_gh : Enters 52 := fun args w => by kernel_rfl
set_option maxRecDepth 100000 in
set_option maxHeartbeats 2000000 in
theorem gh1_any {S S2 : Nat → Prop} (kv dv lv : Value) (key ds : List Int) (s : List (List Int)) (vs : List Value) (bk : Nat → Nat) (B GB OB MB : Nat) (gb : Bool) (most : Int) (w : World) (hk : V1 S w kv key) (hd : V1 S2 w dv ds)
    (hG : w.cell? ⟨GB, 0, none⟩ = some (.bool gb)) (hM : w.cell? ⟨MB, 0, none⟩ = some (.int .i64 most)) (hl : w.heap[OB]? = some (.cells #[lv] 24 (0, 0))) (hO : Out2x B w lv s vs bk) (hOB : ¬ OutG lv s bk OB) (hB : B ≤ w.heap.size) (hne : GB ≠ OB ∧ MB ≠ OB)
    (hMf : lv.ownBlock ≠ some MB) (hkl : key.length ≤ 1000) (hsl : s.length ≤ 300000) :
    Calls Tryz.prog 52 #[kv, dv, .pointer (some ⟨GB, 0, none⟩), .pointer (some ⟨OB, 0, none⟩), .pointer (some ⟨MB, 0, none⟩)] w fun e w' => e = .returned (.bool (ghStep gb most s key ds).2) ∧
      ∃ lv' vs' bk', w'.heap[OB]? = some (.cells #[lv'] 24 (0, 0)) ∧ Out2x B w' lv' (ghStep gb most s key ds).1 vs' bk' ∧ ¬ OutG lv' (ghStep gb most s key ds).1 bk' OB ∧ Chg (OutF OB lv s bk) w w' ∧ ∀ b, OutF OB lv' (ghStep gb most s key ds).1 bk' b → OutF OB lv s bk b ∨ w.heap.size ≤ b := by
  obtain ⟨ka, kc, rfl, hkm⟩ := hk.form
  obtain ⟨da, dc, rfl, hdm⟩ := hd.form
  obtain ⟨oa, oc, rfl, ho1, ho2⟩ := own_form hO.1
  have hcl := cell_of_block hl 0
  simp at hcl
  have hdr : Below w.heap.size w w.drew := (Below.refl _ _).drew
  obtain ⟨i0, hi, hz0, hz1, hz2⟩ := info_parts inf_ints
  obtain ⟨n, hn⟩ : ∃ n, n = s.length := ⟨_, rfl⟩
  by_cases hg : decide (0 < ds.length) = gb ∧ (s.length : Int) < most
  · have hst : ghStep gb most s key ds = (s ++ [key], decide ((s.length : Int) + 1 < most)) := by unfold ghStep; rw [if_pos hg]
    rw [hst]
    have hg1 : (decide (0 < ds.length) == gb) = true := by rw [hg.1]; simp
    have hg3 : decide ((s.length : Int) < most) = true := by simp; exact hg.2
    have hg4 : (s.length : Int) < most := hg.2
    have hMn : oa.map (·.block) ≠ some MB ∨ True := .inr trivial
    have HO := Lib.hid (And.intro hO (And.intro hst hg)); clear hO hst hg
    have Hl := Lib.hid hl; clear hl
    have Hhk := Lib.hid hk
    obtain ⟨r, hr⟩ : ∃ r, decide ((s.length : Int) + 1 < most) = r := ⟨_, rfl⟩
    rw [hr]
    have hlk : key.length ≤ 1048576 := by omega
    have hMlt := lt_of_cell hM
    cases r
    · skip
      go_enter Tryz.func52, Tryz.ntmps52
      go_wp2_with fail
      go_region_law (first | (go_simp; go_at_call 53; refine (slClone_any _ key _ (hk.below hdr) hlk).mono ?_; rintro e' w3 ⟨v3, rfl, ⟨b3, hx3, hb3n⟩, hbc⟩; obtain ⟨a3, c3, rfl, hcc3, _⟩ := id hx3; have hb3 : Below w.heap.size w w3 := hdr.trans (hbc.mono (Nat.le_refl _)); obtain ⟨hown3, hh3, hcl3, hfl3⟩ := hull_after HO.out.1.1 Hl.out hb3; have hz3 := lt_of_heap hh3; have hcl3a : ∀ o, (w3.alloc o).cell? ⟨OB, 0, none⟩ = some (.slice oa s.length oc) := (fun o => cell_keep hcl3 (Below.heap_alloc _ _ _ hz3)); (try dsimp only)) | (refine step_append_lies _ (by rfl) _ _ _ (by rfl) B 29 i0 _ 1 24 Tryz.underlying24 hi hz0 hz1 hz2 rfl (by omega) _ s.length _ (by rfl) (hown3.alloc _) ⟨_, 0, none⟩ 1 1 [.slice a3 key.length c3] (by rfl) (by rfl) (World.news_of_block (heap_alloc_new _ _)) (by simp [Value.oneCell']) (by omega) (by unfold maxLen; omega) (by omega) (by have := hb3.size; simp; omega) _ rfl ?_; intro gg cap w4 hown4 hgrow4 hat4 hlt4; obtain ⟨hh4, hcl4, hfl4⟩ := grown_alloc_at hh3 hgrow4 (fun e => hOB (.inl e))))
      all_goals
        have hz4 := hgrow4.size
        simp only [World.size_alloc] at hz4
        have hz3w := hb3.size
        have hb3a : Below w.heap.size w (w3.alloc (.cells #[.slice a3 key.length c3] 29)) := hb3.alloc hb3.size _
        have hO4 := Out2x.push HO.out.1 hB hb3a (hx3.alloc _) (fun hn => hb3n hn) hown4 hgrow4 (blk_or rfl hat4)
        have hM4 := cell_keep hM ((hgrow4.block MB (by simp; omega) (fun e => hMf e.symm)).trans (hb3a.block MB hMlt))
        have hM5 : (w4.setCell ⟨OB, 0, none⟩ (.slice (some ⟨gg, 0, none⟩) (s.length + 1) cap)).cell? ⟨MB, 0, none⟩ = some (.int .i64 most) := cell_keep hM4 (heap_setCell_other _ (fun e => hne.2 e))
        have hs4 := heap_setCell_self (off := 0) hh4 (.slice (some ⟨gg, 0, none⟩) (s.length + 1) cap)
        have hcl5 := cell_of_block hs4 0
        simp at hcl5
        have hG5 := OutG.push (b3 := b3) (z := w.heap.size) (v := .slice oa s.length oc) (v' := .slice (some ⟨gg, 0, none⟩) (s.length + 1) cap) (ls := s) (l := key) (bk := bk) (by rcases blk_or (v1 := .slice (some ⟨gg, 0, none⟩) (s.length + 1) cap) rfl hat4 with e | ⟨g, e, h⟩; exact .inl e; exact .inr ⟨g, e, by have := hb3a.size; omega⟩) (fun hn => hb3n hn)
        have hOBlt := lt_of_heap Hl.out
        have hOB5 : ¬ OutG (.slice (some ⟨gg, 0, none⟩) (s.length + 1) cap) (s ++ [key]) (fun k => if k < s.length then bk k else b3) OB := fun hb => by rcases hG5 OB hb with h | h; exact hOB h; omega
        have hO5 := Out2x.lo hO4 (w' := w4.setCell ⟨OB, 0, none⟩ (.slice (some ⟨gg, 0, none⟩) (s.length + 1) cap)) (fun b hb => heap_setCell_other _ (fun e => hOB5 (by have e2 : b = OB := e; rw [← e2]; exact hb)))
        have hch : Chg (OutF OB (.slice oa s.length oc) s bk) w w4 := (Chg.of_below hb3a).grown hgrow4 (fun k hk => .inl (.inr (.inl hk)))
        have hch5 := hch.setCell (p := ⟨OB, 0, none⟩) (.inl (.inl rfl)) (.slice (some ⟨gg, 0, none⟩) (s.length + 1) cap)
        have hF5 : ∀ b, OutF OB (.slice (some ⟨gg, 0, none⟩) (s.length + 1) cap) (s ++ [key]) (fun k => if k < s.length then bk k else b3) b → OutF OB (.slice oa s.length oc) s bk b ∨ w.heap.size ≤ b := fun b hb => by rcases hb with e | h; exact .inl (.inl e); rcases hG5 b h with h | h; exact .inl (.inr h); exact .inr h
        have H5 := Lib.hid (And.intro hs4 (And.intro hO5 (And.intro hOB5 (And.intro hch5 hF5)))); clear hs4 hO5 hch5 hF5 hch hO4 hOB5 hG5
        go_wp2_with fail
        go_ret
        exact ⟨rfl, _, _, _, H5.out.1, H5.out.2.1, H5.out.2.2.1, H5.out.2.2.2.1, H5.out.2.2.2.2⟩
    · skip
      go_enter Tryz.func52, Tryz.ntmps52
      go_wp2_with fail
      go_region_law (first | (go_simp; go_at_call 53; refine (slClone_any _ key _ (hk.below hdr) hlk).mono ?_; rintro e' w3 ⟨v3, rfl, ⟨b3, hx3, hb3n⟩, hbc⟩; obtain ⟨a3, c3, rfl, hcc3, _⟩ := id hx3; have hb3 : Below w.heap.size w w3 := hdr.trans (hbc.mono (Nat.le_refl _)); obtain ⟨hown3, hh3, hcl3, hfl3⟩ := hull_after HO.out.1.1 Hl.out hb3; have hz3 := lt_of_heap hh3; have hcl3a : ∀ o, (w3.alloc o).cell? ⟨OB, 0, none⟩ = some (.slice oa s.length oc) := (fun o => cell_keep hcl3 (Below.heap_alloc _ _ _ hz3)); (try dsimp only)) | (refine step_append_lies _ (by rfl) _ _ _ (by rfl) B 29 i0 _ 1 24 Tryz.underlying24 hi hz0 hz1 hz2 rfl (by omega) _ s.length _ (by rfl) (hown3.alloc _) ⟨_, 0, none⟩ 1 1 [.slice a3 key.length c3] (by rfl) (by rfl) (World.news_of_block (heap_alloc_new _ _)) (by simp [Value.oneCell']) (by omega) (by unfold maxLen; omega) (by omega) (by have := hb3.size; simp; omega) _ rfl ?_; intro gg cap w4 hown4 hgrow4 hat4 hlt4; obtain ⟨hh4, hcl4, hfl4⟩ := grown_alloc_at hh3 hgrow4 (fun e => hOB (.inl e))))
      all_goals
        have hz4 := hgrow4.size
        simp only [World.size_alloc] at hz4
        have hz3w := hb3.size
        have hb3a : Below w.heap.size w (w3.alloc (.cells #[.slice a3 key.length c3] 29)) := hb3.alloc hb3.size _
        have hO4 := Out2x.push HO.out.1 hB hb3a (hx3.alloc _) (fun hn => hb3n hn) hown4 hgrow4 (blk_or rfl hat4)
        have hM4 := cell_keep hM ((hgrow4.block MB (by simp; omega) (fun e => hMf e.symm)).trans (hb3a.block MB hMlt))
        have hM5 : (w4.setCell ⟨OB, 0, none⟩ (.slice (some ⟨gg, 0, none⟩) (s.length + 1) cap)).cell? ⟨MB, 0, none⟩ = some (.int .i64 most) := cell_keep hM4 (heap_setCell_other _ (fun e => hne.2 e))
        have hs4 := heap_setCell_self (off := 0) hh4 (.slice (some ⟨gg, 0, none⟩) (s.length + 1) cap)
        have hcl5 := cell_of_block hs4 0
        simp at hcl5
        have hG5 := OutG.push (b3 := b3) (z := w.heap.size) (v := .slice oa s.length oc) (v' := .slice (some ⟨gg, 0, none⟩) (s.length + 1) cap) (ls := s) (l := key) (bk := bk) (by rcases blk_or (v1 := .slice (some ⟨gg, 0, none⟩) (s.length + 1) cap) rfl hat4 with e | ⟨g, e, h⟩; exact .inl e; exact .inr ⟨g, e, by have := hb3a.size; omega⟩) (fun hn => hb3n hn)
        have hOBlt := lt_of_heap Hl.out
        have hOB5 : ¬ OutG (.slice (some ⟨gg, 0, none⟩) (s.length + 1) cap) (s ++ [key]) (fun k => if k < s.length then bk k else b3) OB := fun hb => by rcases hG5 OB hb with h | h; exact hOB h; omega
        have hO5 := Out2x.lo hO4 (w' := w4.setCell ⟨OB, 0, none⟩ (.slice (some ⟨gg, 0, none⟩) (s.length + 1) cap)) (fun b hb => heap_setCell_other _ (fun e => hOB5 (by have e2 : b = OB := e; rw [← e2]; exact hb)))
        have hch : Chg (OutF OB (.slice oa s.length oc) s bk) w w4 := (Chg.of_below hb3a).grown hgrow4 (fun k hk => .inl (.inr (.inl hk)))
        have hch5 := hch.setCell (p := ⟨OB, 0, none⟩) (.inl (.inl rfl)) (.slice (some ⟨gg, 0, none⟩) (s.length + 1) cap)
        have hF5 : ∀ b, OutF OB (.slice (some ⟨gg, 0, none⟩) (s.length + 1) cap) (s ++ [key]) (fun k => if k < s.length then bk k else b3) b → OutF OB (.slice oa s.length oc) s bk b ∨ w.heap.size ≤ b := fun b hb => by rcases hb with e | h; exact .inl (.inl e); rcases hG5 b h with h | h; exact .inl (.inr h); exact .inr h
        have H5 := Lib.hid (And.intro hs4 (And.intro hO5 (And.intro hOB5 (And.intro hch5 hF5)))); clear hs4 hO5 hch5 hF5 hch hO4 hOB5 hG5
        go_wp2_with fail
        go_ret
        exact ⟨rfl, _, _, _, H5.out.1, H5.out.2.1, H5.out.2.2.1, H5.out.2.2.2.1, H5.out.2.2.2.2⟩
  · have hst : ghStep gb most s key ds = (s, decide ((s.length : Int) < most)) := by unfold ghStep; rw [if_neg hg]
    rw [hst]
    have Hfin : (∃ lv' vs' bk', w.heap[OB]? = some (.cells #[lv'] 24 (0, 0)) ∧ Out2x B w lv' s vs' bk' ∧ ¬ OutG lv' s bk' OB ∧ Chg (OutF OB (.slice oa s.length oc) s bk) w w ∧ ∀ b, OutF OB lv' s bk' b → OutF OB (.slice oa s.length oc) s bk b ∨ w.heap.size ≤ b) := ⟨_, vs, bk, hl, hO, hOB, Chg.refl _ _, fun b hb => .inl hb⟩
    have HFin := Lib.hid Hfin; clear Hfin
    clear hl hO
    cases hgb : (decide (0 < ds.length) == gb) <;> cases hm : decide ((s.length : Int) < most)
    · skip
      have Hg := Lib.hid (And.intro hg hst); clear hg hst
      go_enter Tryz.func52, Tryz.ntmps52
      go_wp2_with fail
      go_ret
      exact ⟨rfl, HFin.out⟩
    · skip
      have Hg := Lib.hid (And.intro hg hst); clear hg hst
      go_enter Tryz.func52, Tryz.ntmps52
      go_wp2_with fail
      go_ret
      exact ⟨rfl, HFin.out⟩
    · skip
      have Hg := Lib.hid (And.intro hg hst); clear hg hst
      go_enter Tryz.func52, Tryz.ntmps52
      go_wp2_with fail
      go_ret
      exact ⟨rfl, HFin.out⟩
    · exact absurd ⟨eq_of_beq hgb, of_decide_eq_true hm⟩ hg
theorem gh_run (gb : Bool) (M : Nat) (cuts : List (List Int)) (locks : List (List (List Int))) : ∀ (l s : List (List Int)), s.length ≤ M → (runL (outStep (ghStep gb (M : Int)) cuts locks) s l).1 = s ++ (selL locks cuts gb l).take (M - s.length)
  | [], s, h => by simp [runL, selL]
  | k :: l, s, h => by
    rw [runL]
    unfold selL
    rw [List.filter_cons]
    by_cases hc : hasL cuts k = true
    · have e1 : outStep (ghStep gb (M : Int)) cuts locks s k = (s, true) := by unfold outStep; rw [if_pos hc]
      have e2 : selK locks cuts gb k = false := by unfold selK; simp [hc]
      rw [e1, e2]
      exact gh_run gb M cuts locks l s h
    · have e1 : outStep (ghStep gb (M : Int)) cuts locks s k = ghStep gb (M : Int) s k (doorsOf locks k) := by unfold outStep; rw [if_neg hc]
      rw [e1]
      by_cases hk : decide (0 < (doorsOf locks k).length) = gb
      · have e2 : selK locks cuts gb k = true := by unfold selK; simp only [Bool.not_eq_true] at hc; rw [hc, show decide (0 < ndoors locks k) = gb from hk]; simp
        rw [e2, if_pos rfl]
        by_cases hm : s.length < M
        · have e4 : ghStep gb (M : Int) s k (doorsOf locks k) = (s ++ [k], decide ((s.length : Int) + 1 < (M : Int))) := by unfold ghStep; rw [if_pos ⟨hk, by omega⟩]
          rw [e4]
          by_cases hm2 : s.length + 1 < M
          · have e3 : decide ((s.length : Int) + 1 < (M : Int)) = true := decide_eq_true (by omega)
            rw [if_pos e3]
            have := gh_run gb M cuts locks l (s ++ [k]) (by simp; omega)
            show (runL _ (s ++ [k]) l).1 = _
            rw [this, List.append_assoc]
            congr 1
            rw [show M - s.length = (M - (s ++ [k]).length) + 1 by simp; omega]
            rfl
          · have e3 : decide ((s.length : Int) + 1 < (M : Int)) = false := decide_eq_false (by omega)
            rw [if_neg (by rw [e3]; exact Bool.false_ne_true), show M - s.length = 0 + 1 by omega]
            simp
        · have e4 : ghStep gb (M : Int) s k (doorsOf locks k) = (s, decide ((s.length : Int) < (M : Int))) := by unfold ghStep; rw [if_neg (fun h => hm (by have := h.2; omega))]
          have e3 : decide ((s.length : Int) < (M : Int)) = false := decide_eq_false (by omega)
          rw [e4, if_neg (by rw [e3]; exact Bool.false_ne_true), show M - s.length = 0 by omega]
          simp
      · have e2 : selK locks cuts gb k = false := by unfold selK; rw [show decide (0 < ndoors locks k) = decide (0 < (doorsOf locks k).length) from rfl]; simp [hk]
        have e4 : ghStep gb (M : Int) s k (doorsOf locks k) = (s, decide ((s.length : Int) < (M : Int))) := by unfold ghStep; rw [if_neg (fun h => hk h.1)]
        rw [e2, e4]
        by_cases hm : s.length < M
        · have e3 : decide ((s.length : Int) < (M : Int)) = true := decide_eq_true (by omega)
          rw [if_pos e3]
          exact gh_run gb M cuts locks l s h
        · have e3 : decide ((s.length : Int) < (M : Int)) = false := decide_eq_false (by omega)
          rw [if_neg (by rw [e3]; exact Bool.false_ne_true), show M - s.length = 0 by omega]
          simp
theorem gh_ok (m : Mk) (hm : m.ok = true) (cuts : List (List Int)) (locks : List (List (List Int))) (gb : Bool) (M : Nat) (B GB OB MB : Nat) (W : World) (F0 : Nat → Prop) (hG : W.cell? ⟨GB, 0, none⟩ = some (.bool gb)) (hM : W.cell? ⟨MB, 0, none⟩ = some (.int .i64 M))
    (hne : ¬ F0 GB ∧ ¬ F0 MB) :
    VisD m.c.toNat W F0 52 #[.pointer (some ⟨GB, 0, none⟩), .pointer (some ⟨OB, 0, none⟩), .pointer (some ⟨MB, 0, none⟩)] (ghStep gb (M : Int)) [] (keysOf m) cuts locks (GhInv B GB OB MB gb (M : Int)) := by
  refine ⟨enters_gh, ?_, ?_, ?_⟩
  · rintro s F w w' ⟨lv, vs, bk, h1, h2, h3, h4, h5⟩ hz hk
    exact ⟨lv, vs, bk, h1, by rw [hk OB ((h1 OB).2 (.inl rfl))]; exact h2, h3.lo fun b hb => hk b ((h1 b).2 (.inr hb)), h4, Nat.le_trans h5 hz⟩
  · rintro s F w ⟨lv, vs, bk, h1, h2, h3, h4, h5⟩ b hb
    exact h3.lt (lt_of_heap h2) b ((h1 b).1 hb)
  · rintro s F S S2 w v dv key done rest hL hr ⟨lv, vs, bk, h1, h2, h3, h4, h5⟩ hchg hsub hV hS hD hS2 hkl
    have hle := keysOf_length hm
    rw [hL] at hle
    have hrun := gh_run gb M cuts locks done [] (Nat.zero_le _)
    rw [hr] at hrun
    have hsl : s.length ≤ done.length := by
      rw [show s = _ from hrun]
      simp only [List.nil_append, List.length_take]
      have : (selL locks cuts gb done).length ≤ done.length := List.length_filter_le _ _
      omega
    simp at hle
    have hnG : ¬ F GB := fun h => by rcases hsub _ h with h | h; exact hne.1 h; have h9 : GB < W.heap.size := lt_of_cell hG; omega
    have hnM : ¬ F MB := fun h => by rcases hsub _ h with h | h; exact hne.2 h; have h9 : MB < W.heap.size := lt_of_cell hM; omega
    have hmk := Mk.ok_iff.1 hm
    refine (gh1_any v dv lv key (doorsOf locks key) s vs bk B GB OB MB gb (M : Int) w hV hD (cell_keep hG (hchg.block _ (lt_of_cell hG) hne.1)) (cell_keep hM (hchg.block _ (lt_of_cell hM) hne.2)) h2 h3 h4 h5 ⟨fun e => hnG ((h1 _).2 (.inl e)), fun e => hnM ((h1 _).2 (.inl e))⟩ (fun e => hnM ((h1 _).2 (.inr (.inl e)))) (by omega) (by omega)).mono ?_
    rintro e w' ⟨rfl, lv', vs', bk', h6, h7, h8, h9, h10⟩
    refine ⟨OutF OB lv' (ghStep gb (M : Int) s key (doorsOf locks key)).1 bk', rfl, ⟨lv', vs', bk', fun b => Iff.rfl, h6, h7, h8, Nat.le_trans h5 h9.size⟩, h9.mono (fun b hb => (h1 b).2 hb), fun b hb => ?_⟩
    rcases h10 b hb with h | h
    · exact .inl ((h1 b).2 h)
    · exact .inr h
end Go.Proofs.YtlfnadmbelngeaaGreat
