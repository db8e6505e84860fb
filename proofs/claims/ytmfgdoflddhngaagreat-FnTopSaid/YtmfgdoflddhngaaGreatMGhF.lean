/- A list of lists in memory of one's own, with the blocks named; the visit that gathers the first outsiders of a kind. No conditions. -/
import Derived.Test.YtmfgdoflddhngaaGreatMOut
import Derived.Test.YtmfgdoflddhngaaGreatMDoors
import Derived.Test.YtmfgdoflddhngaaGreatMRefFirst
import Derived.Test.YtmfgdoflddhngaaGreatMEach5
import Derived.Test.YtmfgdoflddhngaaGreatMRowsOf
namespace Go.Proofs.YtmfgdoflddhngaaGreat
open Go.RowKit
set_option linter.unusedVariables false
set_option linter.unusedSimpArgs false

/-- As Out2, the rows' values and their blocks named. -/
def Out2x (B : Nat) (w : World) (v : Value) (ls : List (List Int)) (vs : List Value) (bk : Nat → Nat) : Prop :=
  w.ownsRow B 46 1 v ls.length vs ∧ (∀ k, k < ls.length → ∃ rv, vs[k]? = some rv ∧ X1 w rv (getl ls k) (bk k)) ∧
    (∀ k, k < ls.length → getl ls k ≠ [] → B ≤ bk k ∧ v.ownBlock ≠ some (bk k) ∧ ∀ j, j < ls.length → j ≠ k → getl ls j ≠ [] → bk j ≠ bk k)
theorem Out2x.out {B : Nat} {w : World} {v : Value} {ls : List (List Int)} {vs : List Value} {bk : Nat → Nat} (h : Out2x B w v ls vs bk) : Out2 B w v ls := ⟨vs, bk, h.1, h.2.1, h.2.2⟩
theorem Out2x.push {B : Nat} {w w2 w1 : World} {v v1 rv : Value} {ls : List (List Int)} {l : List Int} {b : Nat} {vs : List Value} {bk : Nat → Nat}
    (h : Out2x B w v ls vs bk)
    (hB : B ≤ w.heap.size) (hb : Below w.heap.size w w2) (hx : X1 w2 rv l b) (hbn : l ≠ [] → w.heap.size ≤ b)
    (hown : w1.ownsRow B 46 1 v1 (ls.length + 1) (vs ++ [rv])) (hg : w2.grownBy w1 v.ownBlock) (hblk : v1.ownBlock = v.ownBlock ∨ ∃ g, v1.ownBlock = some g ∧ w2.heap.size ≤ g) : Out2x B w1 v1 (ls ++ [l]) (vs ++ [rv]) (fun k => if k < ls.length then bk k else b) := by
  obtain ⟨h1, h2, h3⟩ := h
  have hvl : ∀ g, v.ownBlock = some g → g < w.heap.size := fun g hgg => (h1.lt g hgg).2
  have hxl : ∀ k, k < ls.length → getl ls k ≠ [] → bk k < w.heap.size := fun k hk hn => by
    obtain ⟨rv, _, h⟩ := h2 k hk; exact h.lt hn
  have hne1 : ∀ c, c < w2.heap.size → v.ownBlock ≠ some c → v1.ownBlock ≠ some c := fun c hc hn e => by
    rcases hblk with e1 | ⟨g, e1, hge⟩
    · exact hn (e1.symm.trans e)
    · rw [e] at e1; cases e1; omega
  have hvl1 := h1.1
  refine ⟨by simpa using hown, fun k hk => ?_, fun k hk hn => ?_⟩
  · by_cases hkl : k < ls.length
    · obtain ⟨rv', h4, h5⟩ := h2 k hkl
      refine ⟨rv', by rw [List.getElem?_append_left (by omega)]; exact h4, ?_⟩
      rw [getl_app1 hkl]
      simp only [hkl, if_true]
      exact h5.keep fun hn => by
        rw [hg.block _ (Nat.lt_of_lt_of_le (hxl k hkl hn) hb.size) (fun e => (h3 k hkl hn).2.1 e.symm), hb.block _ (hxl k hkl hn)]
    · have e : k = ls.length := by simp at hk; omega
      subst e
      refine ⟨rv, by rw [List.getElem?_append_right (by omega)]; simp [show ls.length - vs.length = 0 by omega], ?_⟩
      rw [getl_app2]
      simp only [Nat.lt_irrefl, if_false]
      exact hx.keep fun hn => hg.block _ (hx.lt hn) (fun e => by have := hvl b e.symm; have := hbn hn; omega)
  · by_cases hkl : k < ls.length
    · rw [getl_app1 hkl] at hn
      simp only [hkl, if_true]
      obtain ⟨h4, h5, h6⟩ := h3 k hkl hn
      refine ⟨h4, hne1 _ (Nat.lt_of_lt_of_le (hxl k hkl hn) hb.size) h5, fun j hj hjk hnj => ?_⟩
      by_cases hjl : j < ls.length
      · rw [getl_app1 hjl] at hnj
        simp only [hjl, if_true]
        exact h6 j hjl hjk hnj
      · have e : j = ls.length := by simp at hj; omega
        subst e
        rw [getl_app2] at hnj
        simp only [Nat.lt_irrefl, if_false]
        have := hbn hnj; have := hxl k hkl hn; omega
    · have e : k = ls.length := by simp at hk; omega
      subst e
      rw [getl_app2] at hn
      simp only [Nat.lt_irrefl, if_false]
      refine ⟨by have := hbn hn; omega, hne1 _ (hx.lt hn) (fun e => by have := hvl b e; have := hbn hn; omega), fun j hj hjk hnj => ?_⟩
      have hjl : j < ls.length := by simp at hj; omega
      rw [getl_app1 hjl] at hnj
      simp only [hjl, if_true]
      have := hbn hn; have := hxl j hjl hnj; omega
/-- The blocks that a list of lists stands in, and the one of the cell that holds it. -/
def OutF (OB : Nat) (v : Value) (ls : List (List Int)) (bk : Nat → Nat) (b : Nat) : Prop := b = OB ∨ v.ownBlock = some b ∨ ∃ k, k < ls.length ∧ getl ls k ≠ [] ∧ b = bk k
theorem Out2x.stay {B OB : Nat} {w w' : World} {v : Value} {ls : List (List Int)} {vs : List Value} {bk : Nat → Nat} (h : Out2x B w v ls vs bk) (hk : ∀ b, OutF OB v ls bk b → w'.heap[b]? = w.heap[b]?) : Out2x B w' v ls vs bk := by
  obtain ⟨h1, h2, h3⟩ := h
  refine ⟨⟨h1.1, ?_⟩, fun k hkl => ?_, h3⟩
  · rcases h1.2 with h0 | ⟨g, cap, cur, rfl, h4, h5, h6⟩
    · exact .inl h0
    · exact .inr ⟨g, cap, cur, rfl, h4, by rw [hk g (.inr (.inl rfl))]; exact h5, h6⟩
  · obtain ⟨rv, h4, h5⟩ := h2 k hkl
    exact ⟨rv, h4, h5.keep fun hn => hk _ (.inr (.inr ⟨k, hkl, hn, rfl⟩))⟩
theorem Out2x.lt {B OB : Nat} {w : World} {v : Value} {ls : List (List Int)} {vs : List Value} {bk : Nat → Nat} (h : Out2x B w v ls vs bk) (ho : OB < w.heap.size) : ∀ b, OutF OB v ls bk b → b < w.heap.size := by
  rintro b (rfl | h1 | ⟨k, h1, h2, rfl⟩)
  · exact ho
  · exact (h.1.lt _ h1).2
  · obtain ⟨rv, _, h5⟩ := h.2.1 k h1
    exact h5.lt h2

/-- The blocks that a list of lists stands in. -/
def OutG (v : Value) (ls : List (List Int)) (bk : Nat → Nat) (b : Nat) : Prop := v.ownBlock = some b ∨ ∃ k, k < ls.length ∧ getl ls k ≠ [] ∧ b = bk k
theorem Out2x.lo {B : Nat} {w w' : World} {v : Value} {ls : List (List Int)} {vs : List Value} {bk : Nat → Nat} (h : Out2x B w v ls vs bk) (hk : ∀ b, OutG v ls bk b → w'.heap[b]? = w.heap[b]?) : Out2x B w' v ls vs bk := by
  obtain ⟨h1, h2, h3⟩ := h
  refine ⟨⟨h1.1, ?_⟩, fun k hkl => ?_, h3⟩
  · rcases h1.2 with h0 | ⟨g, cap, cur, rfl, h4, h5, h6⟩
    · exact .inl h0
    · exact .inr ⟨g, cap, cur, rfl, h4, by rw [hk g (.inl rfl)]; exact h5, h6⟩
  · obtain ⟨rv, h4, h5⟩ := h2 k hkl
    exact ⟨rv, h4, h5.keep fun hn => hk _ (.inr ⟨k, hkl, hn, rfl⟩)⟩
theorem OutG.push {b3 z : Nat} {v v' : Value} {ls : List (List Int)} {l : List Int} {bk : Nat → Nat} (hblk : v'.ownBlock = v.ownBlock ∨ ∃ g, v'.ownBlock = some g ∧ z ≤ g) (hb3 : l ≠ [] → z ≤ b3) :
    ∀ b, OutG v' (ls ++ [l]) (fun k => if k < ls.length then bk k else b3) b → OutG v ls bk b ∨ z ≤ b := by
  rintro b (h1 | ⟨k, h1, h2, rfl⟩)
  · rcases hblk with e | ⟨g, e, hz⟩
    · exact .inl (.inl (e ▸ h1))
    · rw [e] at h1; cases h1; exact .inr hz
  · by_cases hk : k < ls.length
    · rw [getl_app1 hk] at h2
      simp only [hk, if_true]
      exact .inl (.inr ⟨k, hk, h2, rfl⟩)
    · have e : k = ls.length := by simp at h1; omega
      subst e
      rw [getl_app2] at h2
      simp only [Nat.lt_irrefl, if_false]
      exact .inr (hb3 h2)
/-- What is gathered: the first keys of a kind, at most as many as told. -/
def ghStep (gb : Bool) (most : Int) (s : List (List Int)) (key ds : List Int) : List (List Int) × Bool :=
  if decide (0 < ds.length) = gb ∧ (s.length : Int) < most then (s ++ [key], decide ((s.length : Int) + 1 < most)) else (s, decide ((s.length : Int) < most))
def GhInv (B GB OB MB : Nat) (gb : Bool) (most : Int) (s : List (List Int)) (F : Nat → Prop) (w : World) : Prop :=
  ∃ lv vs bk, (∀ b, F b ↔ OutF OB lv s bk b) ∧ w.heap[OB]? = some (.cells #[lv] 26 (0, 0)) ∧ Out2x B w lv s vs bk ∧ ¬ OutG lv s bk OB ∧ B ≤ w.heap.size
theorem enters_gf : Enters 260 := fun args w => by kernel_rfl
set_option maxRecDepth 100000 in
set_option maxHeartbeats 2000000 in
theorem gh1_any {S S2 : Nat → Prop} (kv dv lv : Value) (key ds : List Int) (s : List (List Int)) (vs : List Value) (bk : Nat → Nat) (B GB OB MB : Nat) (gb : Bool) (most : Int) (w : World) (hk : V1 S w kv key) (hd : V1 S2 w dv ds)
    (hG : w.cell? ⟨GB, 0, none⟩ = some (.bool gb)) (hM : w.cell? ⟨MB, 0, none⟩ = some (.int .i64 most)) (hl : w.heap[OB]? = some (.cells #[lv] 26 (0, 0))) (hO : Out2x B w lv s vs bk) (hOB : ¬ OutG lv s bk OB) (hB : B ≤ w.heap.size) (hne : GB ≠ OB ∧ MB ≠ OB)
    (hMf : lv.ownBlock ≠ some MB) (hkl : key.length ≤ 1000) (hsl : s.length ≤ 300000) :
    Calls Tryz.prog 260 #[kv, dv, .pointer (some ⟨GB, 0, none⟩), .pointer (some ⟨OB, 0, none⟩), .pointer (some ⟨MB, 0, none⟩)] w fun e w' => e = .returned (.bool (ghStep gb most s key ds).2) ∧
      ∃ lv' vs' bk', w'.heap[OB]? = some (.cells #[lv'] 26 (0, 0)) ∧ Out2x B w' lv' (ghStep gb most s key ds).1 vs' bk' ∧ ¬ OutG lv' (ghStep gb most s key ds).1 bk' OB ∧ Chg (OutF OB lv s bk) w w' ∧ ∀ b, OutF OB lv' (ghStep gb most s key ds).1 bk' b → OutF OB lv s bk b ∨ w.heap.size ≤ b := by
  obtain ⟨ka, kc, rfl, hkm⟩ := hk.form
  obtain ⟨da, dc, rfl, hdm⟩ := hd.form
  obtain ⟨oa, oc, rfl, ho1, ho2⟩ := own_form hO.1
  have hcl := cell_of_block hl 0
  simp at hcl
  have hdr : Below w.heap.size w w.drew := (Below.refl _ _).drew
  obtain ⟨i0, hi, hz0, hz1, hz2⟩ := info_parts inf_ints
  obtain ⟨n, hn⟩ : ∃ n, n = s.length := ⟨_, rfl⟩
  by_cases hg : decide (0 < ds.length) = gb ∧ (s.length : Int) < most
  · have hst : ghStep gb most s key ds = (s ++ [key], decide ((s.length : Int) + 1 < most)) := by unfold ghStep; rw [if_pos hg]
    rw [hst]
    have hg1 : (decide (0 < ds.length) == gb) = true := by rw [hg.1]; simp
    have hg3 : decide ((s.length : Int) < most) = true := by simp; exact hg.2
    have hg4 : (s.length : Int) < most := hg.2
    have hMn : oa.map (·.block) ≠ some MB ∨ True := .inr trivial
    have HO := Lib.hid (And.intro hO (And.intro hst hg)); clear hO hst hg
    have Hl := Lib.hid hl; clear hl
    have Hhk := Lib.hid hk
    obtain ⟨r, hr⟩ : ∃ r, decide ((s.length : Int) + 1 < most) = r := ⟨_, rfl⟩
    rw [hr]
    have hlk : key.length ≤ 1048576 := by omega
    have hMlt := lt_of_cell hM
    cases r
    · skip
      go_enter Tryz.func260, Tryz.ntmps260
      go_wp2_with fail
      go_region_law (first | (go_simp; go_at_call 186; refine (slClone_any _ key _ (hk.below hdr) hlk).mono ?_; rintro e' w3 ⟨v3, rfl, ⟨b3, hx3, hb3n⟩, hbc⟩; obtain ⟨a3, c3, rfl, hcc3, _⟩ := id hx3; have hb3 : Below w.heap.size w w3 := hdr.trans (hbc.mono (Nat.le_refl _)); obtain ⟨hown3, hh3, hcl3, hfl3⟩ := hull_after HO.out.1.1 Hl.out hb3; have hz3 := lt_of_heap hh3; have hcl3a : ∀ o, (w3.alloc o).cell? ⟨OB, 0, none⟩ = some (.slice oa s.length oc) := (fun o => cell_keep hcl3 (Below.heap_alloc _ _ _ hz3)); (try dsimp only)) | (refine step_append_lies _ (by rfl) _ _ _ (by rfl) B 46 i0 _ 1 24 Tryz.underlying26 hi hz0 hz1 hz2 rfl (by omega) _ s.length _ (by rfl) (hown3.alloc _) ⟨_, 0, none⟩ 1 1 [.slice a3 key.length c3] (by rfl) (by rfl) (World.news_of_block (heap_alloc_new _ _)) (by simp [Value.oneCell']) (by omega) (by unfold maxLen; omega) (by omega) (by have := hb3.size; simp; omega) _ rfl ?_; intro gg cap w4 hown4 hgrow4 hat4 hlt4; obtain ⟨hh4, hcl4, hfl4⟩ := grown_alloc_at hh3 hgrow4 (fun e => hOB (.inl e))))
      all_goals
        have hz4 := hgrow4.size
        simp only [World.size_alloc] at hz4
        have hz3w := hb3.size
        have hb3a : Below w.heap.size w (w3.alloc (.cells #[.slice a3 key.length c3] 46)) := hb3.alloc hb3.size _
        have hO4 := Out2x.push HO.out.1 hB hb3a (hx3.alloc _) (fun hn => hb3n hn) hown4 hgrow4 (blk_or rfl hat4)
        have hM4 := cell_keep hM ((hgrow4.block MB (by simp; omega) (fun e => hMf e.symm)).trans (hb3a.block MB hMlt))
        have hM5 : (w4.setCell ⟨OB, 0, none⟩ (.slice (some ⟨gg, 0, none⟩) (s.length + 1) cap)).cell? ⟨MB, 0, none⟩ = some (.int .i64 most) := cell_keep hM4 (heap_setCell_other _ (fun e => hne.2 e))
        have hs4 := heap_setCell_self (off := 0) hh4 (.slice (some ⟨gg, 0, none⟩) (s.length + 1) cap)
        have hcl5 := cell_of_block hs4 0
        simp at hcl5
        have hG5 := OutG.push (b3 := b3) (z := w.heap.size) (v := .slice oa s.length oc) (v' := .slice (some ⟨gg, 0, none⟩) (s.length + 1) cap) (ls := s) (l := key) (bk := bk) (by rcases blk_or (v1 := .slice (some ⟨gg, 0, none⟩) (s.length + 1) cap) rfl hat4 with e | ⟨g, e, h⟩; exact .inl e; exact .inr ⟨g, e, by have := hb3a.size; omega⟩) (fun hn => hb3n hn)
        have hOBlt := lt_of_heap Hl.out
        have hOB5 : ¬ OutG (.slice (some ⟨gg, 0, none⟩) (s.length + 1) cap) (s ++ [key]) (fun k => if k < s.length then bk k else b3) OB := fun hb => by rcases hG5 OB hb with h | h; exact hOB h; omega
        have hO5 := Out2x.lo hO4 (w' := w4.setCell ⟨OB, 0, none⟩ (.slice (some ⟨gg, 0, none⟩) (s.length + 1) cap)) (fun b hb => heap_setCell_other _ (fun e => hOB5 (by have e2 : b = OB := e; rw [← e2]; exact hb)))
        have hch : Chg (OutF OB (.slice oa s.length oc) s bk) w w4 := (Chg.of_below hb3a).grown hgrow4 (fun k hk => .inl (.inr (.inl hk)))
        have hch5 := hch.setCell (p := ⟨OB, 0, none⟩) (.inl (.inl rfl)) (.slice (some ⟨gg, 0, none⟩) (s.length + 1) cap)
        have hF5 : ∀ b, OutF OB (.slice (some ⟨gg, 0, none⟩) (s.length + 1) cap) (s ++ [key]) (fun k => if k < s.length then bk k else b3) b → OutF OB (.slice oa s.length oc) s bk b ∨ w.heap.size ≤ b := fun b hb => by rcases hb with e | h; exact .inl (.inl e); rcases hG5 b h with h | h; exact .inl (.inr h); exact .inr h
        have H5 := Lib.hid (And.intro hs4 (And.intro hO5 (And.intro hOB5 (And.intro hch5 hF5)))); clear hs4 hO5 hch5 hF5 hch hO4 hOB5 hG5
        go_wp2_with fail
        go_ret
        exact ⟨rfl, _, _, _, H5.out.1, H5.out.2.1, H5.out.2.2.1, H5.out.2.2.2.1, H5.out.2.2.2.2⟩
    · skip
      go_enter Tryz.func260, Tryz.ntmps260
      go_wp2_with fail
      go_region_law (first | (go_simp; go_at_call 186; refine (slClone_any _ key _ (hk.below hdr) hlk).mono ?_; rintro e' w3 ⟨v3, rfl, ⟨b3, hx3, hb3n⟩, hbc⟩; obtain ⟨a3, c3, rfl, hcc3, _⟩ := id hx3; have hb3 : Below w.heap.size w w3 := hdr.trans (hbc.mono (Nat.le_refl _)); obtain ⟨hown3, hh3, hcl3, hfl3⟩ := hull_after HO.out.1.1 Hl.out hb3; have hz3 := lt_of_heap hh3; have hcl3a : ∀ o, (w3.alloc o).cell? ⟨OB, 0, none⟩ = some (.slice oa s.length oc) := (fun o => cell_keep hcl3 (Below.heap_alloc _ _ _ hz3)); (try dsimp only)) | (refine step_append_lies _ (by rfl) _ _ _ (by rfl) B 46 i0 _ 1 24 Tryz.underlying26 hi hz0 hz1 hz2 rfl (by omega) _ s.length _ (by rfl) (hown3.alloc _) ⟨_, 0, none⟩ 1 1 [.slice a3 key.length c3] (by rfl) (by rfl) (World.news_of_block (heap_alloc_new _ _)) (by simp [Value.oneCell']) (by omega) (by unfold maxLen; omega) (by omega) (by have := hb3.size; simp; omega) _ rfl ?_; intro gg cap w4 hown4 hgrow4 hat4 hlt4; obtain ⟨hh4, hcl4, hfl4⟩ := grown_alloc_at hh3 hgrow4 (fun e => hOB (.inl e))))
      all_goals
        have hz4 := hgrow4.size
        simp only [World.size_alloc] at hz4
        have hz3w := hb3.size
        have hb3a : Below w.heap.size w (w3.alloc (.cells #[.slice a3 key.length c3] 46)) := hb3.alloc hb3.size _
        have hO4 := Out2x.push HO.out.1 hB hb3a (hx3.alloc _) (fun hn => hb3n hn) hown4 hgrow4 (blk_or rfl hat4)
        have hM4 := cell_keep hM ((hgrow4.block MB (by simp; omega) (fun e => hMf e.symm)).trans (hb3a.block MB hMlt))
        have hM5 : (w4.setCell ⟨OB, 0, none⟩ (.slice (some ⟨gg, 0, none⟩) (s.length + 1) cap)).cell? ⟨MB, 0, none⟩ = some (.int .i64 most) := cell_keep hM4 (heap_setCell_other _ (fun e => hne.2 e))
        have hs4 := heap_setCell_self (off := 0) hh4 (.slice (some ⟨gg, 0, none⟩) (s.length + 1) cap)
        have hcl5 := cell_of_block hs4 0
        simp at hcl5
        have hG5 := OutG.push (b3 := b3) (z := w.heap.size) (v := .slice oa s.length oc) (v' := .slice (some ⟨gg, 0, none⟩) (s.length + 1) cap) (ls := s) (l := key) (bk := bk) (by rcases blk_or (v1 := .slice (some ⟨gg, 0, none⟩) (s.length + 1) cap) rfl hat4 with e | ⟨g, e, h⟩; exact .inl e; exact .inr ⟨g, e, by have := hb3a.size; omega⟩) (fun hn => hb3n hn)
        have hOBlt := lt_of_heap Hl.out
        have hOB5 : ¬ OutG (.slice (some ⟨gg, 0, none⟩) (s.length + 1) cap) (s ++ [key]) (fun k => if k < s.length then bk k else b3) OB := fun hb => by rcases hG5 OB hb with h | h; exact hOB h; omega
        have hO5 := Out2x.lo hO4 (w' := w4.setCell ⟨OB, 0, none⟩ (.slice (some ⟨gg, 0, none⟩) (s.length + 1) cap)) (fun b hb => heap_setCell_other _ (fun e => hOB5 (by have e2 : b = OB := e; rw [← e2]; exact hb)))
        have hch : Chg (OutF OB (.slice oa s.length oc) s bk) w w4 := (Chg.of_below hb3a).grown hgrow4 (fun k hk => .inl (.inr (.inl hk)))
        have hch5 := hch.setCell (p := ⟨OB, 0, none⟩) (.inl (.inl rfl)) (.slice (some ⟨gg, 0, none⟩) (s.length + 1) cap)
        have hF5 : ∀ b, OutF OB (.slice (some ⟨gg, 0, none⟩) (s.length + 1) cap) (s ++ [key]) (fun k => if k < s.length then bk k else b3) b → OutF OB (.slice oa s.length oc) s bk b ∨ w.heap.size ≤ b := fun b hb => by rcases hb with e | h; exact .inl (.inl e); rcases hG5 b h with h | h; exact .inl (.inr h); exact .inr h
        have H5 := Lib.hid (And.intro hs4 (And.intro hO5 (And.intro hOB5 (And.intro hch5 hF5)))); clear hs4 hO5 hch5 hF5 hch hO4 hOB5 hG5
        go_wp2_with fail
        go_ret
        exact ⟨rfl, _, _, _, H5.out.1, H5.out.2.1, H5.out.2.2.1, H5.out.2.2.2.1, H5.out.2.2.2.2⟩
  · have hst : ghStep gb most s key ds = (s, decide ((s.length : Int) < most)) := by unfold ghStep; rw [if_neg hg]
    rw [hst]
    have Hfin : (∃ lv' vs' bk', w.heap[OB]? = some (.cells #[lv'] 26 (0, 0)) ∧ Out2x B w lv' s vs' bk' ∧ ¬ OutG lv' s bk' OB ∧ Chg (OutF OB (.slice oa s.length oc) s bk) w w ∧ ∀ b, OutF OB lv' s bk' b → OutF OB (.slice oa s.length oc) s bk b ∨ w.heap.size ≤ b) := ⟨_, vs, bk, hl, hO, hOB, Chg.refl _ _, fun b hb => .inl hb⟩
    have HFin := Lib.hid Hfin; clear Hfin
    clear hl hO
    cases hgb : (decide (0 < ds.length) == gb) <;> cases hm : decide ((s.length : Int) < most)
    · skip
      have Hg := Lib.hid (And.intro hg hst); clear hg hst
      go_enter Tryz.func260, Tryz.ntmps260
      go_wp2_with fail
      go_ret
      exact ⟨rfl, HFin.out⟩
    · skip
      have Hg := Lib.hid (And.intro hg hst); clear hg hst
      go_enter Tryz.func260, Tryz.ntmps260
      go_wp2_with fail
      go_ret
      exact ⟨rfl, HFin.out⟩
    · skip
      have Hg := Lib.hid (And.intro hg hst); clear hg hst
      go_enter Tryz.func260, Tryz.ntmps260
      go_wp2_with fail
      go_ret
      exact ⟨rfl, HFin.out⟩
    · exact absurd ⟨eq_of_beq hgb, of_decide_eq_true hm⟩ hg
theorem gh_run (gb : Bool) (M : Nat) (cuts : List (List Int)) (locks : List (List (List Int))) : ∀ (l s : List (List Int)), s.length ≤ M → (runL (outStep (ghStep gb (M : Int)) cuts locks) s l).1 = s ++ (selL locks cuts gb l).take (M - s.length)
  | [], s, h => by simp [runL, selL]
  | k :: l, s, h => by
    rw [runL]
    unfold selL
    rw [List.filter_cons]
    by_cases hc : hasL cuts k = true
    · have e1 : outStep (ghStep gb (M : Int)) cuts locks s k = (s, true) := by unfold outStep; rw [if_pos hc]
      have e2 : selK locks cuts gb k = false := by unfold selK; simp [hc]
      rw [e1, e2]
      exact gh_run gb M cuts locks l s h
    · have e1 : outStep (ghStep gb (M : Int)) cuts locks s k = ghStep gb (M : Int) s k (doorsOf locks k) := by unfold outStep; rw [if_neg hc]
      rw [e1]
      by_cases hk : decide (0 < (doorsOf locks k).length) = gb
      · have e2 : selK locks cuts gb k = true := by unfold selK; simp only [Bool.not_eq_true] at hc; rw [hc, show decide (0 < ndoors locks k) = gb from hk]; simp
        rw [e2, if_pos rfl]
        by_cases hm : s.length < M
        · have e4 : ghStep gb (M : Int) s k (doorsOf locks k) = (s ++ [k], decide ((s.length : Int) + 1 < (M : Int))) := by unfold ghStep; rw [if_pos ⟨hk, by omega⟩]
          rw [e4]
          by_cases hm2 : s.length + 1 < M
          · have e3 : decide ((s.length : Int) + 1 < (M : Int)) = true := decide_eq_true (by omega)
            rw [if_pos e3]
            have := gh_run gb M cuts locks l (s ++ [k]) (by simp; omega)
            show (runL _ (s ++ [k]) l).1 = _
            rw [this, List.append_assoc]
            congr 1
            rw [show M - s.length = (M - (s ++ [k]).length) + 1 by simp; omega]
            rfl
          · have e3 : decide ((s.length : Int) + 1 < (M : Int)) = false := decide_eq_false (by omega)
            rw [if_neg (by rw [e3]; exact Bool.false_ne_true), show M - s.length = 0 + 1 by omega]
            simp
        · have e4 : ghStep gb (M : Int) s k (doorsOf locks k) = (s, decide ((s.length : Int) < (M : Int))) := by unfold ghStep; rw [if_neg (fun h => hm (by have := h.2; omega))]
          have e3 : decide ((s.length : Int) < (M : Int)) = false := decide_eq_false (by omega)
          rw [e4, if_neg (by rw [e3]; exact Bool.false_ne_true), show M - s.length = 0 by omega]
          simp
      · have e2 : selK locks cuts gb k = false := by unfold selK; rw [show decide (0 < ndoors locks k) = decide (0 < (doorsOf locks k).length) from rfl]; simp [hk]
        have e4 : ghStep gb (M : Int) s k (doorsOf locks k) = (s, decide ((s.length : Int) < (M : Int))) := by unfold ghStep; rw [if_neg (fun h => hk h.1)]
        rw [e2, e4]
        by_cases hm : s.length < M
        · have e3 : decide ((s.length : Int) < (M : Int)) = true := decide_eq_true (by omega)
          rw [if_pos e3]
          exact gh_run gb M cuts locks l s h
        · have e3 : decide ((s.length : Int) < (M : Int)) = false := decide_eq_false (by omega)
          rw [if_neg (by rw [e3]; exact Bool.false_ne_true), show M - s.length = 0 by omega]
          simp
theorem gh_ok (m : Mk) (hm : m.ok = true) (cuts : List (List Int)) (locks : List (List (List Int))) (gb : Bool) (M : Nat) (B GB OB MB : Nat) (W : World) (F0 : Nat → Prop) (hG : W.cell? ⟨GB, 0, none⟩ = some (.bool gb)) (hM : W.cell? ⟨MB, 0, none⟩ = some (.int .i64 M))
    (hne : ¬ F0 GB ∧ ¬ F0 MB) :
    VisD m.c.toNat W F0 260 #[.pointer (some ⟨GB, 0, none⟩), .pointer (some ⟨OB, 0, none⟩), .pointer (some ⟨MB, 0, none⟩)] (ghStep gb (M : Int)) [] (keysOf m) cuts locks (GhInv B GB OB MB gb (M : Int)) := by
  refine ⟨enters_gf, ?_, ?_, ?_⟩
  · rintro s F w w' ⟨lv, vs, bk, h1, h2, h3, h4, h5⟩ hz hk
    exact ⟨lv, vs, bk, h1, by rw [hk OB ((h1 OB).2 (.inl rfl))]; exact h2, h3.lo fun b hb => hk b ((h1 b).2 (.inr hb)), h4, Nat.le_trans h5 hz⟩
  · rintro s F w ⟨lv, vs, bk, h1, h2, h3, h4, h5⟩ b hb
    exact h3.lt (lt_of_heap h2) b ((h1 b).1 hb)
  · rintro s F S S2 w v dv key done rest hL hr ⟨lv, vs, bk, h1, h2, h3, h4, h5⟩ hchg hsub hV hS hD hS2 hkl
    have hle := keysOf_length hm
    rw [hL] at hle
    have hrun := gh_run gb M cuts locks done [] (Nat.zero_le _)
    rw [hr] at hrun
    have hsl : s.length ≤ done.length := by
      rw [show s = _ from hrun]
      simp only [List.nil_append, List.length_take]
      have : (selL locks cuts gb done).length ≤ done.length := List.length_filter_le _ _
      omega
    simp at hle
    have hnG : ¬ F GB := fun h => by rcases hsub _ h with h | h; exact hne.1 h; have h9 : GB < W.heap.size := lt_of_cell hG; omega
    have hnM : ¬ F MB := fun h => by rcases hsub _ h with h | h; exact hne.2 h; have h9 : MB < W.heap.size := lt_of_cell hM; omega
    have hmk := Mk.ok_iff.1 hm
    refine (gh1_any v dv lv key (doorsOf locks key) s vs bk B GB OB MB gb (M : Int) w hV hD (cell_keep hG (hchg.block _ (lt_of_cell hG) hne.1)) (cell_keep hM (hchg.block _ (lt_of_cell hM) hne.2)) h2 h3 h4 h5 ⟨fun e => hnG ((h1 _).2 (.inl e)), fun e => hnM ((h1 _).2 (.inl e))⟩ (fun e => hnM ((h1 _).2 (.inr (.inl e)))) (by omega) (by omega)).mono ?_
    rintro e w' ⟨rfl, lv', vs', bk', h6, h7, h8, h9, h10⟩
    refine ⟨OutF OB lv' (ghStep gb (M : Int) s key (doorsOf locks key)).1 bk', rfl, ⟨lv', vs', bk', fun b => Iff.rfl, h6, h7, h8, Nat.le_trans h5 h9.size⟩, h9.mono (fun b hb => (h1 b).2 hb), fun b hb => ?_⟩
    rcases h10 b hb with h | h
    · exact .inl ((h1 b).2 h)
    · exact .inr h
end Go.Proofs.YtmfgdoflddhngaaGreat

namespace Go.Proofs.YtmfgdoflddhngaaGreat
open Go.RowKit
set_option linter.unusedVariables false
set_option linter.unusedSimpArgs false

def listAns (m : Mk) (t cuts : List (List Int)) (most : Int) (gb : Bool) : List (List Int) × Int :=
  if designC m t cuts ≠ 0 then ([], designC m t cuts) else if inB most 0 300 = false then ([], 2) else ((selL (locksTo m.c.toNat t cuts (getl t 0).length) cuts gb (keysOf m)).take most.toNat, 0)
def ghostsAns (m : Mk) (t cuts : List (List Int)) (most : Int) : List (List Int) × Int := listAns m t cuts most true
def safeAns (m : Mk) (t cuts : List (List Int)) (most : Int) : List (List Int) × Int := listAns m t cuts most false
theorem F2.nil0 {B : Nat} {w : World} : F2 B w (.slice none 0 0) [] := ⟨0, fun _ => 0, ⟨none, 0, rfl, Nat.le_refl _, Nat.zero_le _, fun hn => absurd rfl hn, fun k hk => by simp at hk⟩, fun hn => absurd rfl hn, fun k hk => by simp at hk⟩
set_option maxRecDepth 100000 in
set_option maxHeartbeats 1000000 in
theorem firstOutsiders_any {S S' : Nat → Prop} (m : Mk) (u v : Value) (t cuts : List (List Int)) (most : Int) (gb : Bool) (W : World) (h : V2 S W u t) (hc : V2 S' W v cuts) :
    Calls Tryz.prog 168 #[.agg #[.int .i64 m.c, .int .i64 m.d, .int .i64 m.s, .int .i64 m.e, .int .i64 m.l, u], v, .int .i64 most, .bool gb] W fun e' w' => ∃ v', e' = .returned (.tuple #[v', .int .i64 (listAns m t cuts most gb).2]) ∧ F2 W.heap.size w' v' (listAns m t cuts most gb).1 ∧ Below W.heap.size W w' := by
  obtain ⟨a, c, rfl, hmx⟩ := h.form
  obtain ⟨a', c', rfl, hmx'⟩ := hc.form
  obtain ⟨WA, hWA⟩ : ∃ WA, WA = ((W.alloc (.cells #[.int .i64 m.c, .int .i64 m.d, .int .i64 m.s, .int .i64 m.e, .int .i64 m.l, .slice a t.length c] 28)).alloc (.cells #[.int .i64 most] 2)).alloc (.cells #[.bool gb] 4) := ⟨_, rfl⟩
  have hbA : Below W.heap.size W WA := by rw [hWA]; exact by (repeat (first | (with_reducible refine Below.setCell ?_ ?_ _) | (with_reducible refine Below.alloc ?_ ?_ _) | (with_reducible refine Below.drew ?_) | (with_reducible refine below_drewN ?_ _) | (with_reducible exact Below.refl _ _) | (with_reducible assumption) | (with_reducible refine Below.trans ?_ (Below.mono (by with_reducible assumption) ?_)) | go_size))
  have hzA : WA.heap.size = W.heap.size + 3 := by rw [hWA]; simp
  have hA0 : WA.heap[W.heap.size]? = some (.cells #[.int .i64 m.c, .int .i64 m.d, .int .i64 m.s, .int .i64 m.e, .int .i64 m.l, .slice a t.length c] 28 (0, 0)) := by rw [hWA]; simp only [heap_alloc_at, World.size_alloc]; simp; omega
  have hA1 : WA.heap[W.heap.size + 1]? = some (.cells #[.int .i64 most] 2 (0, 0)) := by rw [hWA]; simp only [heap_alloc_at, World.size_alloc]; simp
  have hA2 : WA.heap[W.heap.size + 1 + 1]? = some (.cells #[.bool gb] 4 (0, 0)) := by rw [hWA]; simp only [heap_alloc_at, World.size_alloc]; simp
  have HA := Lib.hid (And.intro hA0 (And.intro hA1 hA2)); clear hA0 hA1 hA2
  have hV1 := (h.below hbA).any
  have hC1 := (hc.below hbA).any
  have hcode := designCode_any m _ _ t cuts WA hV1 hC1
  by_cases hp : designC m t cuts = 0
  · rw [hp] at hcode
    have hf := (design_fits hp).1
    have hmc := mc_nat hf.ok
    cases hi : inB most 0 300
    · have hfin : listAns m t cuts most gb = ([], 2) := by unfold listAns; rw [if_neg (by rw [hp]; decide), if_pos hi]
      rw [hfin]
      have Hp := Lib.hid (And.intro hp (And.intro hf (And.intro hmc hfin))); clear hp hf hmc hfin
      have Hi := Lib.hid hi; clear hi
      go_enter Tryz.func168, Tryz.ntmps168
      go_wp2_with fail
      rw [← hWA]
      refine hcode.mono ?_
      rintro e' w2 ⟨rfl, hb2⟩
      have hbA2 := hbA.trans (hb2.mono hbA.size)
      have hx2 : ∀ o, w2.cell? ⟨W.heap.size, o, none⟩ = (#[.int .i64 m.c, .int .i64 m.d, .int .i64 m.s, .int .i64 m.e, .int .i64 m.l, .slice a t.length c] : Array Value)[o]? := fun o => cell_of_block (heap_below HA.out.1 hb2 (by omega)) o
      have hM2 : w2.cell? ⟨W.heap.size + 1, 0, none⟩ = some (.int .i64 most) := cell_of_block (heap_below HA.out.2.1 hb2 (by omega)) 0
      have hG2 : w2.cell? ⟨W.heap.size + 1 + 1, 0, none⟩ = some (.bool gb) := cell_of_block (heap_below HA.out.2.2 hb2 (by omega)) 0
      have hz2 : W.heap.size + 1 + 1 < w2.heap.size := by have := hb2.size; omega
      go_wp2_with (go_at_call 120; refine (within_b _ _ _ _ _ Hi.out).mono ?_; rintro e' w' ⟨rfl, rfl⟩)
      go_ret2
      exact ⟨_, rfl, F2.nil0, hbA2⟩
    · have hm := inB_iff.1 hi
      have hfin : listAns m t cuts most gb = ((selL (locksTo m.c.toNat t cuts (getl t 0).length) cuts gb (keysOf m)).take most.toNat, 0) := by unfold listAns; rw [if_neg (by rw [hp]; decide), if_neg (by rw [hi]; decide)]
      rw [hfin]
      obtain ⟨M, rfl⟩ : ∃ M : Nat, most = (M : Int) := ⟨most.toNat, by omega⟩
      rw [show ((M : Int)).toNat = M from rfl]
      have Hp := Lib.hid (And.intro hp (And.intro hf (And.intro hmc (And.intro hfin hm)))); clear hp hf hmc hfin hm
      have Hi := Lib.hid hi; clear hi
      obtain ⟨locks, hlocks⟩ : ∃ x, x = locksTo m.c.toNat t cuts (getl t 0).length := ⟨_, rfl⟩
      rw [← hlocks]
      have Hlk := Lib.hid hlocks; clear hlocks
      go_enter Tryz.func168, Tryz.ntmps168
      go_wp2_with fail
      rw [← hWA]
      refine hcode.mono ?_
      rintro e' w2 ⟨rfl, hb2⟩
      have hbA2 := hbA.trans (hb2.mono hbA.size)
      have hx2 : ∀ o, w2.cell? ⟨W.heap.size, o, none⟩ = (#[.int .i64 m.c, .int .i64 m.d, .int .i64 m.s, .int .i64 m.e, .int .i64 m.l, .slice a t.length c] : Array Value)[o]? := fun o => cell_of_block (heap_below HA.out.1 hb2 (by omega)) o
      have hM2 : w2.cell? ⟨W.heap.size + 1, 0, none⟩ = some (.int .i64 (M : Int)) := cell_of_block (heap_below HA.out.2.1 hb2 (by omega)) 0
      have hG2 : w2.cell? ⟨W.heap.size + 1 + 1, 0, none⟩ = some (.bool gb) := cell_of_block (heap_below HA.out.2.2 hb2 (by omega)) 0
      have hz2 : W.heap.size + 1 + 1 < w2.heap.size := by have := hb2.size; omega
      obtain ⟨w3, hw3, hb23, hz23, HZ23, _, _⟩ := box_facts w2 #[] 46
      obtain ⟨w4, hw4, hb34, hz34, HZ34, _, hh34⟩ := box_facts w3 #[.slice (some ⟨w2.heap.size, 0, none⟩) 0 0] 26
      have hb24 := hb23.trans (hb34.mono hb23.size)
      have hx4 : ∀ o, w4.cell? ⟨W.heap.size, o, none⟩ = (#[.int .i64 m.c, .int .i64 m.d, .int .i64 m.s, .int .i64 m.e, .int .i64 m.l, .slice a t.length c] : Array Value)[o]? := fun o => by rw [(bcell hb24).1 _ _ (by omega), hx2]
      have hw4x : w4 = (w2.alloc (.cells #[] 46)).alloc (.cells #[.slice (some ⟨w2.heap.size, 0, none⟩) 0 0] 26) := by rw [hw4, hw3]
      have hx4' : ∀ o, ((w2.alloc (.cells #[] 46)).alloc (.cells #[.slice (some ⟨w2.heap.size, 0, none⟩) 0 0] 26)).cell? ⟨W.heap.size, o, none⟩ = (#[.int .i64 m.c, .int .i64 m.d, .int .i64 m.s, .int .i64 m.e, .int .i64 m.l, .slice a t.length c] : Array Value)[o]? := fun o => by rw [← hw4x]; exact hx4 o
      have hown3 : w3.ownsRow W.heap.size 46 1 (.slice (some ⟨w2.heap.size, 0, none⟩) 0 0) 0 [] := by rw [hw3]; exact own_lit0 w2 _ _ 1 (by omega)
      have hown4 := own_keep hown3 hb34
      have Hw4 := Lib.hid (And.intro hw4x (And.intro hh34 (And.intro HZ23.out (And.intro HZ34.out hown4)))); clear hw4x hh34 hw3 hw4 hown3 hown4
      go_wp2_with (go_at_call 120; refine (within_b _ _ _ _ _ Hi.out).mono ?_; rintro e' w' ⟨rfl, rfl⟩)
      rw [← Hw4.out.1]
      clear hx4'
      have hz3 := Hw4.out.2.2.1
      have hz4 := Hw4.out.2.2.2.1
      have hbA4 := hbA2.trans (hb24.mono hbA2.size)
      have hh4 := Hw4.out.2.1
      rw [hz3] at hh4
      obtain ⟨F0, hF0⟩ : ∃ F0, F0 = OutF (w2.heap.size + 1) (.slice (some ⟨w2.heap.size, 0, none⟩) 0 0) [] (fun _ => 0) := ⟨_, rfl⟩
      have hFb : ∀ b, F0 b → w2.heap.size ≤ b := fun b hb => by
        rw [hF0] at hb
        rcases hb with e | e | ⟨k, h1, _⟩
        · omega
        · have e2 : w2.heap.size = b := by simpa [Value.ownBlock] using e
          omega
        · simp at h1
      have hG4 := cell_keep hG2 (hb24.block _ (lt_of_cell hG2))
      have hM4 := cell_keep hM2 (hb24.block _ (lt_of_cell hM2))
      have hok := Hp.out.2.1.ok
      have hnG : ¬ F0 (W.heap.size + 1 + 1) := fun hb => by have := hFb _ hb; omega
      have hnM : ¬ F0 (W.heap.size + 1) := fun hb => by have := hFb _ hb; omega
      have hvd := gh_ok m hok cuts (locksTo m.c.toNat t cuts (getl t 0).length) gb M W.heap.size (W.heap.size + 1 + 1) (w2.heap.size + 1) (W.heap.size + 1) w4 F0 hG4 hM4 ⟨hnG, hnM⟩
      have hI : GhInv W.heap.size (W.heap.size + 1 + 1) (w2.heap.size + 1) (W.heap.size + 1) gb (M : Int) [] F0 w4 := by
        refine ⟨_, [], fun _ => 0, fun b => by rw [hF0], hh4, ⟨Hw4.out.2.2.2.2, fun k hk => by simp at hk, fun k hk => by simp at hk⟩, fun hb => ?_, by omega⟩
        rcases hb with e | ⟨k, h1, _⟩
        · simp [Value.ownBlock] at e
        · simp at h1
      have hV4 : V2 (fun b => ¬ F0 b) w4 (.slice a t.length c) t := ((h.below hbA2).old.below hb24).mono (fun b h1 h2 hf => by have h1' : b < w2.heap.size := h1; have := hFb b hf; omega) (fun _ _ _ => rfl)
      have hC4 : V2 (fun b => ¬ F0 b) w4 (.slice a' cuts.length c') cuts := ((hc.below hbA2).old.below hb24).mono (fun b h1 h2 hf => by have h1' : b < w2.heap.size := h1; have := hFb b hf; omega) (fun _ _ _ => rfl)
      have hall := eachOutsider_any (.slice a t.length c) (.slice a' cuts.length c') Hp.out.2.1 Hp.out.2.2.1 w4 hvd hI hV4 hC4
      rw [← Hlk.out, gh_run gb M cuts locks (keysOf m) [] (Nat.zero_le _)] at hall
      refine hall.mono ?_
      rintro e' w5 ⟨F', ⟨lv, vs, bk, h1, h2, h3, h4, h5⟩, hchg, hsub, rfl⟩
      have hc5 := cell_of_block h2 0
      simp at hc5
      have Hfin := Lib.hid (And.intro h3.out.f2 hchg); clear h3 hchg hall hvd hI hx4 h1 h2 h4
      go_wp2_with fail
      go_ret2
      exact ⟨_, rfl, by have := Hfin.out.1; rwa [List.nil_append, List.length_nil, Nat.sub_zero] at this, hbA4.trans (Hfin.out.2.to_below (fun i hi => by have := hFb i hi; omega) hbA4.size)⟩
  · have hfin : listAns m t cuts most gb = ([], designC m t cuts) := by unfold listAns; rw [if_pos hp]
    have e1 : (designC m t cuts != 0) = true := by simp [hp]
    rw [hfin]
    have Hp := Lib.hid (And.intro hp hfin); clear hp hfin
    generalize designC m t cuts = pc at *
    go_enter Tryz.func168, Tryz.ntmps168
    go_wp2_with fail
    rw [← hWA]
    refine hcode.mono ?_
    rintro e' w2 ⟨rfl, hb2⟩
    have hbA2 := hbA.trans (hb2.mono hbA.size)
    have hx2 : ∀ o, w2.cell? ⟨W.heap.size, o, none⟩ = (#[.int .i64 m.c, .int .i64 m.d, .int .i64 m.s, .int .i64 m.e, .int .i64 m.l, .slice a t.length c] : Array Value)[o]? := fun o => cell_of_block (heap_below HA.out.1 hb2 (by omega)) o
    have hM2 : w2.cell? ⟨W.heap.size + 1, 0, none⟩ = some (.int .i64 most) := cell_of_block (heap_below HA.out.2.1 hb2 (by omega)) 0
    have hG2 : w2.cell? ⟨W.heap.size + 1 + 1, 0, none⟩ = some (.bool gb) := cell_of_block (heap_below HA.out.2.2 hb2 (by omega)) 0
    have hz2 : W.heap.size + 1 + 1 < w2.heap.size := by have := hb2.size; omega
    clear hx2 hM2 hG2
    go_wp2_with fail
    go_ret2
    exact ⟨_, rfl, F2.nil0, hbA2⟩
set_option maxRecDepth 100000 in
theorem SystemGhosts_any {S S' : Nat → Prop} (m : Mk) (u v : Value) (t cuts : List (List Int)) (most : Int) (W : World) (h : V2 S W u t) (hc : V2 S' W v cuts) :
    Calls Tryz.prog 66 #[.agg #[.int .i64 m.c, .int .i64 m.d, .int .i64 m.s, .int .i64 m.e, .int .i64 m.l, u], v, .int .i64 most] W fun e' w' => ∃ v', e' = .returned (.tuple #[v', .int .i64 (ghostsAns m t cuts most).2]) ∧ F2 W.heap.size w' v' (ghostsAns m t cuts most).1 ∧ Below W.heap.size W w' := by
  obtain ⟨a, c, rfl, hmx⟩ := h.form
  obtain ⟨a', c', rfl, hmx'⟩ := hc.form
  obtain ⟨W1, hW1, hB01, hz01, HZ01, hc01, hh01⟩ := box_facts W #[.int .i64 m.c, .int .i64 m.d, .int .i64 m.s, .int .i64 m.e, .int .i64 m.l, .slice a t.length c] 28
  have hall := firstOutsiders_any m _ _ t cuts most true W1 (h.below hB01) (hc.below hB01)
  unfold ghostsAns
  generalize listAns m t cuts most true = ans at *
  go_enter Tryz.func66, Tryz.ntmps66
  go_wp2_with fail
  rw [← hW1]
  refine hall.mono ?_
  rintro e' w2 ⟨v', rfl, hF, hb2⟩
  have HF := Lib.hid hF; clear hF
  clear hc01 hh01
  go_wp2_with fail
  go_ret2
  exact ⟨_, rfl, HF.out.mono hB01.size, hB01.trans (hb2.mono hB01.size)⟩
theorem SafeKeys_any {S S' : Nat → Prop} (m : Mk) (u v : Value) (t cuts : List (List Int)) (most : Int) (W : World) (h : V2 S W u t) (hc : V2 S' W v cuts) :
    Calls Tryz.prog 77 #[.agg #[.int .i64 m.c, .int .i64 m.d, .int .i64 m.s, .int .i64 m.e, .int .i64 m.l, u], v, .int .i64 most] W fun e' w' => ∃ v', e' = .returned (.tuple #[v', .int .i64 (safeAns m t cuts most).2]) ∧ F2 W.heap.size w' v' (safeAns m t cuts most).1 ∧ Below W.heap.size W w' := by
  obtain ⟨a, c, rfl, hmx⟩ := h.form
  obtain ⟨a', c', rfl, hmx'⟩ := hc.form
  obtain ⟨W1, hW1, hB01, hz01, HZ01, hc01, hh01⟩ := box_facts W #[.int .i64 m.c, .int .i64 m.d, .int .i64 m.s, .int .i64 m.e, .int .i64 m.l, .slice a t.length c] 28
  have hall := firstOutsiders_any m _ _ t cuts most false W1 (h.below hB01) (hc.below hB01)
  unfold safeAns
  generalize listAns m t cuts most false = ans at *
  go_enter Tryz.func77, Tryz.ntmps77
  go_wp2_with fail
  rw [← hW1]
  refine hall.mono ?_
  rintro e' w2 ⟨v', rfl, hF, hb2⟩
  have HF := Lib.hid hF; clear hF
  clear hc01 hh01
  go_wp2_with fail
  go_ret2
  exact ⟨_, rfl, HF.out.mono hB01.size, hB01.trans (hb2.mono hB01.size)⟩
end Go.Proofs.YtmfgdoflddhngaaGreat

namespace Go.Proofs.YtmfgdoflddhngaaGreat
open Go.RowKit
set_option linter.unusedVariables false
set_option linter.unusedSimpArgs false

theorem own_opens {m : Mk} {t cuts : List (List Int)} {n i d : Nat} (hf : Fits m t cuts) (hn : (n : Int) = m.c) (hi : i < cuts.length) (h1 : geti (getl t i) d = 1) : opensB (lockR n t cuts d) (getl cuts i) = true :=
  opensB_iff.2 fun c hc => by
    have hl := hf.lens i hi
    rw [lockR, hullR_get (by omega), (diffI_sort _).2, colOf, List.mem_map]
    refine ⟨getl cuts i, ?_, rfl⟩
    rw [doorCuts_map, List.mem_map]
    exact ⟨(i : Int), mem_rowsF.2 ⟨i, by omega, rfl, h1⟩, by simp⟩
theorem doorsAns_ok {m : Mk} {t cuts : List (List Int)} {key : List Int} (hp : designC m t cuts = 0) (hk : isKeyB m key = true) : doorsAns m t cuts key = (doorsOf (locksTo m.c.toNat t cuts (getl t 0).length) key, 0) := by
  unfold doorsAns
  rw [if_neg (by rw [keyC_ok.2 ⟨hp, hk⟩]; decide)]
theorem hasI_doors {locks : List (List (List Int))} {key : List Int} {d : Nat} (hd : d < locks.length) : hasI (doorsOf locks key) (d : Int) = opensB (getll locks d) key := by
  rw [Bool.eq_iff_iff, hasI_iff, doorsOf, mem_doorsTo]
  constructor
  · rintro ⟨e, h1, h2, h3⟩
    have : d = e := by omega
    subst this; exact h3
  · intro h; exact ⟨d, hd, rfl, h⟩
/-- A key of a design opens exactly the doors of its row. -/
theorem design_doors {m : Mk} {t cuts : List (List Int)} (hp : designC m t cuts = 0) {i d : Nat} (hi : i < cuts.length) (hd : d < (getl t 0).length) :
    hasI (doorsAns m t cuts (getl cuts i)).1 (d : Int) = decide (geti (getl t i) d = 1) := by
  obtain ⟨hf, hcl⟩ := design_fits hp
  have hn := mc_nat hf.ok
  have hk := hf.keys i hi
  rw [doorsAns_ok hp hk]
  show hasI (doorsOf _ _) _ = _
  rw [hasI_doors (by rw [locksTo_len]; exact hd), locksTo_get hd]
  have hb := hf.bits i (by omega) _ (geti_mem (l := getl t i) (k := d) (by rw [hf.cols i (by omega)]; exact hd))
  by_cases h1 : geti (getl t i) d = 1
  · rw [own_opens hf hn hi h1, decide_eq_true h1]
  · rw [decide_eq_false h1]
    have h0 : geti (getl t i) d = 0 := by omega
    have hfl := (designC_ok hp).2
    cases ho : opensB (lockR m.c.toNat t cuts d) (getl cuts i)
    · rfl
    · exfalso
      have hm : [(i : Int), (d : Int)] ∈ falseL m.c.toNat t cuts := by
        unfold falseL
        exact mem_falseRows.2 ⟨i, d, hi, hd, rfl, h0, by rw [locksTo_get hd]; exact ho⟩
      rw [List.eq_nil_of_length_eq_zero hfl] at hm
      cases hm
theorem gen_nodup (m : Mk) : ∀ (rem : Nat) (pre : List Int), (gen m rem pre).Nodup
  | 0, pre => by unfold gen; split <;> simp
  | rem + 1, pre => by
    rw [gen_succ]
    unfold List.Nodup
    rw [List.pairwise_flatMap]
    have hbr : ∀ x k, k ∈ branch m rem pre x → ∃ r, k = pre ++ x :: r := fun x k hk => by
      unfold branch at hk
      split at hk
      · obtain ⟨r, hr⟩ := ((gen_mem rem (pre ++ [x]) k).1 hk).1
        exact ⟨r, by rw [← hr]; simp⟩
      · cases hk
    refine ⟨fun x _ => ?_, ?_⟩
    · unfold branch
      split
      · exact gen_nodup m rem _
      · exact List.Pairwise.nil
    · have hd : (depths 0 m.d.toNat).Pairwise (· < ·) := by
        unfold depths
        rw [List.pairwise_map]
        exact List.Pairwise.imp (fun h => by omega) (List.pairwise_lt_range (n := m.d.toNat - 0))
      refine hd.imp fun {x y} hxy a ha b hb e => ?_
      obtain ⟨r, rfl⟩ := hbr x a ha
      obtain ⟨r2, h2⟩ := hbr y b hb
      rw [h2] at e
      have := (List.append_cancel_left e)
      injection this with h3 _
      omega
theorem keysOf_nodup (m : Mk) : (keysOf m).Nodup := gen_nodup m _ _
/-- The different rows of a list, as the law collects them. -/
def ddTo (cuts : List (List Int)) : Nat → List (List Int)
  | 0 => []
  | k + 1 => if hasL (ddTo cuts k) (getl cuts k) = true then ddTo cuts k else ddTo cuts k ++ [getl cuts k]
theorem mem_ddTo {cuts : List (List Int)} {x : List Int} : ∀ {k}, x ∈ ddTo cuts k ↔ ∃ i, i < k ∧ x = getl cuts i
  | 0 => by simp [ddTo]
  | k + 1 => by
    unfold ddTo
    by_cases h : hasL (ddTo cuts k) (getl cuts k) = true
    · rw [if_pos h, mem_ddTo]
      constructor
      · rintro ⟨i, h1, h2⟩; exact ⟨i, by omega, h2⟩
      · rintro ⟨i, h1, h2⟩
        by_cases e : i = k
        · subst e
          rw [h2]
          exact mem_ddTo.1 (hasL_iff.1 h)
        · exact ⟨i, by omega, h2⟩
    · rw [if_neg h, List.mem_append, mem_ddTo]
      constructor
      · rintro (⟨i, h1, h2⟩ | h1)
        · exact ⟨i, by omega, h2⟩
        · exact ⟨k, by omega, List.mem_singleton.1 h1⟩
      · rintro ⟨i, h1, h2⟩
        by_cases e : i = k
        · subst e; right; exact List.mem_singleton.2 h2
        · exact .inl ⟨i, by omega, h2⟩
theorem ddTo_nodup (cuts : List (List Int)) : ∀ k, (ddTo cuts k).Nodup
  | 0 => by simp [ddTo]
  | k + 1 => by
    unfold ddTo
    by_cases h : hasL (ddTo cuts k) (getl cuts k) = true
    · rw [if_pos h]; exact ddTo_nodup cuts k
    · rw [if_neg h]
      rw [List.nodup_append]
      refine ⟨ddTo_nodup cuts k, by simp, fun a ha b hb e => ?_⟩
      rw [List.mem_singleton.1 hb] at e
      exact h (hasL_iff.2 (e ▸ ha))
theorem ddTo_len (cuts : List (List Int)) : ∀ k, (ddTo cuts k).length ≤ k
  | 0 => Nat.le_refl _
  | k + 1 => by have := ddTo_len cuts k; unfold ddTo; split <;> simp <;> omega
theorem dd_count {m : Mk} {cuts : List (List Int)} (hc : 0 ≤ m.c) (hk : ∀ k, k < cuts.length → isKeyB m (getl cuts k) = true) : (ddTo cuts cuts.length).length = (keysOf m).countP (hasL cuts) := by
  rw [List.countP_eq_length_filter]
  refine List.Perm.length_eq ((List.perm_ext_iff_of_nodup (ddTo_nodup _ _) (List.Nodup.sublist List.filter_sublist (keysOf_nodup m))).2 fun x => ?_)
  rw [mem_ddTo, List.mem_filter, hasL_iff, mem_keysOf hc]
  constructor
  · rintro ⟨i, h1, rfl⟩; exact ⟨hk i h1, getl_mem h1⟩
  · rintro ⟨_, h⟩
    obtain ⟨i, hi, rfl⟩ := List.getElem_of_mem h
    exact ⟨i, hi, (getl_eq hi).symm⟩
theorem three_ways (locks : List (List (List Int))) (cuts : List (List Int)) : ∀ ks : List (List Int), ks.countP (hasL cuts) + (selL locks cuts true ks).length + (selL locks cuts false ks).length = ks.length
  | [] => rfl
  | k :: ks => by
    have ih := three_ways locks cuts ks
    unfold selL at ih ⊢
    rw [List.countP_cons, List.filter_cons, List.filter_cons, List.length_cons]
    have hT : selK locks cuts true k = (decide (0 < ndoors locks k) && !hasL cuts k) := by unfold selK; cases decide (0 < ndoors locks k) <;> rfl
    have hF : selK locks cuts false k = (!decide (0 < ndoors locks k) && !hasL cuts k) := by unfold selK; cases decide (0 < ndoors locks k) <;> rfl
    rw [hT, hF]
    cases hasL cuts k <;> cases decide (0 < ndoors locks k) <;> simp <;> omega
theorem mem_selL {locks : List (List (List Int))} {cuts : List (List Int)} {g : Bool} {ks : List (List Int)} {x : List Int} : x ∈ selL locks cuts g ks ↔ x ∈ ks ∧ decide (0 < ndoors locks x) = g ∧ hasL cuts x = false := by
  unfold selL selK
  rw [List.mem_filter]
  simp
/-- The law of the outsiders. -/
theorem outs_law {m : Mk} {t cuts : List (List Int)} {most : Int} (h : (safeAns m t cuts most).2 = 0) :
    m.ok = true ∧ (∀ k, k < (safeAns m t cuts most).1.length → doorsAns m t cuts (getl (safeAns m t cuts most).1 k) = ([], 0) ∧ hasL cuts (getl (safeAns m t cuts most).1 k) = false) ∧
      (((safeAns m t cuts most).1.length : Int) = most ∨ ((ddTo cuts cuts.length).length : Int) + (sysGhostAns m t cuts).1 + ((safeAns m t cuts most).1.length : Int) = ((keysOf m).length : Int)) := by
  unfold safeAns listAns at h ⊢
  by_cases hp : designC m t cuts = 0
  · rw [if_neg (by rw [hp]; decide)] at h ⊢
    cases hi : inB most 0 300
    · rw [if_pos hi] at h; cases h
    · rw [if_neg (by simp)]
      have hi' := inB_iff.1 hi
      have hf := (design_fits hp).1
      have hmk := Mk.ok_iff.1 hf.ok
      obtain ⟨locks, hl⟩ : ∃ x, x = locksTo m.c.toNat t cuts (getl t 0).length := ⟨_, rfl⟩
      rw [← hl]
      refine ⟨hf.ok, fun k hk => ?_, ?_⟩
      · have hk' : k < ((selL locks cuts false (keysOf m)).take most.toNat).length := hk
        have hx := mem_selL.1 (List.mem_of_mem_take (getl_mem hk'))
        show doorsAns m t cuts (getl ((selL locks cuts false (keysOf m)).take most.toNat) k) = _ ∧ hasL cuts (getl ((selL locks cuts false (keysOf m)).take most.toNat) k) = _
        obtain ⟨x, hxe⟩ : ∃ x, getl ((selL locks cuts false (keysOf m)).take most.toNat) k = x := ⟨_, rfl⟩
        rw [hxe] at hx ⊢
        refine ⟨?_, hx.2.2⟩
        rw [doorsAns_ok hp ((mem_keysOf (by omega)).1 hx.1), ← hl]
        have h0 := of_decide_eq_false hx.2.1
        unfold ndoors at h0
        rw [List.eq_nil_of_length_eq_zero (show (doorsOf locks x).length = 0 by omega)]
      · have h3 := three_ways locks cuts (keysOf m)
        have h4 := dd_count (m := m) (cuts := cuts) (by omega) hf.keys
        have e2 : (sysGhostAns m t cuts).1 = ((selL locks cuts true (keysOf m)).length : Int) := by unfold sysGhostAns; rw [if_neg (by rw [hp]; decide), ← hl]
        rw [e2]
        show (((selL locks cuts false (keysOf m)).take most.toNat).length : Int) = most ∨ _ + _ + (((selL locks cuts false (keysOf m)).take most.toNat).length : Int) = _
        rw [List.length_take]
        omega
  · exfalso
    rw [if_pos hp] at h
    exact hp h
/-- All ghosts, where they are few. -/
theorem ghosts_all {m : Mk} {t cuts : List (List Int)} (hp : designC m t cuts = 0) (hn : (sysGhostAns m t cuts).1 ≤ 300) :
    ghostsAns m t cuts 300 = (selL (locksTo m.c.toNat t cuts (getl t 0).length) cuts true (keysOf m), 0) := by
  have e2 : (sysGhostAns m t cuts).1 = ((selL (locksTo m.c.toNat t cuts (getl t 0).length) cuts true (keysOf m)).length : Int) := by unfold sysGhostAns; rw [if_neg (by rw [hp]; decide)]
  rw [e2] at hn
  unfold ghostsAns listAns
  rw [if_neg (by rw [hp]; decide), if_neg (by decide), List.take_of_length_le (by show _ ≤ 300; omega)]
/-- The law of a design's keys and ghosts, at one key. -/
theorem ghost_law {m : Mk} {t cuts : List (List Int)} {key : List Int} (hp : designC m t cuts = 0) (hn : (sysGhostAns m t cuts).1 ≤ 300) (hk : isKeyB m key = true) :
    (doorsAns m t cuts key).2 = 0 ∧ (0 < (doorsAns m t cuts key).1.length → hasL (ghostsAns m t cuts 300).1 key = true ∨ hasL cuts key = true) ∧ ((doorsAns m t cuts key).1.length = 0 → hasL (ghostsAns m t cuts 300).1 key = false) := by
  have hf := (design_fits hp).1
  have hmk := Mk.ok_iff.1 hf.ok
  rw [ghosts_all hp hn, doorsAns_ok hp hk]
  have hkk : key ∈ keysOf m := (mem_keysOf (by omega)).2 hk
  refine ⟨rfl, fun h => ?_, fun h => ?_⟩
  · cases hc : hasL cuts key
    · left
      refine hasL_iff.2 (mem_selL.2 ⟨hkk, decide_eq_true ?_, hc⟩)
      exact h
    · exact .inr rfl
  · rw [Bool.eq_false_iff]
    intro hh
    have h2 := (mem_selL.1 (hasL_iff.1 hh)).2.1
    have h3 := of_decide_eq_true h2
    have h : (doorsOf (locksTo m.c.toNat t cuts (getl t 0).length) key).length = 0 := h
    unfold ndoors at h3
    omega
end Go.Proofs.YtmfgdoflddhngaaGreat

namespace Go.Proofs.YtmfgdoflddhngaaGreat
open Go.RowKit
set_option linter.unusedVariables false
set_option linter.unusedSimpArgs false

theorem listAns_len (m : Mk) (t cuts : List (List Int)) (most : Int) (gb : Bool) : (listAns m t cuts most gb).1.length ≤ 300 ∧ ∀ r ∈ (listAns m t cuts most gb).1, r.length ≤ 6 := by
  unfold listAns
  split
  · exact ⟨by simp, fun r hr => by simp at hr⟩
  · rename_i hp
    split
    · exact ⟨by simp, fun r hr => by simp at hr⟩
    · rename_i hi
      have hf := (design_fits (Classical.not_not.1 hp)).1
      have hm := inB_iff.1 (show inB most 0 300 = true by simpa using hi)
      have hmk := Mk.ok_iff.1 hf.ok
      refine ⟨?_, fun r hr => ?_⟩
      · show (List.take _ _).length ≤ 300
        rw [List.length_take]; omega
      · have h1 := List.mem_of_mem_take hr
        unfold selL at h1
        rw [List.mem_filter] at h1
        have h2 := (isKey_iff.1 ((mem_keysOf (by omega)).1 h1.1)).1
        omega
set_option maxRecDepth 100000 in
set_option maxHeartbeats 1000000 in
theorem l21List_any {S S' : Nat → Prop} (m : Mk) (u v : Value) (t cuts : List (List Int)) (most : Int) (gb : Bool) (W : World) (h : V2 S W u t) (hc : V2 S' W v cuts) :
    Calls Tryz.prog 169 #[.agg #[.int .i64 m.c, .int .i64 m.d, .int .i64 m.s, .int .i64 m.e, .int .i64 m.l, u], v, .int .i64 most, .bool gb] W fun e' w' => ∃ v', e' = .returned (.tuple #[v', .int .i64 (listAns m t cuts most gb).2]) ∧ V2 (fun b => b < w'.heap.size) w' v' (listAns m t cuts most gb).1 ∧ Below W.heap.size W w' := by
  obtain ⟨a, c, rfl, hmx⟩ := h.form
  obtain ⟨a', c', rfl, hmx'⟩ := hc.form
  obtain ⟨W1, hW1, hB01, hz01, HZ01, hc01, hh01⟩ := box_facts W #[.int .i64 m.c, .int .i64 m.d, .int .i64 m.s, .int .i64 m.e, .int .i64 m.l, .slice a t.length c] 28
  have hV1 := (h.below hB01).any
  have hC1 := (hc.below hB01).any
  have hcode := l21Code_any m _ _ t cuts W1 hV1 hC1
  by_cases hp : designC m t cuts = 0
  · rw [hp] at hcode
    have hf := (design_fits hp).1
    have hmc := mc_nat hf.ok
    cases hi : inB most 0 300
    · have hfin : listAns m t cuts most gb = ([], 2) := by unfold listAns; rw [if_neg (by rw [hp]; decide), if_pos hi]
      rw [hfin]
      have Hp := Lib.hid (And.intro hp (And.intro hf (And.intro hmc hfin))); clear hp hf hmc hfin
      have Hi := Lib.hid hi; clear hi
      go_enter Tryz.func169, Tryz.ntmps169
      go_wp2_with fail
      rw [← hW1]
      refine hcode.mono ?_
      rintro e' w2 ⟨rfl, hb2⟩
      have hx2 : ∀ o, w2.cell? ⟨W.heap.size, o, none⟩ = (#[.int .i64 m.c, .int .i64 m.d, .int .i64 m.s, .int .i64 m.e, .int .i64 m.l, .slice a t.length c] : Array Value)[o]? := fun o => by rw [(bcell hb2).1 _ _ hz01, hc01]
      have hz2 : W.heap.size < w2.heap.size := by have := hb2.size; omega
      clear hc01 hh01
      go_wp2_with (go_at_call 121; refine (l01In_b _ _ _ _ _ Hi.out).mono ?_; rintro e' w' ⟨rfl, rfl⟩)
      go_ret2
      exact ⟨_, rfl, (F2.nil0 (B := 0)).v2.old, hB01.trans (hb2.mono (by omega))⟩
    · have hm := inB_iff.1 hi
      have hfin : listAns m t cuts most gb = ((selL (locksTo m.c.toNat t cuts (getl t 0).length) cuts gb (keysOf m)).take most.toNat, 0) := by unfold listAns; rw [if_neg (by rw [hp]; decide), if_neg (by rw [hi]; decide)]
      rw [hfin]
      obtain ⟨M, rfl⟩ : ∃ M : Nat, most = (M : Int) := ⟨most.toNat, by omega⟩
      rw [show ((M : Int)).toNat = M from rfl]
      have hkl := keysOf_length hf.ok
      have hout := l21Outsiders_any (S := fun _ => True) (S' := fun _ => True) m (.slice a t.length c) (.slice a' cuts.length c') t cuts m.c.toNat gb
      obtain ⟨L, hL⟩ : ∃ x, selL (locksTo m.c.toNat t cuts (getl t 0).length) cuts gb (keysOf m) = x := ⟨_, rfl⟩
      have hLl : L.length ≤ 262144 := by rw [← hL]; exact Nat.le_trans (selL_length _ _ _ _) hkl
      rw [hL] at hout ⊢
      have Hp := Lib.hid (And.intro hp (And.intro hf (And.intro hmc (And.intro hfin (And.intro hm (And.intro hout hL)))))); clear hp hf hmc hfin hm hout hL hkl
      have Hi := Lib.hid hi; clear hi
      go_enter Tryz.func169, Tryz.ntmps169
      go_wp2_with fail
      rw [← hW1]
      refine hcode.mono ?_
      rintro e' w2 ⟨rfl, hb2⟩
      have hx2 : ∀ o, w2.cell? ⟨W.heap.size, o, none⟩ = (#[.int .i64 m.c, .int .i64 m.d, .int .i64 m.s, .int .i64 m.e, .int .i64 m.l, .slice a t.length c] : Array Value)[o]? := fun o => by rw [(bcell hb2).1 _ _ hz01, hc01]
      have hz2 : W.heap.size < w2.heap.size := by have := hb2.size; omega
      clear hc01 hh01
      go_wp2_with (go_at_call 121; refine (l01In_b _ _ _ _ _ Hi.out).mono ?_; rintro e' w' ⟨rfl, rfl⟩)
      refine (Hp.out.2.2.2.2.2.1 _ Hp.out.2.1 Hp.out.2.2.1 (hV1.below hb2) (hC1.below hb2)).mono ?_
      rintro e' w3 ⟨v3, rfl, hF3, hb3⟩
      obtain ⟨a3, c3, rfl, hm3⟩ := hF3.form
      have hcap := hF3.cap
      have HF3 := Lib.hid hF3; clear hF3 hx2
      by_cases hml : M ≤ L.length
      · have hmin : min (M : Int) (L.length : Int) = M := by omega
        have hw : (M : Int) ≤ (c3 : Int) := by omega
        go_wp2_with fail
        go_ret2
        exact ⟨_, rfl, HF3.out.take hml, hB01.trans ((hb2.trans (hb3.mono hb2.size)).mono (by omega))⟩
      · have hmin : min (M : Int) (L.length : Int) = (L.length : Int) := by omega
        have hw : (L.length : Int) ≤ (c3 : Int) := by omega
        go_wp2_with fail
        go_ret2
        exact ⟨_, rfl, by rw [List.take_of_length_le (show L.length ≤ M by omega)]; exact HF3.out, hB01.trans ((hb2.trans (hb3.mono hb2.size)).mono (by omega))⟩
  · have hfin : listAns m t cuts most gb = ([], designC m t cuts) := by unfold listAns; rw [if_pos hp]
    have e1 : (designC m t cuts != 0) = true := by simp [hp]
    have e0 : (designC m t cuts == 0) = false := by simp [hp]
    rw [hfin]
    have Hp := Lib.hid (And.intro hp hfin); clear hp hfin
    generalize designC m t cuts = pc at *
    go_enter Tryz.func169, Tryz.ntmps169
    go_wp2_with fail
    rw [← hW1]
    refine hcode.mono ?_
    rintro e' w2 ⟨rfl, hb2⟩
    have hx2 : ∀ o, w2.cell? ⟨W.heap.size, o, none⟩ = (#[.int .i64 m.c, .int .i64 m.d, .int .i64 m.s, .int .i64 m.e, .int .i64 m.l, .slice a t.length c] : Array Value)[o]? := fun o => by rw [(bcell hb2).1 _ _ hz01, hc01]
    have hz2 : W.heap.size < w2.heap.size := by have := hb2.size; omega
    clear hc01 hh01
    clear hx2
    go_wp2_with fail
    go_ret2
    exact ⟨_, rfl, (F2.nil0 (B := 0)).v2.old, hB01.trans (hb2.mono (by omega))⟩
set_option maxRecDepth 100000 in
theorem SystemGhostsR_any {S S' : Nat → Prop} (m : Mk) (u v : Value) (t cuts : List (List Int)) (most : Int) (W : World) (h : V2 S W u t) (hc : V2 S' W v cuts) :
    Calls Tryz.prog 67 #[.agg #[.int .i64 m.c, .int .i64 m.d, .int .i64 m.s, .int .i64 m.e, .int .i64 m.l, u], v, .int .i64 most] W fun e' w' => ∃ v', e' = .returned (.tuple #[v', .int .i64 (ghostsAns m t cuts most).2]) ∧ V2 (fun b => b < w'.heap.size) w' v' (ghostsAns m t cuts most).1 ∧ Below W.heap.size W w' := by
  obtain ⟨a, c, rfl, hmx⟩ := h.form
  obtain ⟨a', c', rfl, hmx'⟩ := hc.form
  obtain ⟨W1, hW1, hB01, hz01, HZ01, hc01, hh01⟩ := box_facts W #[.int .i64 m.c, .int .i64 m.d, .int .i64 m.s, .int .i64 m.e, .int .i64 m.l, .slice a t.length c] 28
  have hall := l21List_any m _ _ t cuts most true W1 (h.below hB01) (hc.below hB01)
  unfold ghostsAns
  generalize listAns m t cuts most true = ans at *
  go_enter Tryz.func67, Tryz.ntmps67
  go_wp2_with fail
  rw [← hW1]
  refine hall.mono ?_
  rintro e' w2 ⟨v', rfl, hF, hb2⟩
  have HF := Lib.hid hF; clear hF
  clear hc01 hh01
  go_wp2_with fail
  go_ret2
  exact ⟨_, rfl, HF.out, hB01.trans (hb2.mono hB01.size)⟩
theorem SafeKeysR_any {S S' : Nat → Prop} (m : Mk) (u v : Value) (t cuts : List (List Int)) (most : Int) (W : World) (h : V2 S W u t) (hc : V2 S' W v cuts) :
    Calls Tryz.prog 78 #[.agg #[.int .i64 m.c, .int .i64 m.d, .int .i64 m.s, .int .i64 m.e, .int .i64 m.l, u], v, .int .i64 most] W fun e' w' => ∃ v', e' = .returned (.tuple #[v', .int .i64 (safeAns m t cuts most).2]) ∧ V2 (fun b => b < w'.heap.size) w' v' (safeAns m t cuts most).1 ∧ Below W.heap.size W w' := by
  obtain ⟨a, c, rfl, hmx⟩ := h.form
  obtain ⟨a', c', rfl, hmx'⟩ := hc.form
  obtain ⟨W1, hW1, hB01, hz01, HZ01, hc01, hh01⟩ := box_facts W #[.int .i64 m.c, .int .i64 m.d, .int .i64 m.s, .int .i64 m.e, .int .i64 m.l, .slice a t.length c] 28
  have hall := l21List_any m _ _ t cuts most false W1 (h.below hB01) (hc.below hB01)
  unfold safeAns
  generalize listAns m t cuts most false = ans at *
  go_enter Tryz.func78, Tryz.ntmps78
  go_wp2_with fail
  rw [← hW1]
  refine hall.mono ?_
  rintro e' w2 ⟨v', rfl, hF, hb2⟩
  have HF := Lib.hid hF; clear hF
  clear hc01 hh01
  go_wp2_with fail
  go_ret2
  exact ⟨_, rfl, HF.out, hB01.trans (hb2.mono hB01.size)⟩
theorem ghostsAns_len (m : Mk) (t cuts : List (List Int)) (most : Int) : (ghostsAns m t cuts most).1.length ≤ 1048576 ∧ ∀ r ∈ (ghostsAns m t cuts most).1, r.length ≤ 1048576 := ⟨Nat.le_trans (listAns_len m t cuts most true).1 (by omega), fun r hr => Nat.le_trans ((listAns_len m t cuts most true).2 r hr) (by omega)⟩
theorem safeAns_len (m : Mk) (t cuts : List (List Int)) (most : Int) : (safeAns m t cuts most).1.length ≤ 1048576 ∧ ∀ r ∈ (safeAns m t cuts most).1, r.length ≤ 1048576 := ⟨Nat.le_trans (listAns_len m t cuts most false).1 (by omega), fun r hr => Nat.le_trans ((listAns_len m t cuts most false).2 r hr) (by omega)⟩
end Go.Proofs.YtmfgdoflddhngaaGreat

namespace Go.Proofs.YtmfgdoflddhngaaGreat
open Go.RowKit
set_option linter.unusedVariables false
set_option linter.unusedSimpArgs false

set_option maxRecDepth 100000 in
theorem CountSystemGhostsR_any {S S' : Nat → Prop} (m : Mk) (u v : Value) (t cuts : List (List Int)) (W : World) (h : V2 S W u t) (hc : V2 S' W v cuts) :
    Calls Tryz.prog 72 #[.agg #[.int .i64 m.c, .int .i64 m.d, .int .i64 m.s, .int .i64 m.e, .int .i64 m.l, u], v] W fun e' w' => e' = .returned (.tuple #[.int .i64 (sysGhostAns m t cuts).1, .int .i64 (sysGhostAns m t cuts).2]) ∧ Below W.heap.size W w' := by
  obtain ⟨a, c, rfl, hmx⟩ := h.form
  obtain ⟨a', c', rfl, hmx'⟩ := hc.form
  obtain ⟨W1, hW1, hB01, hz01, HZ01, hc01, hh01⟩ := box_facts W #[.int .i64 m.c, .int .i64 m.d, .int .i64 m.s, .int .i64 m.e, .int .i64 m.l, .slice a t.length c] 28
  have hV1 := (h.below hB01).any
  have hC1 := (hc.below hB01).any
  have hcode := l21Code_any m _ _ t cuts W1 hV1 hC1
  by_cases hp : designC m t cuts = 0
  · rw [hp] at hcode
    have hf := (design_fits hp).1
    have hmc := mc_nat hf.ok
    have hdoors := hf.doors
    have hkl := keysOf_length hf.ok
    have hol := outsOf_length cuts (keysOf m)
    obtain ⟨locks, hlocks⟩ : ∃ x, x = locksTo m.c.toNat t cuts (getl t 0).length := ⟨_, rfl⟩
    obtain ⟨D, hD⟩ : ∃ D, (getl t 0).length = D := ⟨_, rfl⟩
    have hll : locks.length = D := by rw [hlocks, locksTo_len, hD]
    have hfin : sysGhostAns m t cuts = ((((selL locks cuts true (keysOf m)).length : Nat) : Int), 0) := by unfold sysGhostAns; rw [if_neg (by rw [hp]; decide), ← hlocks]
    have hout := l21Outsiders_any (S := fun _ => True) (S' := fun _ => True) m (.slice a t.length c) (.slice a' cuts.length c') t cuts m.c.toNat true
    rw [← hlocks] at hout
    rw [hfin]
    have Hf := Lib.hid (And.intro hf (And.intro hmc hout)); clear hf hmc hout
    have Hp := Lib.hid (And.intro hp (And.intro hfin (And.intro hlocks (And.intro hD hll)))); clear hp hfin hlocks hD hll
    have Hcode := Lib.hid hcode; clear hcode
    go_enter Tryz.func72, Tryz.ntmps72
    go_wp2_with fail
    rw [← hW1]
    refine Hcode.out.mono ?_
    rintro e' w2 ⟨rfl, hb2⟩
    have hx2 : ∀ o, w2.cell? ⟨W.heap.size, o, none⟩ = (#[.int .i64 m.c, .int .i64 m.d, .int .i64 m.s, .int .i64 m.e, .int .i64 m.l, .slice a t.length c] : Array Value)[o]? := fun o => by rw [(bcell hb2).1 _ _ hz01, hc01]
    have hz2 : W.heap.size < w2.heap.size := by have := hb2.size; omega
    clear hc01 hh01
    go_wp2_with fail
    refine (Hf.out.2.2 _ Hf.out.1 Hf.out.2.1 (hV1.below hb2) (hC1.below hb2)).mono ?_
    rintro e' w3 ⟨v3, rfl, hF3, hb3⟩
    obtain ⟨a3, c3, rfl, _⟩ := hF3.form
    clear hx2 hF3
    go_wp2_with fail
    go_ret2
    exact ⟨rfl, hB01.trans ((hb2.trans (hb3.mono hb2.size)).mono (by omega))⟩
  · have hfin : sysGhostAns m t cuts = (0, designC m t cuts) := by unfold sysGhostAns; rw [if_pos hp]; (try rfl)
    have e1 : (designC m t cuts != 0) = true := by simp [hp]
    rw [hfin]
    have Hp := Lib.hid (And.intro hp hfin); clear hp hfin
    generalize designC m t cuts = pc at *
    go_enter Tryz.func72, Tryz.ntmps72
    go_wp2_with fail
    rw [← hW1]
    refine hcode.mono ?_
    rintro e' w2 ⟨rfl, hb2⟩
    clear hc01 hh01
    go_wp2_with fail
    go_ret2
    exact ⟨rfl, hB01.trans (hb2.mono (by omega))⟩
end Go.Proofs.YtmfgdoflddhngaaGreat
