/- Copies of lists: the program's and the reference's. No conditions. -/
import Derived.OwnWalk
import Derived.Test.YtmjplkbmhdkggaaGreatMClone2
import Derived.Test.YtmjplkbmhdkggaaGreatMShelf0
import Derived.Test.YtmjplkbmhdkggaaGreatMStops
import Derived.Test.YtmjplkbmhdkggaaGreatGoV
import Derived.Test.YtmjplkbmhdkggaaGreatMStay
import Derived.Test.YtmjplkbmhdkggaaGreatMRefFirst
import Derived.Test.YtmjplkbmhdkggaaGreatMDraw14
import Derived.Test.YtmjplkbmhdkggaaGreatDraw25
import Derived.Test.YtmjplkbmhdkggaaGreatMDraw23
namespace Go.Proofs.YtmjplkbmhdkggaaGreat
open Go.RowKit
set_option linter.unusedVariables false
set_option linter.unusedSimpArgs false
set_option maxRecDepth 100000 in
set_option maxHeartbeats 1000000 in
theorem copyLists_any {S : Nat → Prop} (v : Value) (ls : List (List Int)) (W : World) (h : V2 S W v ls) (hl : ls.length ≤ 1000) (hr : ∀ k, k < ls.length → (getl ls k).length ≤ 1000) :
  Calls Tryz.prog 188 #[v] W fun e' w' => ∃ v', e' = .returned v' ∧ F2 W.heap.size w' v' ls ∧ Below W.heap.size W w' := by
 have hV := h
 obtain ⟨a, c, rfl, hm⟩ := h.form
 have hO0 := Out2.start W W.heap.size (Nat.le_refl _)
 have HO0 := Lib.hid hO0; clear hO0
 have Hr := Lib.hid hr; clear hr h
 go_enter Tryz.func188, Tryz.ntmps188
 go_wp2_with fail
 go_loopw [3, 5, 9] (fun ou _ i wr => ∃ k : Nat, k ≤ ls.length ∧ i = .int .i64 (k : Int) ∧ Out2 W.heap.size wr ou (ls.take k) ∧ Below W.heap.size W wr) (fun _ _ i _ => ls.length - (intOf i).toNat)
 case atStart => exact ⟨0, Nat.zero_le _, rfl, HO0.out, (Below.refl _ _).alloc (Nat.le_refl _) _⟩
 case round =>
  obtain ⟨k, hk, rfl, hO, hB⟩ := hrel
  have hzr := hB.size
  by_cases hkk : k < ls.length
  ·obtain ⟨b1, off1, a1, c1, rfl, _, hc1, hr1⟩ := (hV.below hB).cell hkk
   have hlk := Hr.out k hkk
   have hlt : (ls.take k).length ≤ 1000 := by rw [List.length_take]; omega
   have hst : ls.take (k + 1) = ls.take k ++ [getl ls k] := take_getl hkk
   obtain ⟨pre, hpre⟩ : ∃ p, ls.take k = p := ⟨_, rfl⟩
   rw [hpre] at hO hst hlt
   have Hst := Lib.hid (And.intro hst hpre); clear hst hpre
   obtain ⟨vs, bk, g1, g2, g3⟩ := hO
   have G := Lib.hid (And.intro g1 (And.intro g2 g3)); clear g1 g2 g3
   go_wp2_with fail
   refine (slClone_any _ (getl ls k) _ hr1 (by omega)).mono ?_
   rintro e' w2 ⟨rv, rfl, ⟨bx, hx, hbx⟩, hb2⟩
   obtain ⟨ra, rc, rfl, hrc1, hrc2, _⟩ := id hx
   have hO2 := own_keep G.out.1 hb2
   have hz2 := hb2.size
   have Hx := Lib.hid (And.intro hx hbx); clear hx hbx
   go_wp2_with (at_builtin; refine wp_app1 _ rfl _ _ 24 rfl W.heap.size 44 (.slice none 0 0) 24 Tryz.underlying24 inf_ints rfl _ _ _ rfl hO2 (.slice ra (getl ls k).length rc) _ rfl rfl (by omega) (by omega) (by omega) ?_; intro v1 w1 hown1 hgrow1 hblk1 hB1)
   go_roundw
   case rel => exact ⟨k + 1, by omega, by go_num, by rw [Hst.out.1]; exact Out2.push G.out.1 G.out.2.1 G.out.2.2 hzr hb2 Hx.out.1 (fun hn => Hx.out.2 hn) hown1 hgrow1 hblk1, (hB.trans (hb2.mono hzr)).trans hB1⟩
   case measure => simp [intOf]; omega
  ·obtain rfl : k = ls.length := by omega
   rw [List.take_length] at hO
   obtain ⟨oa, oc, rfl, _, _⟩ := hO.form
   have HO := Lib.hid hO.f2; clear hO
   go_wp2_with fail
   go_ret
   exact ⟨_, rfl, HO.out, hB⟩
/-- Design ls lies in blocks from lo on and below hi. -/
def In2 (lo hi : Nat) (w : World) (v : Value) (ls : List (List Int)) : Prop :=
 ∃ ob bk, X2 w v ls ob bk ∧ (ls ≠ [] → lo ≤ ob ∧ ob < hi) ∧ ∀ k, k < ls.length → getl ls k ≠ [] → lo ≤ bk k ∧ bk k < hi
theorem In2.of_F2 {lo : Nat} {w : World} {v : Value} {ls : List (List Int)} (h : F2 lo w v ls) : In2 lo w.heap.size w v ls := by
 obtain ⟨ob, bk, h1, h2, h3⟩ := h
 refine ⟨ob, bk, h1, fun hn => ⟨h2 hn, (h1.lt hn).1⟩, fun k hk hn => ⟨h3 k hk hn, (h1.lt ?_).2 k hk hn⟩⟩
 intro e; subst e; simp at hk
theorem In2.keep {lo hi : Nat} {w w' : World} {v : Value} {ls : List (List Int)} (h : In2 lo hi w v ls) (hk : ∀ b, lo ≤ b → b < hi → w'.heap[b]? = w.heap[b]?) : In2 lo hi w' v ls := by
 obtain ⟨ob, bk, h1, h2, h3⟩ := h
 exact ⟨ob, bk, h1.keep (fun hn => hk _ (h2 hn).1 (h2 hn).2) (fun k hlt hn => hk _ (h3 k hlt hn).1 (h3 k hlt hn).2), h2, h3⟩
theorem In2.f2 {lo hi : Nat} {w : World} {v : Value} {ls : List (List Int)} (h : In2 lo hi w v ls) : F2 lo w v ls := by
 obtain ⟨ob, bk, h1, h2, h3⟩ := h
 exact ⟨ob, bk, h1, fun hn => (h2 hn).1, fun k hk hn => (h3 k hk hn).1⟩
/-- v is a slice of the call's own (from block B on); design k lies in the blocks from L k on and below U k. -/
structure Out3 (B : Nat) (L U : Nat → Nat) (w : World) (v : Value) (vs : List Value) (ds : List (List (List Int))) : Prop where
 own : w.ownsRow B 24 1 v ds.length vs
 each : ∀ k, k < ds.length → ∃ rv, vs[k]? = some rv ∧ In2 (L k) (U k) w rv (getll ds k)
 apart : ∀ k, k < ds.length → B ≤ L k ∧ L k ≤ U k ∧ U k ≤ w.heap.size ∧ (∀ g, v.ownBlock = some g → g < L k ∨ U k ≤ g) ∧ ∀ j, j < k → U j ≤ L k
/-- The blocks in which the designs lie. -/
def T3 (L U : Nat → Nat) (v : Value) (n b : Nat) : Prop := v.ownBlock = some b ∨ ∃ k, k < n ∧ L k ≤ b ∧ b < U k
theorem Out3.keep {B : Nat} {L U : Nat → Nat} {w w' : World} {v : Value} {vs : List Value} {ds : List (List (List Int))} (h : Out3 B L U w v vs ds) (hz : w.heap.size ≤ w'.heap.size) (hk : ∀ b, T3 L U v ds.length b → w'.heap[b]? = w.heap[b]?) : Out3 B L U w' v vs ds := by
 refine ⟨⟨h.own.1, ?_⟩, fun k hlt => ?_, fun k hlt => ?_⟩
 ·rcases h.own.2 with h0 | ⟨g, cap, cur, rfl, h1, h2, h3⟩
  ·exact .inl h0
  ·exact .inr ⟨g, cap, cur, rfl, h1, by rw [hk g (.inl rfl)]; exact h2, h3⟩
 ·obtain ⟨rv, h1, h2⟩ := h.each k hlt
  exact ⟨rv, h1, h2.keep fun b hl hu => hk b (.inr ⟨k, hlt, hl, hu⟩)⟩
 ·obtain ⟨h1, h2, h3, h4⟩ := h.apart k hlt
  exact ⟨h1, h2, Nat.le_trans h3 hz, h4⟩
theorem Out3.lt {B : Nat} {L U : Nat → Nat} {w : World} {v : Value} {vs : List Value} {ds : List (List (List Int))} (h : Out3 B L U w v vs ds) {b : Nat} (hb : T3 L U v ds.length b) : B ≤ b ∧ b < w.heap.size := by
 rcases hb with hb | ⟨k, hk, hl, hu⟩
 ·exact h.own.lt b hb
 ·obtain ⟨h1, h2, h3, _⟩ := h.apart k hk
  exact ⟨by omega, by omega⟩
theorem Out3.form {B : Nat} {L U : Nat → Nat} {w : World} {v : Value} {vs : List Value} {ds : List (List (List Int))} (h : Out3 B L U w v vs ds) : ∃ a c, v = .slice a ds.length c ∧ ds.length ≤ c ∧ c ≤ maxLen := own_form h.own
theorem Out3.start (w : World) (B : Nat) (hb : B ≤ w.heap.size) : Out3 B (fun _ => 0) (fun _ => 0) (w.alloc (.cells #[] 24)) (.slice (some ⟨w.heap.size, 0, none⟩) 0 0) [] [] :=
 ⟨own_lit0 w B _ 1 hb, fun k hk => by simp at hk, fun k hk => by simp at hk⟩
theorem getll_app1 {ds : List (List (List Int))} {l : List (List Int)} {k : Nat} (h : k < ds.length) : getll (ds ++ [l]) k = getll ds k := by
 simp [getll, List.getElem?_append_left h]
theorem getll_app2 {ds : List (List (List Int))} {l : List (List Int)} : getll (ds ++ [l]) ds.length = l := by
 unfold getll; simp
/-- One design more. w: before its copy is made; w2: the copy is made; w1: it is appended. -/
theorem Out3.push {B : Nat} {L U : Nat → Nat} {w w2 w1 : World} {v v1 rv : Value} {vs : List Value} {ds : List (List (List Int))} {l : List (List Int)}
  (h : Out3 B L U w v vs ds) (hB : B ≤ w.heap.size) (hb : Below w.heap.size w w2) (hx : F2 w.heap.size w2 rv l)
  (hown : w1.ownsRow B 24 1 v1 (ds.length + 1) (vs ++ [rv])) (hg : w2.grownBy w1 v.ownBlock) (hblk : v1.ownBlock = v.ownBlock ∨ ∃ g, v1.ownBlock = some g ∧ w2.heap.size ≤ g) :
  Out3 B (fun k => if k < ds.length then L k else w.heap.size) (fun k => if k < ds.length then U k else w2.heap.size) w1 v1 (vs ++ [rv]) (ds ++ [l]) ∧
  (∀ b, T3 (fun k => if k < ds.length then L k else w.heap.size) (fun k => if k < ds.length then U k else w2.heap.size) v1 (ds ++ [l]).length b → T3 L U v ds.length b ∨ w.heap.size ≤ b) := by
 have hvl1 := h.own.1
 have hz := hb.size
 have hz1 := hg.size
 refine ⟨⟨by simpa using hown, fun k hk => ?_, fun k hk => ?_⟩, fun b hb' => ?_⟩
 ·by_cases hkl : k < ds.length
  ·obtain ⟨rv', h4, h5⟩ := h.each k hkl
   obtain ⟨a1, a2, a3, a4, a5⟩ := h.apart k hkl
   refine ⟨rv', by rw [List.getElem?_append_left (by omega)]; exact h4, ?_⟩
   rw [getll_app1 hkl]
   simp only [hkl, if_true]
   refine h5.keep fun b hl hu => ?_
   rw [hg.block b (by omega) (fun e => by have := a4 b e.symm; omega), hb.block b (by omega)]
  ·have e : k = ds.length := by simp at hk; omega
   subst e
   refine ⟨rv, by rw [List.getElem?_append_right (by omega)]; simp [show ds.length - vs.length = 0 by omega], ?_⟩
   rw [getll_app2]
   simp only [Nat.lt_irrefl, if_false]
   exact (In2.of_F2 hx).keep fun b hl hu => hg.block b hu (fun e => by have := (h.own.lt b e.symm).2; omega)
 ·by_cases hkl : k < ds.length
  ·simp only [hkl, if_true]
   obtain ⟨a1, a2, a3, a4, a5⟩ := h.apart k hkl
   refine ⟨a1, a2, by omega, fun g hgg => ?_, fun j hj => ?_⟩
   ·rcases hblk with e | ⟨g', e, hge⟩
    ·exact a4 g (e ▸ hgg)
    ·rw [hgg] at e; cases e; omega
   ·simp only [show j < ds.length by omega, if_true]; exact a5 j hj
  ·have e : k = ds.length := by simp at hk; omega
   subst e
   simp only [Nat.lt_irrefl, if_false]
   refine ⟨hB, hz, hz1, fun g hgg => ?_, fun j hj => ?_⟩
   ·rcases hblk with e | ⟨g', e, hge⟩
    ·have := (h.own.lt g (e ▸ hgg)).2; omega
    ·rw [hgg] at e; cases e; omega
   ·simp only [hj, if_true]; exact (h.apart j hj).2.2.1
 ·rcases hb' with hb' | ⟨k, hk, hl, hu⟩
  ·rcases hblk with e | ⟨g', e, hge⟩
   ·exact .inl (.inl (e ▸ hb'))
   ·rw [hb'] at e; cases e; right; omega
  ·by_cases hkl : k < ds.length
   ·simp only [hkl, if_true] at hl hu
    exact .inl (.inr ⟨k, hkl, hl, hu⟩)
   ·simp only [hkl, if_false] at hl
    exact .inr hl
theorem inf_intss : (Tryz.prog.info? 24).map (fun i => (i.zero, i.size, i.bytes)) = some (some (.slice none 0 0), 1, 24) := by kernel_rfl
/-- What is kept, and where. -/
def FdInv (B DB PB : Nat) (most : Int) (s : List (List (List Int))) (F : Nat → Prop) (w : World) : Prop :=
 ∃ dv vs L U, (∀ b, F b ↔ (b = DB ∨ b = PB) ∨ T3 L U dv s.length b) ∧ w.heap[DB]? = some (.cells #[dv] 80 (0, 0)) ∧ w.heap[PB]? = some (.cells #[.int .i64 most] 2 (0, 0)) ∧ Out3 B L U w dv vs s ∧
   ¬ T3 L U dv s.length DB ∧ ¬ T3 L U dv s.length PB ∧ DB ≠ PB ∧ B ≤ w.heap.size
theorem enters_fd : Enters 187 := fun args w => by kernel_rfl
theorem own_after {B LB : Nat} {wo w3 : World} {lv : Value} {n : Nat} {vs : List Value} {T E : TypeId} (h1 : wo.ownsRow B E 1 lv n vs) (hlv : wo.heap[LB]? = some (.cells #[lv] T (0, 0))) (hb : Below wo.heap.size wo w3) :
  w3.ownsRow B E 1 lv n vs ∧ w3.heap[LB]? = some (.cells #[lv] T (0, 0)) ∧ w3.cell? ⟨LB, 0, none⟩ = some lv ∧ w3.frozen? ⟨LB, 0, none⟩ = false := by
 have h3 := heap_below hlv hb (lt_of_heap hlv)
 exact ⟨own_chg h1 (Chg.of_below (F := fun _ => False) hb) (fun _ _ h => h), h3, cell_of_block h3 0, frozen_of_block h3 0⟩
set_option maxRecDepth 100000 in
set_option maxHeartbeats 2000000 in
theorem fd1_any {S : Nat → Prop} (v dv : Value) (design : List (List Int)) (s : List (List (List Int))) (vs : List Value) (L U : Nat → Nat) (B DB PB : Nat) (most : Int) (w : World) (hv : V2 S w v design)
  (hl : w.heap[DB]? = some (.cells #[dv] 80 (0, 0))) (hP : w.heap[PB]? = some (.cells #[.int .i64 most] 2 (0, 0))) (hO : Out3 B L U w dv vs s) (hD : ¬ T3 L U dv s.length DB) (hPn : ¬ T3 L U dv s.length PB) (hne : DB ≠ PB) (hB : B ≤ w.heap.size)
  (hd : design.length ≤ 1000) (hr : ∀ k, k < design.length → (getl design k).length ≤ 1000) (hsl : s.length ≤ 1000000) :
  Calls Tryz.prog 187 #[v, .pointer (some ⟨DB, 0, none⟩), .pointer (some ⟨PB, 0, none⟩)] w fun e w' => e = .returned (.bool (visK most s design).2) ∧ ∃ F', FdInv B DB PB most (visK most s design).1 F' w' ∧
   Chg (fun b => (b = DB ∨ b = PB) ∨ T3 L U dv s.length b) w w' ∧ ∀ b, F' b → ((b = DB ∨ b = PB) ∨ T3 L U dv s.length b) ∨ w.heap.size ≤ b := by
 obtain ⟨va, vc, rfl, hvm⟩ := hv.form
 obtain ⟨oa, oc, rfl, ho1, ho2⟩ := own_form hO.own
 have hcl := cell_of_block hl 0
 simp at hcl
 have hcP := cell_of_block hP 0
 simp at hcP
 have hdr : Below w.heap.size w w.drew := (Below.refl _ _).drew
 obtain ⟨i0, hi, hz0, hz1, hz2⟩ := info_parts inf_intss
 have hPlt := lt_of_cell hcP
 have hDlt := lt_of_cell hcl
 unfold visK
 obtain ⟨r, hrr⟩ : ∃ r, decide ((s.length : Int) + 1 < most) = r := ⟨_, rfl⟩
 rw [hrr]
 have HO := Lib.hid (And.intro hO (And.intro hD hPn)); clear hO hD hPn
 have Hl := Lib.hid (And.intro hl hP); clear hl hP
 have Hv := Lib.hid hv
 cases r
 all_goals
  go_enter Tryz.func187, Tryz.ntmps187
  go_wp2_with fail
  go_region_law (first | (go_simp; go_at_call 188; refine (copyLists_any _ design _ (hv.below hdr) hd hr).mono ?_; rintro e' w3 ⟨v3, rfl, hF3, hbc⟩; obtain ⟨a3, c3, rfl, hcc3⟩ := hF3.v2.form; have hb3 : Below w.heap.size w w3 := hdr.trans (hbc.mono (Nat.le_refl _)); obtain ⟨hown3, hh3, hcl3, hfl3⟩ := own_after HO.out.1.own Hl.out.1 hb3; have hz3 := lt_of_heap hh3; have hcl3a : ∀ o, (w3.alloc o).cell? ⟨DB, 0, none⟩ = some (.slice oa s.length oc) := (fun o => cell_keep hcl3 (Below.heap_alloc _ _ _ hz3)); (try dsimp only)) | (refine step_append_lies _ (by rfl) _ _ _ (by rfl) B 24 i0 _ 1 24 Tryz.underlying80 hi hz0 hz1 hz2 rfl (by omega) _ s.length _ (by rfl) (hown3.alloc _) ⟨_, 0, none⟩ 1 1 [.slice a3 design.length c3] (by rfl) (by rfl) (World.news_of_block (heap_alloc_new _ _)) (by simp [Value.oneCell']) (by omega) (by unfold maxLen; omega) (by omega) (by have := hb3.size; simp; omega) _ rfl ?_; intro gg cap w4 hown4 hgrow4 hat4 hlt4; obtain ⟨hh4, hcl4, hfl4⟩ := grown_alloc_at hh3 hgrow4 (fun e => HO.out.2.1 (.inl e))))
  all_goals
   have hz4 := hgrow4.size
   simp only [World.size_alloc] at hz4
   have hz3w := hb3.size
   have hb3a : Below w.heap.size w (w3.alloc (.cells #[.slice a3 design.length c3] 24)) := hb3.alloc hb3.size _
   have hF3a : F2 w.heap.size (w3.alloc (.cells #[.slice a3 design.length c3] 24)) (.slice a3 design.length c3) design := hF3.below ((Below.refl _ _).alloc (Nat.le_refl _) _)
   obtain ⟨hO4, hT4⟩ := HO.out.1.push hB hb3a hF3a hown4 hgrow4 (blk_or rfl hat4)
   have hPne : ¬ PB = DB := fun e => hne e.symm
   have hP4 : w4.heap[PB]? = some (.cells #[.int .i64 most] 2 (0, 0)) := (hgrow4.block PB (by simp; omega) (fun e => HO.out.2.2 (.inl e.symm))).trans ((hb3a.block PB hPlt).trans Hl.out.2)
   have hP5 : (w4.setCell ⟨DB, 0, none⟩ (.slice (some ⟨gg, 0, none⟩) (s.length + 1) cap)).heap[PB]? = some (.cells #[.int .i64 most] 2 (0, 0)) := (heap_setCell_other _ hPne).trans hP4
   have hcP5 := cell_of_block hP5 0
   simp at hcP5
   have hs4 := heap_setCell_self (off := 0) hh4 (.slice (some ⟨gg, 0, none⟩) (s.length + 1) cap)
   have hcl5 := cell_of_block hs4 0
   simp at hcl5
   have hD5 := fun hb => (hT4 DB hb).elim HO.out.2.1 (fun h => by omega)
   have hPn5 := fun hb => (hT4 PB hb).elim HO.out.2.2 (fun h => by omega)
   have hO5 := hO4.keep (w' := w4.setCell ⟨DB, 0, none⟩ (.slice (some ⟨gg, 0, none⟩) (s.length + 1) cap)) (by simp) (fun b hb => heap_setCell_other _ (fun e => hD5 (by have e2 : b = DB := e; rw [← e2]; exact hb)))
   have hch : Chg (fun b => (b = DB ∨ b = PB) ∨ T3 L U (.slice oa s.length oc) s.length b) w w4 := (Chg.of_below hb3a).grown hgrow4 (fun k hk => .inl (.inr (.inl hk)))
   have hch5 := hch.setCell (p := ⟨DB, 0, none⟩) (.inl (.inl (.inl rfl))) (.slice (some ⟨gg, 0, none⟩) (s.length + 1) cap)
   have H5 := Lib.hid (And.intro hs4 (And.intro hO5 (And.intro hD5 (And.intro hPn5 (And.intro hch5 (And.intro hT4 hP5)))))); clear hs4 hO5 hch5 hch hO4 hD5 hPn5 hT4 hP4 hP5 hF3 hF3a
   go_wp2_with fail
   go_ret
   refine ⟨rfl, _, ⟨_, _, _, _, fun b => Iff.rfl, H5.out.1, H5.out.2.2.2.2.2.2, H5.out.2.1, H5.out.2.2.1, H5.out.2.2.2.1, hne, by simp; omega⟩, H5.out.2.2.2.2.1, fun b hb => ?_⟩
   rcases hb with hb | hb
   ·exact .inl (.inl hb)
   ·rcases H5.out.2.2.2.2.2.1 b hb with h | h
    ·exact .inl (.inr h)
    ·exact .inr h
theorem fd_vis (B DB PB : Nat) (most : Int) (hm : most ≤ 1000000) {m : Mk} {t : List (List Int)} : VisG (fun s : List (List (List Int)) => (s.length : Int) < most) (DesOk m t) 187 #[.pointer (some ⟨DB, 0, none⟩), .pointer (some ⟨PB, 0, none⟩)] (visK most) (FdInv B DB PB most) := by
 refine ⟨enters_fd, ?_, ?_, ?_, ?_⟩
 ·rintro s F w w' ⟨dv, vs, L, U, h1, h2, h3, h4, h5, h6, h7, h8⟩ hz hk
  exact ⟨dv, vs, L, U, h1, by rw [hk DB ((h1 DB).2 (.inl (.inl rfl)))]; exact h2, by rw [hk PB ((h1 PB).2 (.inl (.inr rfl)))]; exact h3, h4.keep hz (fun b hb => hk b ((h1 b).2 (.inr hb))), h5, h6, h7, Nat.le_trans h8 hz⟩
 ·rintro s F w ⟨dv, vs, L, U, h1, h2, h3, h4, h5, h6, h7, h8⟩ b hb
  rcases (h1 b).1 hb with (rfl | rfl) | hb
  ·exact lt_of_heap h2
  ·exact lt_of_heap h3
  ·exact (h4.lt hb).2
 ·intro s design h1 h2
  have h3 : decide ((s.length : Int) + 1 < most) = true := h2
  have := of_decide_eq_true h3
  show ((s ++ [design]).length : Int) < most
  simp; omega
 ·rintro s F S w v design ⟨dv, vs, L, U, h1, h2, h3, h4, h5, h6, h7, h8⟩ hV hS hP hact
  have hfew := hP.few
  refine (fd1_any v dv design s vs L U B DB PB most w hV h2 h3 h4 h5 h6 h7 h8 (by omega) (fun k hk => by have := (hfew.2 k hk).1; omega) (by omega)).mono ?_
  rintro e w' ⟨rfl, F', g1, g2, g3⟩
  exact ⟨F', rfl, g1, g2.mono (fun b hb => (h1 b).2 hb), fun b hb => by
   rcases g3 b hb with h | h
   ·exact .inl ((h1 b).2 h)
   ·exact .inr h⟩
/-- What the search for the first designs returns. -/
def FdRes (m : Mk) (tv : Value) (limit : Nat) (B : Nat) (r : DSt) (e : Ending) (w' : World) : Prop :=
 ∃ dv XB vs L U fv, e = .returned (.tuple #[dv, .pointer (some ⟨XB, 0, none⟩)]) ∧ w'.heap[XB]? = some (.cells (goCells m tv limit r.1 r.2.1 fv) 124 (0, 0)) ∧ Out3 B L U w' dv vs r.2.2
set_option maxRecDepth 100000 in
set_option maxHeartbeats 1000000 in
theorem firstDesigns_any {S S' : Nat → Prop} (m : Mk) (u v : Value) (t cuts : List (List Int)) (most : Int) (limit : Nat) (W : World) (h : V2 S W u t) (hc : V2 S' W v cuts) (hcp : cuts = [] → PV v) (hok : PartOk m t cuts) (hop : falseL m.c.toNat t cuts = []) (hmo : most ≤ 1000000) (hlim : limit ≤ 4000) :
  Calls Tryz.prog 158 #[.agg #[.int .i64 m.c, .int .i64 m.d, .int .i64 m.s, .int .i64 m.e, .int .i64 m.l, u], v, .int .i64 most, .int .i64 (limit : Int)] W fun e w' => FdRes m u limit W.heap.size (firstF m.c.toNat t (keysOf m) cuts most limit) e w' ∧ Below W.heap.size W w' := by
 obtain ⟨a, c, rfl, hmx⟩ := h.form
 obtain ⟨a', c', rfl, hmx'⟩ := hc.form
 have hmk := Mk.ok_iff.1 hok.fits.ok
 have hfew := hok.few
 obtain ⟨WA, hWA⟩ : ∃ WA, WA = ((((W.alloc (.cells #[.int .i64 m.c, .int .i64 m.d, .int .i64 m.s, .int .i64 m.e, .int .i64 m.l, .slice a t.length c] 33)).alloc (.cells #[.int .i64 most] 2)).alloc (.cells #[] 24)).alloc (.cells #[.slice (some ⟨W.heap.size + 1 + 1, 0, none⟩) 0 0] 80)).alloc (.cells #[.int .i64 m.c, .int .i64 m.d, .int .i64 m.s, .int .i64 m.e, .int .i64 m.l, .slice a t.length c, .int .i64 (limit : Int), .int .i64 0, .bool false, .func (.func 187) #[] #[.pointer (some ⟨W.heap.size + 1 + 1 + 1, 0, none⟩), .pointer (some ⟨W.heap.size + 1, 0, none⟩)]] 124) := ⟨_, rfl⟩
 have hbA : Below W.heap.size W WA := by rw [hWA]; exact by (repeat (first | (with_reducible refine Below.setCell ?_ ?_ _) | (with_reducible refine Below.alloc ?_ ?_ _) | (with_reducible refine Below.drew ?_) | (with_reducible refine below_drewN ?_ _) | (with_reducible exact Below.refl _ _) | (with_reducible assumption) | (with_reducible refine Below.trans ?_ (Below.mono (by with_reducible assumption) ?_)) | go_size))
 have hzA : WA.heap.size = W.heap.size + 5 := by rw [hWA]; simp
 have hA1 : WA.heap[W.heap.size + 1]? = some (.cells #[.int .i64 most] 2 (0, 0)) := by rw [hWA]; simp only [heap_alloc_at, World.size_alloc]; (repeat rw [if_neg (by omega)]); simp
 have hA2 : WA.heap[W.heap.size + 1 + 1]? = some (.cells #[] 24 (0, 0)) := by rw [hWA]; simp only [heap_alloc_at, World.size_alloc]; (repeat rw [if_neg (by omega)]); simp
 have hA3 : WA.heap[W.heap.size + 1 + 1 + 1]? = some (.cells #[.slice (some ⟨W.heap.size + 1 + 1, 0, none⟩) 0 0] 80 (0, 0)) := by rw [hWA]; simp only [heap_alloc_at, World.size_alloc]; (repeat rw [if_neg (by omega)]); simp
 have hA4 : WA.heap[W.heap.size + 1 + 1 + 1 + 1]? = some (.cells (goCells m (.slice a t.length c) limit 0 false (.func (.func 187) #[] #[.pointer (some ⟨W.heap.size + 1 + 1 + 1, 0, none⟩), .pointer (some ⟨W.heap.size + 1, 0, none⟩)])) 124 (0, 0)) := by rw [hWA]; simp only [heap_alloc_at, World.size_alloc]; simp [goCells]
 have hT0 : ∀ b, T3 (fun _ => 0) (fun _ => 0) (.slice (some ⟨W.heap.size + 1 + 1, 0, none⟩) 0 0) 0 b → b = W.heap.size + 1 + 1 := fun b hb => by
  rcases hb with e | ⟨k, hk, _⟩
  ·simpa [Value.ownBlock] using e.symm
  ·omega
 have hO0 : Out3 W.heap.size (fun _ => 0) (fun _ => 0) WA (.slice (some ⟨W.heap.size + 1 + 1, 0, none⟩) 0 0) [] [] :=
  ⟨⟨rfl, .inr ⟨_, 0, #[], rfl, by omega, hA2, Nat.le_refl _, Nat.zero_le _, rfl, rfl⟩⟩, fun k hk => by simp at hk, fun k hk => by simp at hk⟩
 have hI : FdInv W.heap.size (W.heap.size + 1 + 1 + 1) (W.heap.size + 1) most [] (fun b => (b = W.heap.size + 1 + 1 + 1 ∨ b = W.heap.size + 1) ∨ T3 (fun _ => 0) (fun _ => 0) (.slice (some ⟨W.heap.size + 1 + 1, 0, none⟩) 0 0) 0 b) WA :=
  ⟨_, [], _, _, fun b => Iff.rfl, hA3, hA1, hO0, fun hb => by have := hT0 _ hb; omega, fun hb => by have := hT0 _ hb; omega, by omega, by omega⟩
 have cA1 : WA.cell? ⟨W.heap.size + 1, 0, none⟩ = some (.int .i64 most) := by rw [cell_of_block hA1]; rfl
 by_cases hmp : 0 < most
 ·have hfin : firstF m.c.toNat t (keysOf m) cuts most limit = (goF limit (stayP m.c.toNat t) (visK most) (keysOf m) (t.length - cuts.length) cuts (0, false, [])).1 := by unfold firstF; rw [if_pos hmp]
  rw [hfin]
  have hGs : Gs m (.slice a t.length c) limit (.func (.func 187) #[] #[.pointer (some ⟨W.heap.size + 1 + 1 + 1, 0, none⟩), .pointer (some ⟨W.heap.size + 1, 0, none⟩)]) (W.heap.size + 1 + 1 + 1 + 1) (FdInv W.heap.size (W.heap.size + 1 + 1 + 1) (W.heap.size + 1) most) (0, false, []) (fun b => (b = W.heap.size + 1 + 1 + 1 ∨ b = W.heap.size + 1) ∨ T3 (fun _ => 0) (fun _ => 0) (.slice (some ⟨W.heap.size + 1 + 1, 0, none⟩) 0 0) 0 b) WA := by
   refine ⟨hA4, hI, fun hb => ?_, fun b hb => ?_, ⟨Nat.zero_le _, hlim⟩⟩
   ·rcases hb with (e | e) | hb
    ·omega
    ·omega
    ·have := hT0 _ hb; omega
   ·rcases hb with (e | e) | hb
    ·omega
    ·omega
    ·have := hT0 _ hb; omega
  have hno : ∀ b, b < W.heap.size → ¬ GF (W.heap.size + 1 + 1 + 1 + 1) (fun b => (b = W.heap.size + 1 + 1 + 1 ∨ b = W.heap.size + 1) ∨ T3 (fun _ => 0) (fun _ => 0) (.slice (some ⟨W.heap.size + 1 + 1, 0, none⟩) 0 0) 0 b) b := fun b hb h => by
   rcases h with e | (e | e) | hb'
   ·omega
   ·omega
   ·omega
   ·have := hT0 _ hb'; omega
  have hgo := go_any (fd_vis W.heap.size (W.heap.size + 1 + 1 + 1) (W.heap.size + 1) most hmo (m := m) (t := t)) m t m.c.toNat (by omega) (fun ds h1 h2 h3 => ⟨h1, by omega⟩) limit (.slice a t.length c) (W.heap.size + 1 + 1 + 1 + 1) (t.length - cuts.length) cuts (.slice a' cuts.length c') (0, false, []) _ WA (by omega)
   ⟨hGs, h.old.mono (fun b h1 _ => hno b h1) (fun b _ h2 => hbA.block b h2), hc.old.mono (fun b h1 _ => hno b h1) (fun b _ h2 => hbA.block b h2), hcp, hok, hop, by show (([] : List (List (List Int))).length : Int) < most; simp; omega⟩
  obtain ⟨r, hr⟩ : ∃ r, goF limit (stayP m.c.toNat t) (visK most) (keysOf m) (t.length - cuts.length) cuts (0, false, []) = r := ⟨_, rfl⟩
  rw [hr] at hgo ⊢
  have hgr : decide (0 < most) = true := decide_eq_true hmp
  have HWA := Lib.hid (And.intro hWA (And.intro hgo (And.intro hbA (And.intro hT0 hr)))); clear hWA hgo hbA hO0 hI hGs hno hT0 hA1 hA2 hA3 hA4 hok hop hr
  go_enter Tryz.func158, Tryz.ntmps158
  go_wp2_with fail
  rw [← HWA.out.1]
  refine HWA.out.2.1.mono ?_
  rintro e' w' ⟨F', rfl, hG, hch, hsub⟩
  obtain ⟨dv, vs, L, U, f1, f2, f3, f4, f5, f6, f7, f8⟩ := hG.vi
  have hb' : Below W.heap.size W w' := HWA.out.2.2.1.trans (hch.to_below (B := W.heap.size) (fun b hb => by
   rcases hb with e | (e | e) | hb
   ·omega
   ·omega
   ·omega
   ·have := HWA.out.2.2.2.1 _ hb; omega) (by omega))
  have cD := cell_of_block f2 0
  simp at cD
  obtain ⟨da, dc, rfl, _, _⟩ := f4.form
  have HF := Lib.hid (And.intro hG.hh (And.intro f4 hb')); clear hG hch hsub f1 f2 f3 f4 f5 f6 hb'
  go_wp2_with fail
  go_ret2
  exact ⟨⟨_, _, _, _, _, _, rfl, HF.out.1, HF.out.2.1⟩, HF.out.2.2⟩
 ·have hfin : firstF m.c.toNat t (keysOf m) cuts most limit = (0, false, []) := by unfold firstF; rw [if_neg hmp]
  rw [hfin]
  have hgr : decide (0 < most) = false := decide_eq_false hmp
  have cD : WA.cell? ⟨W.heap.size + 1 + 1 + 1, 0, none⟩ = some (.slice (some ⟨W.heap.size + 1 + 1, 0, none⟩) 0 0) := by rw [cell_of_block hA3]; rfl
  have HWA := Lib.hid (And.intro hWA (And.intro hO0 (And.intro hA4 hbA))); clear hWA hO0 hA4 hbA hI hT0 hA1 hA2 hA3 hok hop hfin
  go_enter Tryz.func158, Tryz.ntmps158
  go_wp2_with fail
  rw [← HWA.out.1]
  go_wp2_with fail
  go_ret2
  exact ⟨⟨_, _, _, _, _, _, rfl, HWA.out.2.2.1, HWA.out.2.1⟩, HWA.out.2.2.2⟩
def RG (RB : Nat) (fv : Value) (b : Nat) : Prop := b = RB ∨ fv.ownBlock = some b
def sgCells (m : Mk) (tv fv : Value) (limit : Nat) (most : Int) (s : DSt) : Array Value := #[.int .i64 m.c, .int .i64 m.d, .int .i64 m.s, .int .i64 m.e, .int .i64 m.l, tv, .int .i64 (limit : Int), .int .i64 most, .int .i64 (s.1 : Int), .bool s.2.1, fv]
structure Sg (m : Mk) (tv : Value) (limit : Nat) (most : Int) (RB B : Nat) (s : DSt) (fv : Value) (w : World) : Prop where
 hh : w.heap[RB]? = some (.cells (sgCells m tv fv limit most s) 199 (0, 0))
 own : ∃ vs, w.ownsRow B 24 1 fv s.2.2.length vs ∧ ∀ k, k < s.2.2.length → ∃ rv, vs[k]? = some rv ∧ V2 (fun b => ¬ RG RB fv b) w rv (getll s.2.2 k)
 ne : fv.ownBlock ≠ some RB
 le : s.1 ≤ limit ∧ limit ≤ 4000
 lo : B ≤ w.heap.size
section
variable {m : Mk} {tv fv : Value} {limit : Nat} {most : Int} {RB B : Nat} {s : DSt} {w w' : World}
theorem Sg.below (h : Sg m tv limit most RB B s fv w) (hb : Below w.heap.size w w') : Sg m tv limit most RB B s fv w' := by
 obtain ⟨vs, h1, h2⟩ := h.own
 exact ⟨heap_below h.hh hb (lt_of_heap h.hh), ⟨vs, own_keep h1 hb, fun k hk => by obtain ⟨rv, g1, g2⟩ := h2 k hk; exact ⟨rv, g1, g2.below hb⟩⟩, h.ne, h.le, Nat.le_trans h.lo hb.size⟩
theorem Sg.lt (h : Sg m tv limit most RB B s fv w) {b : Nat} (hb : RG RB fv b) : b < w.heap.size := by
 rcases hb with rfl | hb
 ·exact lt_of_heap h.hh
 ·obtain ⟨vs, h1, _⟩ := h.own; exact (h1.lt _ hb).2
theorem Sg.cell (h : Sg m tv limit most RB B s fv w) (o : Nat) : w.cell? ⟨RB, o, none⟩ = (sgCells m tv fv limit most s)[o]? := by rw [cell_of_block h.hh]
theorem Sg.form (h : Sg m tv limit most RB B s fv w) : ∃ a c, fv = .slice a s.2.2.length c ∧ s.2.2.length ≤ c ∧ c ≤ maxLen := by
 obtain ⟨vs, h1, _⟩ := h.own; exact own_form h1
/-- A number or a mark in the state's own block. -/
theorem Sg.put {s' : DSt} {o : Nat} {v : Value} (h : Sg m tv limit most RB B s fv w) (hc : (sgCells m tv fv limit most s).setIfInBounds o v = sgCells m tv fv limit most s') (hs : s'.2.2 = s.2.2) (hle : s'.1 ≤ limit) : Sg m tv limit most RB B s' fv (w.setCell ⟨RB, o, none⟩ v) ∧ Chg (RG RB fv) w (w.setCell ⟨RB, o, none⟩ v) := by
 obtain ⟨vs, h1, h2⟩ := h.own
 have hC : Chg (fun b => b = RB) w (w.setCell ⟨RB, o, none⟩ v) := (Chg.refl (fun b => b = RB) _).setCell (p := ⟨RB, o, none⟩) (.inl rfl) _
 refine ⟨⟨by rw [heap_setCell_self h.hh]; rw [hc], ⟨vs, by rw [hs]; exact own_chg h1 hC (fun g hg e => h.ne (e ▸ hg)), fun k hk => ?_⟩, h.ne, ⟨hle, h.le.2⟩, by simpa using h.lo⟩, hC.mono (fun b hb => .inl hb)⟩
 obtain ⟨rv, g1, g2⟩ := h2 k (by rw [hs] at hk; exact hk)
 rw [hs]
 exact ⟨rv, g1, g2.mono (fun _ h _ => h) (hC.keep fun b hb e => hb (.inl e))⟩
end
theorem Fits.snoc {m : Mk} {t cuts : List (List Int)} {k : List Int} (h : Fits m t cuts) (hl : cuts.length < t.length) (hk : isKeyB m k = true) : Fits m t (cuts ++ [k]) := by
 have hkey : ∀ j, j < (cuts ++ [k]).length → isKeyB m (getl (cuts ++ [k]) j) = true := fun j hj => by
  by_cases e : j < cuts.length
  ·rw [getl_app1 e]; exact h.keys j e
  ·have e2 : j = cuts.length := by simp at hj; omega
   subst e2
   rw [getl_app2]; exact hk
 exact ⟨h.ok, h.rows, h.cols, h.doors, h.bits, by simp; omega, hkey, fun j hj => (isKey_iff.1 (hkey j hj)).1, fun j hj c hc => (isKey_iff.1 (hkey j hj)).2.1 _ (geti_mem hc)⟩
theorem F2.nil5 {B : Nat} {w : World} : F2 B w (.slice none 0 0) [] := ⟨0, fun _ => 0, ⟨none, 0, rfl, Nat.le_refl _, Nat.zero_le _, fun hn => absurd rfl hn, fun k hk => by simp at hk⟩, fun hn => absurd rfl hn, fun k hk => by simp at hk⟩
set_option maxRecDepth 100000 in
set_option maxHeartbeats 1000000 in
theorem FindFrom_any {S S' : Nat → Prop} (m : Mk) (u v : Value) (t cuts : List (List Int)) (limit : Int) (W : World) (h : V2 S W u t) (hc : V2 S' W v cuts) (hcp : cuts = [] → PV v) :
  Calls Tryz.prog 102 #[.agg #[.int .i64 m.c, .int .i64 m.d, .int .i64 m.s, .int .i64 m.e, .int .i64 m.l, u], v, .int .i64 limit] W fun e' w' => ∃ v', e' = .returned (.tuple #[v', .int .i64 (findAns m t cuts limit).2.1, .int .i64 (findAns m t cuts limit).2.2]) ∧ F2 W.heap.size w' v' (findAns m t cuts limit).1 ∧ Below W.heap.size W w' := by
 obtain ⟨a, c, rfl, hmx⟩ := h.form
 obtain ⟨a', c', rfl, hmx'⟩ := hc.form
 obtain ⟨W1, hW1, hB01, hz01, HZ01, hc01, hh01⟩ := box_facts W #[.int .i64 m.c, .int .i64 m.d, .int .i64 m.s, .int .i64 m.e, .int .i64 m.l, .slice a t.length c] 33
 have hV1 : V2 (fun _ => True) W1 (.slice a t.length c) t := (h.below hB01).any
 have hC1 : V2 (fun _ => True) W1 (.slice a' cuts.length c') cuts := (hc.below hB01).any
 have hsc := searchCode_any m _ _ t cuts limit W1 hV1 hC1
 by_cases hp : searchC m t cuts limit = 0
 ·obtain ⟨hok, hlim, hop⟩ := searchC_ok.1 hp
  rw [hp] at hsc
  obtain ⟨L, rfl⟩ : ∃ L : Nat, limit = (L : Int) := ⟨limit.toNat, by omega⟩
  have hfin : findAns m t cuts (L : Int) = pickA (firstF m.c.toNat t (keysOf m) cuts 1 L) := by unfold findAns; rw [if_neg (by rw [hp]; simp)]; rfl
  have hfd := fun w (hb : Below W1.heap.size W1 w) => firstDesigns_any m (.slice a t.length c) (.slice a' cuts.length c') t cuts 1 L w (hV1.below hb) (hC1.below hb) hcp hok hop (by omega) (by omega)
  obtain ⟨r, hr⟩ : ∃ r, firstF m.c.toNat t (keysOf m) cuts 1 L = r := ⟨_, rfl⟩
  rw [hfin, hr]
  simp only [hr] at hfd
  obtain ⟨r1, r2, rl⟩ := r
  have H := Lib.hid (And.intro hsc (And.intro hfd hfin)); clear hsc hfd hfin hp hok hlim hop hr
  cases rl with
  | nil =>
    cases r2
    ·skip
     go_enter Tryz.func102, Tryz.ntmps102
     go_wp2_with fail
     rw [← hW1]
     refine H.out.1.mono ?_
     rintro e' w2 ⟨rfl, hb2⟩
     have hz2 := hb2.size
     have hx2 : ∀ o, w2.cell? ⟨W.heap.size, o, none⟩ = (#[.int .i64 m.c, .int .i64 m.d, .int .i64 m.s, .int .i64 m.e, .int .i64 m.l, .slice a t.length c] : Array Value)[o]? := fun o => by rw [(bcell hb2).1 _ _ hz01, hc01]
     clear hc01 hh01
     go_wp2_with fail
     refine (H.out.2.1 _ hb2).mono ?_
     rintro e' w3 ⟨⟨dv, XB, vs, LL, UU, fv, rfl, hX, hO⟩, hb3⟩
     have hbz := hB01.trans ((hb2.trans (hb3.mono hz2)).mono (by omega))
     have cX3 : w3.cell? ⟨XB, 7, none⟩ = some (.int .i64 (r1 : Int)) := by rw [cell_of_block hX]; rfl
     have cX4 : w3.cell? ⟨XB, 8, none⟩ = some (.bool false) := by rw [cell_of_block hX]; rfl
     clear hx2
     obtain ⟨da, dc, rfl, _, _⟩ := hO.form
     clear hO
     go_wp2_with fail
     go_ret3
     exact ⟨_, rfl, F2.nil5, hbz⟩
    ·skip
     go_enter Tryz.func102, Tryz.ntmps102
     go_wp2_with fail
     rw [← hW1]
     refine H.out.1.mono ?_
     rintro e' w2 ⟨rfl, hb2⟩
     have hz2 := hb2.size
     have hx2 : ∀ o, w2.cell? ⟨W.heap.size, o, none⟩ = (#[.int .i64 m.c, .int .i64 m.d, .int .i64 m.s, .int .i64 m.e, .int .i64 m.l, .slice a t.length c] : Array Value)[o]? := fun o => by rw [(bcell hb2).1 _ _ hz01, hc01]
     clear hc01 hh01
     go_wp2_with fail
     refine (H.out.2.1 _ hb2).mono ?_
     rintro e' w3 ⟨⟨dv, XB, vs, LL, UU, fv, rfl, hX, hO⟩, hb3⟩
     have hbz := hB01.trans ((hb2.trans (hb3.mono hz2)).mono (by omega))
     have cX3 : w3.cell? ⟨XB, 7, none⟩ = some (.int .i64 (r1 : Int)) := by rw [cell_of_block hX]; rfl
     have cX4 : w3.cell? ⟨XB, 8, none⟩ = some (.bool true) := by rw [cell_of_block hX]; rfl
     clear hx2
     obtain ⟨da, dc, rfl, _, _⟩ := hO.form
     clear hO
     go_wp2_with fail
     go_ret3
     exact ⟨_, rfl, F2.nil5, hbz⟩
  | cons d ds =>
    show Calls _ _ _ _ fun e' w' => ∃ v', e' = .returned (.tuple #[v', .int .i64 (r1 : Int), .int .i64 0]) ∧ F2 W.heap.size w' v' d ∧ Below W.heap.size W w'
    go_enter Tryz.func102, Tryz.ntmps102
    go_wp2_with fail
    rw [← hW1]
    refine H.out.1.mono ?_
    rintro e' w2 ⟨rfl, hb2⟩
    have hz2 := hb2.size
    have hx2 : ∀ o, w2.cell? ⟨W.heap.size, o, none⟩ = (#[.int .i64 m.c, .int .i64 m.d, .int .i64 m.s, .int .i64 m.e, .int .i64 m.l, .slice a t.length c] : Array Value)[o]? := fun o => by rw [(bcell hb2).1 _ _ hz01, hc01]
    clear hc01 hh01
    go_wp2_with fail
    refine (H.out.2.1 _ hb2).mono ?_
    rintro e' w3 ⟨⟨dv, XB, vs, LL, UU, fv, rfl, hX, hO⟩, hb3⟩
    have hbz := hB01.trans ((hb2.trans (hb3.mono hz2)).mono (by omega))
    have cX3 : w3.cell? ⟨XB, 7, none⟩ = some (.int .i64 (r1 : Int)) := by rw [cell_of_block hX]; rfl
    have cX4 : w3.cell? ⟨XB, 8, none⟩ = some (.bool r2) := by rw [cell_of_block hX]; rfl
    clear hx2
    obtain ⟨g, cap, rfl, _, _⟩ := own_some hO.own (by simp)
    obtain ⟨rv, h1, h2⟩ := hO.each 0 (by simp)
    have hc0 : w3.cell? ⟨g, 0, none⟩ = some rv := by
     have h3 := hO.own.cells (g := g) rfl 0 rv h1
     simpa [Addr.add] using h3
    have hF : F2 W.heap.size w3 rv d := h2.f2.mono (by have := (hO.apart 0 (by simp)).1; omega)
    obtain ⟨ra, rc, rfl, _⟩ := hF.v2.form
    have HF := Lib.hid (And.intro hF hbz); clear hF h2 hO hbz
    have hdl : (0 : Int) < ((d :: ds).length : Int) := by simp
    go_wp2_with fail
    go_region
    all_goals
     go_wp2_with fail
     go_ret3
     exact ⟨_, rfl, HF.out.1.below ((Below.refl _ _).drew), HF.out.2.drew⟩
 ·have hfin : findAns m t cuts limit = ([], 0, searchC m t cuts limit) := by unfold findAns; rw [if_pos hp]
  have e1 : (searchC m t cuts limit != 0) = true := by simp [hp]
  rw [hfin]
  have H := Lib.hid (And.intro hsc hfin); clear hsc hfin hp
  generalize searchC m t cuts limit = pc at *
  go_enter Tryz.func102, Tryz.ntmps102
  go_wp2_with fail
  rw [← hW1]
  refine H.out.1.mono ?_
  rintro e' w2 ⟨rfl, hb2⟩
  have hz2 := hb2.size
  have hx2 : ∀ o, w2.cell? ⟨W.heap.size, o, none⟩ = (#[.int .i64 m.c, .int .i64 m.d, .int .i64 m.s, .int .i64 m.e, .int .i64 m.l, .slice a t.length c] : Array Value)[o]? := fun o => by rw [(bcell hb2).1 _ _ hz01, hc01]
  clear hc01 hh01
  clear hx2
  go_wp2_with fail
  go_ret3
  exact ⟨_, rfl, F2.nil5, hB01.trans (hb2.mono (by omega))⟩
theorem putS_new {W w : World} {c0 c1 c2 c3 c4 c5 : Value} (hB : Below W.heap.size W w) (h : w.heap[W.heap.size]? = some (.cells #[c0, c1, c2, c3, c4, c5] 33 (0, 0))) (v0 v1 v2 v3 v4 v5 : Value) :
  Below W.heap.size W (putS w W.heap.size v0 v1 v2 v3 v4 v5) ∧ (putS w W.heap.size v0 v1 v2 v3 v4 v5).heap[W.heap.size]? = some (.cells #[v0, v1, v2, v3, v4, v5] 33 (0, 0)) ∧ ∀ b, b ≠ W.heap.size → (putS w W.heap.size v0 v1 v2 v3 v4 v5).heap[b]? = w.heap[b]? := by
 refine ⟨?_, ?_, fun b hb => ?_⟩
 ·unfold putS putR
  exact ((((((hB.setCell (Nat.le_refl _) _).setCell (Nat.le_refl _) _).setCell (Nat.le_refl _) _).setCell (Nat.le_refl _) _).setCell (Nat.le_refl _) _).setCell (Nat.le_refl _) _)
 ·unfold putS putR
  rw [heap_setCell_self (heap_setCell_self (heap_setCell_self (heap_setCell_self (heap_setCell_self (heap_setCell_self h _) _) _) _) _) _]
  simp
 ·unfold putS putR
  (repeat rw [heap_setCell_other _ hb])
theorem VB.below {S : Nat → Prop} {w w' : World} {v : Value} {l : List Int} (h : VB S w v l) (hb : Below w.heap.size w w') : VB S w' v l :=
 h.mono (fun _ h _ => h) (Below.keep hb fun _ _ h => h)
theorem Only.to_below {SB B : Nat} {a b : World} (h : Only SB a b) (hS : B ≤ SB) (hB : B ≤ a.heap.size) : Below B a b := Chg.to_below h (fun i hi => by omega) hB
/-- What a draw of a system and cuts from a code answers; X: what stands beside them. -/
def DrawC (W : World) (X : Mk → List (List Int) → List (List Int) → World → List Value → Prop) (e : Ending) (w' : World) : Prop :=
 ∃ (m : Mk) (u cv : Value) (T cuts : List (List Int)) (vs : List Value), e = .returned (.tuple (#[.agg #[.int .i64 m.c, .int .i64 m.d, .int .i64 m.s, .int .i64 m.e, .int .i64 m.l, u], cv] ++ vs.toArray)) ∧ X m T cuts w' vs ∧ V2 (fun b => W.heap.size ≤ b) w' u T ∧ V2 (fun b => W.heap.size ≤ b) w' cv cuts ∧ Below W.heap.size W w'
def DrawC2 (W : World) : Ending → World → Prop := DrawC W fun _ _ _ _ vs => vs = []
theorem DrawC2.open {W w' : World} {e : Ending} (h : DrawC2 W e w') : ∃ (m : Mk) (u cv : Value) (T cuts : List (List Int)), e = .returned (.tuple #[.agg #[.int .i64 m.c, .int .i64 m.d, .int .i64 m.s, .int .i64 m.e, .int .i64 m.l, u], cv]) ∧ V2 (fun b => W.heap.size ≤ b) w' u T ∧ V2 (fun b => W.heap.size ≤ b) w' cv cuts ∧ Below W.heap.size W w' := by
 obtain ⟨m, u, cv, T, cuts, vs, rfl, rfl, h1, h2, h3⟩ := h
 exact ⟨m, u, cv, T, cuts, rfl, h1, h2, h3⟩
/-- What a draw of a system and steps from a code answers. -/
def DrawSh (W : World) (e : Ending) (w' : World) : Prop :=
 ∃ (m : Mk) (u sv : Value) (T : List (List Int)) (st : List (Int × Int)), e = .returned (.tuple #[.agg #[.int .i64 m.c, .int .i64 m.d, .int .i64 m.s, .int .i64 m.e, .int .i64 m.l, u], sv]) ∧ V2 (fun b => W.heap.size ≤ b) w' u T ∧ VS (fun b => W.heap.size ≤ b) w' sv st ∧ Below W.heap.size W w'
theorem DrawSh.open {W w' : World} {e : Ending} (h : DrawSh W e w') : ∃ (m : Mk) (u cv : Value) (T : List (List Int)) (cuts : List (Int × Int)), e = .returned (.tuple #[.agg #[.int .i64 m.c, .int .i64 m.d, .int .i64 m.s, .int .i64 m.e, .int .i64 m.l, u], cv]) ∧ V2 (fun b => W.heap.size ≤ b) w' u T ∧ VS (fun b => W.heap.size ≤ b) w' cv cuts ∧ Below W.heap.size W w' := h
set_option maxRecDepth 100000 in
set_option maxHeartbeats 1000000 in
theorem DrawIsRefutation_any {S : Nat → Prop} (v : Value) (l : List Int) (W : World) (h : VB S W v l) :
  Calls Tryz.prog 37 #[v] W (DrawSh W) := by
 obtain ⟨a, c, rfl, hm⟩ := h.form
 obtain ⟨W1, hW1, hB01, hz01, HZ01, _, hh01⟩ := box_facts W #[.int .i64 0, .int .i64 0, .int .i64 0, .int .i64 0, .int .i64 0, .slice none 0 0] 33
 have hz1e := HZ01.out
 have hz1l : W1.heap.size ≤ W.heap.size + 1 := by omega
 have HL := Lib.hid (And.intro (h.below hB01) (And.intro hB01 (And.intro hh01 hW1))); clear h hh01 hB01 hz1e
 go_enter Tryz.func37, Tryz.ntmps37
 go_wp2_with fail
 rw [← HL.out.2.2.2]
 clear hW1
 refine (l01From_any _ l W1 HL.out.1).mono ?_
 rintro e' w2 ⟨rfl, hs2, hb2⟩
 have hz2 := hb2.size
 have H2 := Lib.hid (And.intro hs2 (And.intro hb2 ((hb2.block _ hz01).trans HL.out.2.2.1))); clear hs2 hb2
 go_wp2_with fail
 refine (l19Draw_any W1.heap.size W1.heap.size w2 H2.out.1).mono ?_
 rintro e' w3 ⟨m, u, cv, T, st, rfl, hsm, hu, hcv, hs3, ho3⟩
 have hz3 := ho3.size
 have hz23 : W1.heap.size < w2.heap.size := H2.out.1.lt
 obtain ⟨ta, tc, rfl, _⟩ := hu.form
 obtain ⟨ca, cc, rfl, _⟩ := hcv.form
 have hRw := ho3.heap H2.out.2.2 (fun e => by omega)
 have hBw : Below W.heap.size W w3 := HL.out.2.1.trans ((H2.out.2.1.trans (ho3.to_below (Nat.le_refl _) (by omega))).mono (by omega))
 have H3 := Lib.hid (And.intro hBw (And.intro hRw (And.intro hu hcv))); clear hBw hRw hu hcv hs3 ho3 hsm
 have hcRz : ∀ o, w3.cell? ⟨W.heap.size, o, none⟩ = (#[.int .i64 0, .int .i64 0, .int .i64 0, .int .i64 0, .int .i64 0, .slice none 0 0] : Array Value)[o]? := fun o => by rw [cell_of_block H3.out.2.1]
 have hfRz := fun o => frozen_of_block H3.out.2.1 o
 have hdone := putS_new H3.out.1 H3.out.2.1 (.int .i64 m.c) (.int .i64 m.d) (.int .i64 m.s) (.int .i64 m.e) (.int .i64 m.l) (.slice ta T.length tc)
 obtain ⟨wz, hwz⟩ : ∃ wz, wz = putS w3 W.heap.size (.int .i64 m.c) (.int .i64 m.d) (.int .i64 m.s) (.int .i64 m.e) (.int .i64 m.l) (.slice ta T.length tc) := ⟨_, rfl⟩
 rw [← hwz] at hdone
 obtain ⟨hd2, hd3, hd4⟩ := hdone
 have hFz : V2 (fun b => W.heap.size ≤ b) wz (.slice ta T.length tc) T := V2.mono (S := fun b => w2.heap.size ≤ b) H3.out.2.2.1 (fun b hb _ => by have hb : w2.heap.size ≤ b := hb; omega) (fun b hb _ => hd4 b (by have hb : w2.heap.size ≤ b := hb; omega))
 have hcz : VS (fun b => W.heap.size ≤ b) wz (.slice ca st.length cc) st := VS.mono (S := fun b => w2.heap.size ≤ b) H3.out.2.2.2 (fun b hb _ => by have hb : w2.heap.size ≤ b := hb; omega) (fun b hb _ => hd4 b (by have hb : w2.heap.size ≤ b := hb; omega))
 have hz0 : wz.cell? ⟨W.heap.size, 0, none⟩ = some (.int .i64 m.c) := by rw [cell_of_block hd3]; rfl
 have hz1 : wz.cell? ⟨W.heap.size, 1, none⟩ = some (.int .i64 m.d) := by rw [cell_of_block hd3]; rfl
 have hz2 : wz.cell? ⟨W.heap.size, 2, none⟩ = some (.int .i64 m.s) := by rw [cell_of_block hd3]; rfl
 have hz3 : wz.cell? ⟨W.heap.size, 3, none⟩ = some (.int .i64 m.e) := by rw [cell_of_block hd3]; rfl
 have hz4 : wz.cell? ⟨W.heap.size, 4, none⟩ = some (.int .i64 m.l) := by rw [cell_of_block hd3]; rfl
 have hz5 : wz.cell? ⟨W.heap.size, 5, none⟩ = some (.slice ta T.length tc) := by rw [cell_of_block hd3]; rfl
 have HZ := Lib.hid (And.intro hd2 (And.intro hFz (And.intro hcz (And.intro hwz (And.intro hz0 (And.intro hz1 (And.intro hz2 (And.intro hz3 (And.intro hz4 (And.intro hz5 hd4)))))))))); clear hd2 hd3 hd4 hFz hcz hwz hz0 hz1 hz2 hz3 hz4 hz5
 go_wp2_with fail
 have hwz := HZ.out.2.2.2.1
 unfold putS putR at hwz
 rw [← hwz]
 clear hwz
 obtain ⟨hd2, hFz, hcz, hwzz, hz0, hz1, hz2, hz3, hz4, hz5, hd4⟩ := HZ.out
 clear hwzz
 exact bodyPost_ret (v := .tuple #[.agg #[.int .i64 m.c, .int .i64 m.d, .int .i64 m.s, .int .i64 m.e, .int .i64 m.l, .slice ta T.length tc], .slice ca st.length cc]) (by simp [results, Tryz.results37, go_sem, hz0, hz1, hz2, hz3, hz4, hz5]) rfl ⟨m, _, _, T, st, rfl, hFz, hcz, hd2⟩
/-- A system in a box of its own, while more is drawn. -/
structure DrAt (B0 SB : Nat) (W W1 w3 : World) (m : Mk) (tv : Value) (T : List (List Int)) (w : World) : Prop where
 src : Src B0 SB w
 only : Only SB W w
 hm : w.heap[w3.heap.size]? = some (.cells #[.int .i64 m.c, .int .i64 m.d, .int .i64 m.s, .int .i64 m.e, .int .i64 m.l, tv] 33 (0, 0))
 hr : w.heap[W.heap.size]? = some (.cells #[.int .i64 0, .int .i64 0, .int .i64 0, .int .i64 0, .int .i64 0, .slice none 0 0] 33 (0, 0))
 tab : V2 (fun b => W1.heap.size ≤ b ∧ b < w3.heap.size) w tv T
theorem DrAt.step {B0 SB : Nat} {W W1 w3 w w' : World} {m : Mk} {tv : Value} {T : List (List Int)} (h : DrAt B0 SB W W1 w3 m tv T w) (hs : Src B0 SB w') (ho : Only SB w w') (h1 : SB < W.heap.size) (h2 : SB < W1.heap.size) (h3 : SB < w3.heap.size) : DrAt B0 SB W W1 w3 m tv T w' :=
 ⟨hs, h.only.trans ho, ho.heap h.hm (fun e => by omega), ho.heap h.hr (fun e => by omega), h.tab.mono (fun _ h _ => h) (fun b hb hlt => ho.block b hlt (fun e => by have := hb.1; omega))⟩
def DrawCi (W : World) : Ending → World → Prop := DrawC W fun _ _ _ _ vs => ∃ n : Int, vs = [.int .i64 n]
def DrawCk (W : World) : Ending → World → Prop := DrawC W fun _ _ _ w' vs => ∃ kv key, vs = [kv] ∧ V1 (fun b => W.heap.size ≤ b) w' kv key
def DrawCkw (W : World) : Ending → World → Prop := DrawC W fun _ _ _ w' vs => ∃ kv key x y, vs = [kv, .int .i64 x, .int .i64 y] ∧ V1 (fun b => W.heap.size ≤ b) w' kv key
theorem DrawCi.open {W w' : World} {e : Ending} (h : DrawCi W e w') : ∃ (m : Mk) (u cv : Value) (T cuts : List (List Int)) (n : Int), e = .returned (.tuple #[.agg #[.int .i64 m.c, .int .i64 m.d, .int .i64 m.s, .int .i64 m.e, .int .i64 m.l, u], cv, .int .i64 n]) ∧ V2 (fun b => W.heap.size ≤ b) w' u T ∧ V2 (fun b => W.heap.size ≤ b) w' cv cuts ∧ Below W.heap.size W w' := by
 obtain ⟨m, u, cv, T, cuts, vs, rfl, ⟨n, rfl⟩, h1, h2, h3⟩ := h
 exact ⟨m, u, cv, T, cuts, n, rfl, h1, h2, h3⟩
theorem DrawCk.open {W w' : World} {e : Ending} (h : DrawCk W e w') : ∃ (m : Mk) (u cv : Value) (T cuts : List (List Int)) (kv : Value) (key : List Int), e = .returned (.tuple #[.agg #[.int .i64 m.c, .int .i64 m.d, .int .i64 m.s, .int .i64 m.e, .int .i64 m.l, u], cv, kv]) ∧ V1 (fun b => W.heap.size ≤ b) w' kv key ∧ V2 (fun b => W.heap.size ≤ b) w' u T ∧ V2 (fun b => W.heap.size ≤ b) w' cv cuts ∧ Below W.heap.size W w' := by
 obtain ⟨m, u, cv, T, cuts, vs, rfl, ⟨kv, key, rfl, h0⟩, h1, h2, h3⟩ := h
 exact ⟨m, u, cv, T, cuts, kv, key, rfl, h0, h1, h2, h3⟩
theorem DrawCkw.open {W w' : World} {e : Ending} (h : DrawCkw W e w') : ∃ (m : Mk) (u cv : Value) (T cuts : List (List Int)) (kv : Value) (key : List Int) (x y : Int), e = .returned (.tuple #[.agg #[.int .i64 m.c, .int .i64 m.d, .int .i64 m.s, .int .i64 m.e, .int .i64 m.l, u], cv, kv, .int .i64 x, .int .i64 y]) ∧ V1 (fun b => W.heap.size ≤ b) w' kv key ∧ V2 (fun b => W.heap.size ≤ b) w' u T ∧ V2 (fun b => W.heap.size ≤ b) w' cv cuts ∧ Below W.heap.size W w' := by
 obtain ⟨m, u, cv, T, cuts, vs, rfl, ⟨kv, key, x, y, rfl, h0⟩, h1, h2, h3⟩ := h
 exact ⟨m, u, cv, T, cuts, kv, key, x, y, rfl, h0, h1, h2, h3⟩
theorem PartOk.take {m : Mk} {t cuts : List (List Int)} (h : PartOk m t cuts) (r : Nat) : PartOk m t (cuts.take r) := by
 have hf := h.few
 refine ⟨h.sys, by rw [List.length_take]; omega, allKeys_iff.2 fun k hk => ?_⟩
 rw [List.length_take] at hk
 rw [getl_take (by omega)]
 exact allKeys_iff.1 h.keys k (by omega)
/-- Going back row by row: where the walk stands. -/
def NextAt (m : Mk) (n : Nat) (t cuts : List (List Int)) (limit : Nat) (res : DSt) (r : Nat) (s : DSt) : Prop :=
 (actK s ∧ res = nextF m n t cuts limit r s) ∨ (¬ actK s ∧ res = s)
theorem NextAt.step {m : Mk} {n : Nat} {t cuts : List (List Int)} {limit : Nat} {res : DSt} {r : Nat} {s : DSt} (h : NextAt m n t cuts limit res (r + 1) s) (ha : actK s) : NextAt m n t cuts limit res r (backF m n t cuts limit r s).1 := by
 rcases h with ⟨_, h⟩ | ⟨h, _⟩
 ·have h1 := backF_actK (m := m) (n := n) (t := t) (cuts := cuts) (limit := limit) (row := r) ha
  unfold nextF at h
  by_cases hb : (backF m n t cuts limit r s).2 = true
  ·rw [if_pos hb] at h
   exact .inl ⟨h1.1 hb, h⟩
  ·rw [if_neg hb] at h
   exact .inr ⟨fun hh => hb (h1.2 hh), h⟩
 ·exact absurd ha h
theorem NextAt.last {m : Mk} {n : Nat} {t cuts : List (List Int)} {limit : Nat} {res : DSt} {s : DSt} (h : NextAt m n t cuts limit res 0 s) : res = s := by
 rcases h with ⟨_, h⟩ | ⟨_, h⟩ <;> exact h
theorem NextAt.stop {m : Mk} {n : Nat} {t cuts : List (List Int)} {limit : Nat} {res : DSt} {r : Nat} {s : DSt} (h : NextAt m n t cuts limit res r s) (hn : ¬ actK s) : res = s := by
 rcases h with ⟨h, _⟩ | ⟨_, h⟩
 ·exact absurd h hn
 ·exact h
/-- What a draw of a system and a number from a code answers. -/
def DrawFi (W : World) (e : Ending) (w' : World) : Prop :=
 ∃ (m : Mk) (u : Value) (T : List (List Int)) (n : Int), e = .returned (.tuple #[.agg #[.int .i64 m.c, .int .i64 m.d, .int .i64 m.s, .int .i64 m.e, .int .i64 m.l, u], .int .i64 n]) ∧ V2 (fun b => W.heap.size ≤ b) w' u T ∧ Below W.heap.size W w'
/-- What a draw of a system from a code answers. -/
def DrawSy (W : World) (e : Ending) (w' : World) : Prop :=
 ∃ (m : Mk) (u : Value) (T : List (List Int)), e = .returned (.agg #[.int .i64 m.c, .int .i64 m.d, .int .i64 m.s, .int .i64 m.e, .int .i64 m.l, u]) ∧ V2 (fun b => W.heap.size ≤ b) w' u T ∧ Below W.heap.size W w'
theorem DrawSy.open {W w' : World} {e : Ending} (h : DrawSy W e w') : ∃ (m : Mk) (u : Value) (T : List (List Int)), e = .returned (.agg #[.int .i64 m.c, .int .i64 m.d, .int .i64 m.s, .int .i64 m.e, .int .i64 m.l, u]) ∧ V2 (fun b => W.heap.size ≤ b) w' u T ∧ Below W.heap.size W w' := h
theorem DrawFi.open {W w' : World} {e : Ending} (h : DrawFi W e w') : ∃ (m : Mk) (u : Value) (T : List (List Int)) (n : Int), e = .returned (.tuple #[.agg #[.int .i64 m.c, .int .i64 m.d, .int .i64 m.s, .int .i64 m.e, .int .i64 m.l, u], .int .i64 n]) ∧ V2 (fun b => W.heap.size ≤ b) w' u T ∧ Below W.heap.size W w' := h
/-- What a draw of a system and two numbers from a code answers. -/
def DrawF2 (W : World) (e : Ending) (w' : World) : Prop :=
 ∃ (m : Mk) (u : Value) (T : List (List Int)) (k n : Int), e = .returned (.tuple #[.agg #[.int .i64 m.c, .int .i64 m.d, .int .i64 m.s, .int .i64 m.e, .int .i64 m.l, u], .int .i64 k, .int .i64 n]) ∧ V2 (fun b => W.heap.size ≤ b) w' u T ∧ Below W.heap.size W w'
theorem DrawF2.open {W w' : World} {e : Ending} (h : DrawF2 W e w') : ∃ (m : Mk) (u : Value) (T : List (List Int)) (k n : Int), e = .returned (.tuple #[.agg #[.int .i64 m.c, .int .i64 m.d, .int .i64 m.s, .int .i64 m.e, .int .i64 m.l, u], .int .i64 k, .int .i64 n]) ∧ V2 (fun b => W.heap.size ≤ b) w' u T ∧ Below W.heap.size W w' := h
set_option maxRecDepth 100000 in
set_option maxHeartbeats 1000000 in
theorem DrawRefute_any {S : Nat → Prop} (v : Value) (l : List Int) (W : World) (h : VB S W v l) :
  Calls Tryz.prog 34 #[v] W (DrawSy W) := by
 obtain ⟨a, c, rfl, hm⟩ := h.form
 obtain ⟨W1, hW1, hB01, hz01, HZ01, _, hh01⟩ := box_facts W #[.int .i64 0, .int .i64 0, .int .i64 0, .int .i64 0, .int .i64 0, .slice none 0 0] 33
 have hz1e := HZ01.out
 have hz1l : W1.heap.size ≤ W.heap.size + 1 := by omega
 have HL := Lib.hid (And.intro (h.below hB01) (And.intro hB01 (And.intro hh01 hW1))); clear h hh01 hB01 hz1e
 go_enter Tryz.func34, Tryz.ntmps34
 go_wp2_with fail
 rw [← HL.out.2.2.2]
 clear hW1
 refine (l01From_any _ l W1 HL.out.1).mono ?_
 rintro e' w2 ⟨rfl, hs2, hb2⟩
 have hz2 := hb2.size
 have H2 := Lib.hid (And.intro hs2 (And.intro hb2 ((hb2.block _ hz01).trans HL.out.2.2.1))); clear hs2 hb2
 go_wp2_with fail
 refine (l19DrawSystem_any W1.heap.size W1.heap.size w2 H2.out.1).mono ?_
 rintro e' w3 ⟨m, u, T, rfl, hsm, hu, hT12, hs3, ho3⟩
 have hz3 := ho3.size
 have hz23 : W1.heap.size < w2.heap.size := H2.out.1.lt
 obtain ⟨ta, tc, rfl, _⟩ := hu.form
 have H3 := Lib.hid (And.intro (HL.out.2.1.trans ((H2.out.2.1.trans (ho3.to_below (Nat.le_refl _) (by omega))).mono (by omega))) (And.intro (ho3.heap H2.out.2.2 (fun e => by omega)) (hu.mono (S' := fun b => W1.heap.size ≤ b) (fun b hb _ => by have hb : w2.heap.size ≤ b := hb; omega) (fun _ _ _ => rfl)))); clear hs3 ho3 hu hsm
 have hcRz : ∀ o, w3.cell? ⟨W.heap.size, o, none⟩ = (#[.int .i64 0, .int .i64 0, .int .i64 0, .int .i64 0, .int .i64 0, .slice none 0 0] : Array Value)[o]? := fun o => by rw [cell_of_block H3.out.2.1]
 have hfRz := fun o => frozen_of_block H3.out.2.1 o
 have hdone := putS_new H3.out.1 H3.out.2.1 (.int .i64 m.c) (.int .i64 m.d) (.int .i64 m.s) (.int .i64 m.e) (.int .i64 m.l) (.slice ta T.length tc)
 obtain ⟨wz, hwz⟩ : ∃ wz, wz = putS w3 W.heap.size (.int .i64 m.c) (.int .i64 m.d) (.int .i64 m.s) (.int .i64 m.e) (.int .i64 m.l) (.slice ta T.length tc) := ⟨_, rfl⟩
 rw [← hwz] at hdone
 obtain ⟨hd2, hd3, hd4⟩ := hdone
 have hFz : V2 (fun b => W.heap.size ≤ b) wz (.slice ta T.length tc) T := V2.mono (S := fun b => W1.heap.size ≤ b) H3.out.2.2 (fun b hb _ => by have hb : W1.heap.size ≤ b := hb; omega) (fun b hb _ => hd4 b (by have hb : W1.heap.size ≤ b := hb; omega))
 have hz0 : wz.cell? ⟨W.heap.size, 0, none⟩ = some (.int .i64 m.c) := by rw [cell_of_block hd3]; rfl
 have hz1 : wz.cell? ⟨W.heap.size, 1, none⟩ = some (.int .i64 m.d) := by rw [cell_of_block hd3]; rfl
 have hz2 : wz.cell? ⟨W.heap.size, 2, none⟩ = some (.int .i64 m.s) := by rw [cell_of_block hd3]; rfl
 have hz3 : wz.cell? ⟨W.heap.size, 3, none⟩ = some (.int .i64 m.e) := by rw [cell_of_block hd3]; rfl
 have hz4 : wz.cell? ⟨W.heap.size, 4, none⟩ = some (.int .i64 m.l) := by rw [cell_of_block hd3]; rfl
 have hz5 : wz.cell? ⟨W.heap.size, 5, none⟩ = some (.slice ta T.length tc) := by rw [cell_of_block hd3]; rfl
 have HZ := Lib.hid (And.intro hd2 (And.intro hFz (And.intro hwz (And.intro hz0 (And.intro hz1 (And.intro hz2 (And.intro hz3 (And.intro hz4 hz5)))))))); clear hd2 hd3 hd4 hFz hwz hz0 hz1 hz2 hz3 hz4 hz5
 go_wp2_with fail
 have hwz := HZ.out.2.2.1
 unfold putS putR at hwz
 rw [← hwz]
 clear hwz
 obtain ⟨hd2, hFz, hwzz, hz0, hz1, hz2, hz3, hz4, hz5⟩ := HZ.out
 clear hwzz
 exact bodyPost_ret (v := .agg #[.int .i64 m.c, .int .i64 m.d, .int .i64 m.s, .int .i64 m.e, .int .i64 m.l, .slice ta T.length tc]) (by simp [results, Tryz.results34, go_sem, hz0, hz1, hz2, hz3, hz4, hz5]) rfl ⟨m, _, T, rfl, hFz, hd2⟩
def hasAns (m : Mk) (t : List (List Int)) (limit : Int) : Bool × Int :=
 if (findAns m t [] limit).2.2 = 4 then (false, 0) else (decide ((findAns m t [] limit).2.2 = 0), (findAns m t [] limit).2.2)
theorem falseL_none {n : Nat} {t : List (List Int)} : falseL n t [] = [] := by
 refine List.eq_nil_iff_forall_not_mem.2 fun x hx => ?_
 obtain ⟨i, d, hi, _⟩ := mem_falseRows.1 hx
 simp at hi
/-- Designs are counted. -/
def visC (s : Nat) (design : List (List Int)) : Nat × Bool := (s + 1, true)
def cntF (m : Mk) (t : List (List Int)) (limit : Nat) : GSt Nat := (goF limit (stayP m.c.toNat t) visC (keysOf m) t.length [] (0, false, 0)).1
def triesAns (m : Mk) (t : List (List Int)) (limit : Int) : Int × Int :=
 if searchC m t [] limit ≠ 0 then (0, searchC m t [] limit) else if (cntF m t limit.toNat).2.1 = true then (0, 3) else (((cntF m t limit.toNat).1 : Int), 0)
/-! ### Two searches that do alike with each design -/
section
variable {τ σ : Type}
def mapS (f : τ → σ) (s : GSt τ) : GSt σ := (s.1, s.2.1, f s.2.2)
structure Sim (limit : Nat) (vis1 : τ → List (List Int) → τ × Bool) (vis2 : σ → List (List Int) → σ × Bool) (f : τ → σ) (P Q : Nat → τ → Prop) : Prop where
 vis : ∀ q s c, q ≤ limit → Q q s → vis2 (f s) c = (f (vis1 s c).1, (vis1 s c).2) ∧ P q (vis1 s c).1
 one : ∀ q s, P q s → Q (q + 1) s
 up : ∀ q s, P q s → P (q + 1) s
 le : ∀ q s, Q q s → P q s
variable {limit : Nat} {vis1 : τ → List (List Int) → τ × Bool} {vis2 : σ → List (List Int) → σ × Bool} {f : τ → σ} {P Q : Nat → τ → Prop} {stay : List (List Int) → List Int → Bool} {keys : List (List Int)}
theorem runL_sim (S : Sim limit vis1 vis2 f P Q) {d : Nat} {cuts : List (List Int)}
  (ih : ∀ (cuts : List (List Int)) (s : GSt τ), Q s.1 s.2.2 → s.1 ≤ limit → goF limit stay vis2 keys d cuts (mapS f s) = (mapS f (goF limit stay vis1 keys d cuts s).1, (goF limit stay vis1 keys d cuts s).2) ∧ P (goF limit stay vis1 keys d cuts s).1.1 (goF limit stay vis1 keys d cuts s).1.2.2) :
  ∀ (l : List (List Int)) (s : GSt τ), P s.1 s.2.2 → s.1 ≤ limit →
    runL (goStep limit stay (goF limit stay vis2 keys d) cuts) (mapS f s) l = (mapS f (runL (goStep limit stay (goF limit stay vis1 keys d) cuts) s l).1, (runL (goStep limit stay (goF limit stay vis1 keys d) cuts) s l).2) ∧
     P (runL (goStep limit stay (goF limit stay vis1 keys d) cuts) s l).1.1 (runL (goStep limit stay (goF limit stay vis1 keys d) cuts) s l).1.2.2
 | [], s, hs, _ => ⟨rfl, hs⟩
 | k :: l, s, hs, hl => by
   have h1 : goStep limit stay (goF limit stay vis2 keys d) cuts (mapS f s) k = (mapS f (goStep limit stay (goF limit stay vis1 keys d) cuts s k).1, (goStep limit stay (goF limit stay vis1 keys d) cuts s k).2) ∧
     P (goStep limit stay (goF limit stay vis1 keys d) cuts s k).1.1 (goStep limit stay (goF limit stay vis1 keys d) cuts s k).1.2.2 := by
    unfold goStep
    by_cases h : s.1 = limit
    ·rw [if_pos (show (mapS f s).1 = limit from h), if_pos h]; exact ⟨rfl, hs⟩
    ·rw [if_neg (show ¬ (mapS f s).1 = limit from h), if_neg h]
     by_cases h2 : stay cuts k = true
     ·rw [if_pos h2, if_pos h2]
      exact ih (cuts ++ [k]) (s.1 + 1, s.2.1, s.2.2) (S.one _ _ hs) (by show s.1 + 1 ≤ limit; omega)
     ·rw [if_neg h2, if_neg h2]; exact ⟨rfl, S.up _ _ hs⟩
   have h3 : (goStep limit stay (goF limit stay vis1 keys d) cuts s k).1.1 ≤ limit := goStep_le (fun c s hs => goF_le hs) hl
   obtain ⟨q, hq⟩ : ∃ q, goStep limit stay (goF limit stay vis1 keys d) cuts s k = q := ⟨_, rfl⟩
   rw [hq] at h1 h3
   unfold runL
   rw [h1.1, hq]
   dsimp only
   by_cases hb : q.2 = true
   ·rw [if_pos hb, if_pos hb]
    exact runL_sim S ih l q.1 h1.2 h3
   ·rw [if_neg hb, if_neg hb]
    exact ⟨rfl, h1.2⟩
theorem goF_sim (S : Sim limit vis1 vis2 f P Q) : ∀ (d : Nat) (cuts : List (List Int)) (s : GSt τ), Q s.1 s.2.2 → s.1 ≤ limit →
  goF limit stay vis2 keys d cuts (mapS f s) = (mapS f (goF limit stay vis1 keys d cuts s).1, (goF limit stay vis1 keys d cuts s).2) ∧ P (goF limit stay vis1 keys d cuts s).1.1 (goF limit stay vis1 keys d cuts s).1.2.2
 | 0, cuts, s, hs, hl => by
   obtain ⟨h1, h2⟩ := S.vis s.1 s.2.2 cuts hl hs
   refine ⟨?_, h2⟩
   show ((s.1, s.2.1, (vis2 (f s.2.2) cuts).1), (vis2 (f s.2.2) cuts).2) = ((s.1, s.2.1, f (vis1 s.2.2 cuts).1), (vis1 s.2.2 cuts).2)
   rw [h1]
 | d + 1, cuts, s, hs, hl => runL_sim S (goF_sim S d) keys s (S.le _ _ hs) hl
/-- The whole search of a system with rows. -/
theorem goF_start (S : Sim limit vis1 vis2 f P Q) {d : Nat} (hd : 1 ≤ d) {s : τ} (hs : P 0 s) :
  goF limit stay vis2 keys d [] (0, false, f s) = (mapS f (goF limit stay vis1 keys d [] (0, false, s)).1, (goF limit stay vis1 keys d [] (0, false, s)).2) ∧ P (goF limit stay vis1 keys d [] (0, false, s)).1.1 (goF limit stay vis1 keys d [] (0, false, s)).1.2.2 := by
 obtain ⟨e, rfl⟩ : ∃ e, d = e + 1 := ⟨d - 1, by omega⟩
 exact runL_sim S (goF_sim S e) keys (0, false, s) hs (Nat.zero_le _)
end
/-- The program's count of designs. -/
def visW (s : Int) (design : List (List Int)) : Int × Bool := (wrap64 (s + 1), true)
theorem sim_wrap {limit : Nat} (hm : limit ≤ 4000) : Sim limit visC visW (fun n : Nat => (n : Int)) (fun q n => n ≤ q) (fun q n => n + 1 ≤ q) :=
 ⟨fun q s c hq hs => by
  refine ⟨?_, hs⟩
  show (wrap64 ((s : Int) + 1), true) = (((s + 1 : Nat) : Int), true)
  rw [IntWalk.wrap64_in _ (by omega)]
  simp, fun q s h => by omega, fun q s h => by omega, fun q s h => by omega⟩
theorem cntF_wrap {m : Mk} {t : List (List Int)} {limit : Nat} (ht : 1 ≤ t.length) (hm : limit ≤ 4000) : (goF limit (stayP m.c.toNat t) visW (keysOf m) t.length [] (0, false, 0)).1 = mapS (fun n : Nat => (n : Int)) (cntF m t limit) ∧ (cntF m t limit).2.2 ≤ 4000 := by
 obtain ⟨h, h2⟩ := goF_start (stay := stayP m.c.toNat t) (keys := keysOf m) (sim_wrap hm) ht (s := 0) (Nat.zero_le _)
 refine ⟨congrArg Prod.fst h, ?_⟩
 have h3 := goF_le (stay := stayP m.c.toNat t) (vis := visC) (keys := keysOf m) (d := t.length) (cuts := []) (s := (0, false, 0)) (Nat.zero_le limit)
 unfold cntF
 omega
end Go.Proofs.YtmjplkbmhdkggaaGreat
