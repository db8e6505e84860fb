/- Copies of lists: the program's and the reference's. No conditions. -/
import Derived.Test.YtmaefilliggjiaaGreatMClone2
import Derived.Test.YtmaefilliggjiaaGreatMShelf0
import Derived.Test.YtmaefilliggjiaaGreatMGen
import Derived.Test.YtmaefilliggjiaaGreatGoV
import Derived.Test.YtmaefilliggjiaaGreatMTightP
import Derived.Test.YtmaefilliggjiaaGreatMRefFirst
import Derived.Test.YtmaefilliggjiaaGreatMDraw14
namespace Go.Proofs.YtmaefilliggjiaaGreat
open Go.RowKit
set_option linter.unusedVariables false
set_option linter.unusedSimpArgs false
set_option maxRecDepth 100000 in
set_option maxHeartbeats 1000000 in
theorem copyLists_any {S : Nat → Prop} (v : Value) (ls : List (List Int)) (W : World) (h : V2 S W v ls) (hl : ls.length ≤ 1000) (hr : ∀ k, k < ls.length → (getl ls k).length ≤ 1000) :
  Calls Tryz.prog 100 #[v] W fun e' w' => ∃ v', e' = .returned v' ∧ F2 W.heap.size w' v' ls ∧ Below W.heap.size W w' := by
 have hV := h
 obtain ⟨a, c, rfl, hm⟩ := h.form
 have hO0 := Out2.start W W.heap.size (Nat.le_refl _)
 have HO0 := Lib.hid hO0; clear hO0
 have Hr := Lib.hid hr; clear hr h
 go_enter Tryz.func100, Tryz.ntmps100
 go_wp2_with fail
 go_loopw [3, 5, 9] (fun ou _ i wr => ∃ k : Nat, k ≤ ls.length ∧ i = .int .i64 (k : Int) ∧ Out2 W.heap.size wr ou (ls.take k) ∧ Below W.heap.size W wr) (fun _ _ i _ => ls.length - (intOf i).toNat)
 case atStart => exact ⟨0, Nat.zero_le _, rfl, HO0.out, (Below.refl _ _).alloc (Nat.le_refl _) _⟩
 case round =>
  obtain ⟨k, hk, rfl, hO, hB⟩ := hrel
  have hzr := hB.size
  by_cases hkk : k < ls.length
  ·obtain ⟨b1, off1, a1, c1, rfl, _, hc1, hr1⟩ := (hV.below hB).cell hkk
   have hlk := Hr.out k hkk
   have hlt : (ls.take k).length ≤ 1000 := by rw [List.length_take]; omega
   have hst : ls.take (k + 1) = ls.take k ++ [getl ls k] := take_getl hkk
   obtain ⟨pre, hpre⟩ : ∃ p, ls.take k = p := ⟨_, rfl⟩
   rw [hpre] at hO hst hlt
   have Hst := Lib.hid (And.intro hst hpre); clear hst hpre
   obtain ⟨vs, bk, g1, g2, g3⟩ := hO
   have G := Lib.hid (And.intro g1 (And.intro g2 g3)); clear g1 g2 g3
   go_wp2_with fail
   refine (slClone_any _ (getl ls k) _ hr1 (by omega)).mono ?_
   rintro e' w2 ⟨rv, rfl, ⟨bx, hx, hbx⟩, hb2⟩
   obtain ⟨ra, rc, rfl, hrc1, hrc2, _⟩ := id hx
   have hO2 := own_keep G.out.1 hb2
   have hz2 := hb2.size
   have Hx := Lib.hid (And.intro hx hbx); clear hx hbx
   go_wp2_with (at_builtin; refine wp_app1 _ rfl _ _ 26 rfl W.heap.size 35 (.slice none 0 0) 24 Tryz.underlying26 inf_ints rfl _ _ _ rfl hO2 (.slice ra (getl ls k).length rc) _ rfl rfl (by omega) (by omega) (by omega) ?_; intro v1 w1 hown1 hgrow1 hblk1 hB1)
   go_roundw
   case rel => exact ⟨k + 1, by omega, by go_num, by rw [Hst.out.1]; exact Out2.push G.out.1 G.out.2.1 G.out.2.2 hzr hb2 Hx.out.1 (fun hn => Hx.out.2 hn) hown1 hgrow1 hblk1, (hB.trans (hb2.mono hzr)).trans hB1⟩
   case measure => simp [intOf]; omega
  ·obtain rfl : k = ls.length := by omega
   rw [List.take_length] at hO
   obtain ⟨oa, oc, rfl, _, _⟩ := hO.form
   have HO := Lib.hid hO.f2; clear hO
   go_wp2_with fail
   go_ret
   exact ⟨_, rfl, HO.out, hB⟩
set_option maxRecDepth 100000 in
set_option maxHeartbeats 1000000 in
theorem l15Lists_any {S : Nat → Prop} (v : Value) (ls : List (List Int)) (W : World) (h : V2 S W v ls) (hl : ls.length ≤ 1000) (hr : ∀ k, k < ls.length → (getl ls k).length ≤ 1000 ∧ getl ls k ≠ []) :
  Calls Tryz.prog 106 #[v] W fun e' w' => ∃ v', e' = .returned v' ∧ (F2 W.heap.size w' v' ls ∧ PV v') ∧ Below W.heap.size W w' := by
 have hV := h
 obtain ⟨a, c, rfl, hm⟩ := h.form
 have hO0 := Out2.start W W.heap.size (Nat.le_refl _)
 have HO0 := Lib.hid hO0; clear hO0
 have Hr := Lib.hid hr; clear hr h
 go_enter Tryz.func106, Tryz.ntmps106
 go_wp2_with fail
 go_loopw [3, 4] (fun ou i wr => ∃ k : Nat, k ≤ ls.length ∧ i = .int .i64 (k : Int) ∧ Out2 W.heap.size wr ou (ls.take k) ∧ Below W.heap.size W wr) (fun _ i _ => ls.length - (intOf i).toNat)
 case atStart => exact ⟨0, Nat.zero_le _, rfl, HO0.out, (Below.refl _ _).alloc (Nat.le_refl _) _⟩
 case round =>
  obtain ⟨k, hk, rfl, hO, hB⟩ := hrel
  have hzr := hB.size
  by_cases hkk : k < ls.length
  ·obtain ⟨b1, off1, a1, c1, rfl, _, hc1, hr1⟩ := (hV.below hB).cell hkk
   have hlk := Hr.out k hkk
   have hlt : (ls.take k).length ≤ 1000 := by rw [List.length_take]; omega
   have hst : ls.take (k + 1) = ls.take k ++ [getl ls k] := take_getl hkk
   obtain ⟨pre, hpre⟩ : ∃ p, ls.take k = p := ⟨_, rfl⟩
   rw [hpre] at hO hst hlt
   have Hst := Lib.hid (And.intro hst hpre); clear hst hpre
   obtain ⟨vs, bk, g1, g2, g3⟩ := hO
   have G := Lib.hid (And.intro g1 (And.intro g2 g3)); clear g1 g2 g3
   have Hlk := Lib.hid hlk.2
   have hlk1 := hlk.1
   clear hlk
   go_wp2_with fail
   refine (l01Own_any _ (getl ls k) _ hr1 (fun e => absurd e Hlk.out) (by omega)).mono ?_
   rintro e' w2 ⟨rv, rfl, hown, hb2⟩
   obtain ⟨bx, hx, hbx⟩ := own_F1 hown
   obtain ⟨ra, rc, rfl, hrc1, hrc2, _⟩ := id hx
   have hO2 := own_keep G.out.1 hb2
   have hz2 := hb2.size
   have Hx := Lib.hid (And.intro hx hbx); clear hx hbx hown
   go_wp2_with (at_builtin; refine wp_app1 _ rfl _ _ 26 rfl W.heap.size 35 (.slice none 0 0) 24 Tryz.underlying26 inf_ints rfl _ _ _ rfl hO2 (.slice ra (getl ls k).length rc) _ rfl rfl (by omega) (by omega) (by omega) ?_; intro v1 w1 hown1 hgrow1 hblk1 hB1)
   go_roundw
   case rel => exact ⟨k + 1, by omega, by go_num, by rw [Hst.out.1]; exact Out2.push G.out.1 G.out.2.1 G.out.2.2 hzr hb2 Hx.out.1 (fun hn => Hx.out.2 hn) hown1 hgrow1 hblk1, (hB.trans (hb2.mono hzr)).trans hB1⟩
   case measure => simp [intOf]; omega
  ·obtain rfl : k = ls.length := by omega
   rw [List.take_length] at hO
   have hpv : PV _ := own_pv hO.own.choose_spec
   obtain ⟨oa, oc, rfl, _, _⟩ := hO.form
   have HO := Lib.hid (And.intro hO.f2 hpv); clear hO hpv
   go_wp2_with fail
   go_ret
   exact ⟨_, rfl, HO.out, hB⟩
/-- Design ls lies in blocks from lo on and below hi. -/
def In2 (lo hi : Nat) (w : World) (v : Value) (ls : List (List Int)) : Prop :=
 ∃ ob bk, X2 w v ls ob bk ∧ (ls ≠ [] → lo ≤ ob ∧ ob < hi) ∧ ∀ k, k < ls.length → getl ls k ≠ [] → lo ≤ bk k ∧ bk k < hi
theorem In2.of_F2 {lo : Nat} {w : World} {v : Value} {ls : List (List Int)} (h : F2 lo w v ls) : In2 lo w.heap.size w v ls := by
 obtain ⟨ob, bk, h1, h2, h3⟩ := h
 refine ⟨ob, bk, h1, fun hn => ⟨h2 hn, (h1.lt hn).1⟩, fun k hk hn => ⟨h3 k hk hn, (h1.lt ?_).2 k hk hn⟩⟩
 intro e; subst e; simp at hk
theorem In2.keep {lo hi : Nat} {w w' : World} {v : Value} {ls : List (List Int)} (h : In2 lo hi w v ls) (hk : ∀ b, lo ≤ b → b < hi → w'.heap[b]? = w.heap[b]?) : In2 lo hi w' v ls := by
 obtain ⟨ob, bk, h1, h2, h3⟩ := h
 exact ⟨ob, bk, h1.keep (fun hn => hk _ (h2 hn).1 (h2 hn).2) (fun k hlt hn => hk _ (h3 k hlt hn).1 (h3 k hlt hn).2), h2, h3⟩
theorem In2.f2 {lo hi : Nat} {w : World} {v : Value} {ls : List (List Int)} (h : In2 lo hi w v ls) : F2 lo w v ls := by
 obtain ⟨ob, bk, h1, h2, h3⟩ := h
 exact ⟨ob, bk, h1, fun hn => (h2 hn).1, fun k hk hn => (h3 k hk hn).1⟩
/-- v is a slice of the call's own (from block B on); design k lies in the blocks from L k on and below U k. -/
structure Out3 (B : Nat) (L U : Nat → Nat) (w : World) (v : Value) (vs : List Value) (ds : List (List (List Int))) : Prop where
 own : w.ownsRow B 26 1 v ds.length vs
 each : ∀ k, k < ds.length → ∃ rv, vs[k]? = some rv ∧ In2 (L k) (U k) w rv (getll ds k)
 apart : ∀ k, k < ds.length → B ≤ L k ∧ L k ≤ U k ∧ U k ≤ w.heap.size ∧ (∀ g, v.ownBlock = some g → g < L k ∨ U k ≤ g) ∧ ∀ j, j < k → U j ≤ L k
/-- The blocks in which the designs lie. -/
def T3 (L U : Nat → Nat) (v : Value) (n b : Nat) : Prop := v.ownBlock = some b ∨ ∃ k, k < n ∧ L k ≤ b ∧ b < U k
theorem Out3.keep {B : Nat} {L U : Nat → Nat} {w w' : World} {v : Value} {vs : List Value} {ds : List (List (List Int))} (h : Out3 B L U w v vs ds) (hz : w.heap.size ≤ w'.heap.size) (hk : ∀ b, T3 L U v ds.length b → w'.heap[b]? = w.heap[b]?) : Out3 B L U w' v vs ds := by
 refine ⟨⟨h.own.1, ?_⟩, fun k hlt => ?_, fun k hlt => ?_⟩
 ·rcases h.own.2 with h0 | ⟨g, cap, cur, rfl, h1, h2, h3⟩
  ·exact .inl h0
  ·exact .inr ⟨g, cap, cur, rfl, h1, by rw [hk g (.inl rfl)]; exact h2, h3⟩
 ·obtain ⟨rv, h1, h2⟩ := h.each k hlt
  exact ⟨rv, h1, h2.keep fun b hl hu => hk b (.inr ⟨k, hlt, hl, hu⟩)⟩
 ·obtain ⟨h1, h2, h3, h4⟩ := h.apart k hlt
  exact ⟨h1, h2, Nat.le_trans h3 hz, h4⟩
theorem Out3.lt {B : Nat} {L U : Nat → Nat} {w : World} {v : Value} {vs : List Value} {ds : List (List (List Int))} (h : Out3 B L U w v vs ds) {b : Nat} (hb : T3 L U v ds.length b) : B ≤ b ∧ b < w.heap.size := by
 rcases hb with hb | ⟨k, hk, hl, hu⟩
 ·exact h.own.lt b hb
 ·obtain ⟨h1, h2, h3, _⟩ := h.apart k hk
  exact ⟨by omega, by omega⟩
theorem Out3.form {B : Nat} {L U : Nat → Nat} {w : World} {v : Value} {vs : List Value} {ds : List (List (List Int))} (h : Out3 B L U w v vs ds) : ∃ a c, v = .slice a ds.length c ∧ ds.length ≤ c ∧ c ≤ maxLen := own_form h.own
theorem Out3.start (w : World) (B : Nat) (hb : B ≤ w.heap.size) : Out3 B (fun _ => 0) (fun _ => 0) (w.alloc (.cells #[] 26)) (.slice (some ⟨w.heap.size, 0, none⟩) 0 0) [] [] :=
 ⟨own_lit0 w B _ 1 hb, fun k hk => by simp at hk, fun k hk => by simp at hk⟩
theorem getll_app1 {ds : List (List (List Int))} {l : List (List Int)} {k : Nat} (h : k < ds.length) : getll (ds ++ [l]) k = getll ds k := by
 simp [getll, List.getElem?_append_left h]
theorem getll_app2 {ds : List (List (List Int))} {l : List (List Int)} : getll (ds ++ [l]) ds.length = l := by
 unfold getll; simp
/-- One design more. w: before its copy is made; w2: the copy is made; w1: it is appended. -/
theorem Out3.push {B : Nat} {L U : Nat → Nat} {w w2 w1 : World} {v v1 rv : Value} {vs : List Value} {ds : List (List (List Int))} {l : List (List Int)}
  (h : Out3 B L U w v vs ds) (hB : B ≤ w.heap.size) (hb : Below w.heap.size w w2) (hx : F2 w.heap.size w2 rv l)
  (hown : w1.ownsRow B 26 1 v1 (ds.length + 1) (vs ++ [rv])) (hg : w2.grownBy w1 v.ownBlock) (hblk : v1.ownBlock = v.ownBlock ∨ ∃ g, v1.ownBlock = some g ∧ w2.heap.size ≤ g) :
  Out3 B (fun k => if k < ds.length then L k else w.heap.size) (fun k => if k < ds.length then U k else w2.heap.size) w1 v1 (vs ++ [rv]) (ds ++ [l]) ∧
  (∀ b, T3 (fun k => if k < ds.length then L k else w.heap.size) (fun k => if k < ds.length then U k else w2.heap.size) v1 (ds ++ [l]).length b → T3 L U v ds.length b ∨ w.heap.size ≤ b) := by
 have hvl1 := h.own.1
 have hz := hb.size
 have hz1 := hg.size
 refine ⟨⟨by simpa using hown, fun k hk => ?_, fun k hk => ?_⟩, fun b hb' => ?_⟩
 ·by_cases hkl : k < ds.length
  ·obtain ⟨rv', h4, h5⟩ := h.each k hkl
   obtain ⟨a1, a2, a3, a4, a5⟩ := h.apart k hkl
   refine ⟨rv', by rw [List.getElem?_append_left (by omega)]; exact h4, ?_⟩
   rw [getll_app1 hkl]
   simp only [hkl, if_true]
   refine h5.keep fun b hl hu => ?_
   rw [hg.block b (by omega) (fun e => by have := a4 b e.symm; omega), hb.block b (by omega)]
  ·have e : k = ds.length := by simp at hk; omega
   subst e
   refine ⟨rv, by rw [List.getElem?_append_right (by omega)]; simp [show ds.length - vs.length = 0 by omega], ?_⟩
   rw [getll_app2]
   simp only [Nat.lt_irrefl, if_false]
   exact (In2.of_F2 hx).keep fun b hl hu => hg.block b hu (fun e => by have := (h.own.lt b e.symm).2; omega)
 ·by_cases hkl : k < ds.length
  ·simp only [hkl, if_true]
   obtain ⟨a1, a2, a3, a4, a5⟩ := h.apart k hkl
   refine ⟨a1, a2, by omega, fun g hgg => ?_, fun j hj => ?_⟩
   ·rcases hblk with e | ⟨g', e, hge⟩
    ·exact a4 g (e ▸ hgg)
    ·rw [hgg] at e; cases e; omega
   ·simp only [show j < ds.length by omega, if_true]; exact a5 j hj
  ·have e : k = ds.length := by simp at hk; omega
   subst e
   simp only [Nat.lt_irrefl, if_false]
   refine ⟨hB, hz, hz1, fun g hgg => ?_, fun j hj => ?_⟩
   ·rcases hblk with e | ⟨g', e, hge⟩
    ·have := (h.own.lt g (e ▸ hgg)).2; omega
    ·rw [hgg] at e; cases e; omega
   ·simp only [hj, if_true]; exact (h.apart j hj).2.2.1
 ·rcases hb' with hb' | ⟨k, hk, hl, hu⟩
  ·rcases hblk with e | ⟨g', e, hge⟩
   ·exact .inl (.inl (e ▸ hb'))
   ·rw [hb'] at e; cases e; right; omega
  ·by_cases hkl : k < ds.length
   ·simp only [hkl, if_true] at hl hu
    exact .inl (.inr ⟨k, hkl, hl, hu⟩)
   ·simp only [hkl, if_false] at hl
    exact .inr hl
theorem inf_intss : (Tryz.prog.info? 26).map (fun i => (i.zero, i.size, i.bytes)) = some (some (.slice none 0 0), 1, 24) := by kernel_rfl
/-- What is kept, and where. -/
def FdInv (B DB PB : Nat) (most : Int) (s : List (List (List Int))) (F : Nat → Prop) (w : World) : Prop :=
 ∃ dv vs L U, (∀ b, F b ↔ (b = DB ∨ b = PB) ∨ T3 L U dv s.length b) ∧ w.heap[DB]? = some (.cells #[dv] 73 (0, 0)) ∧ w.heap[PB]? = some (.cells #[.int .i64 most] 2 (0, 0)) ∧ Out3 B L U w dv vs s ∧
   ¬ T3 L U dv s.length DB ∧ ¬ T3 L U dv s.length PB ∧ DB ≠ PB ∧ B ≤ w.heap.size
theorem enters_fd : Enters 243 := fun args w => by kernel_rfl
theorem own_after {B LB : Nat} {wo w3 : World} {lv : Value} {n : Nat} {vs : List Value} {T E : TypeId} (h1 : wo.ownsRow B E 1 lv n vs) (hlv : wo.heap[LB]? = some (.cells #[lv] T (0, 0))) (hb : Below wo.heap.size wo w3) :
  w3.ownsRow B E 1 lv n vs ∧ w3.heap[LB]? = some (.cells #[lv] T (0, 0)) ∧ w3.cell? ⟨LB, 0, none⟩ = some lv ∧ w3.frozen? ⟨LB, 0, none⟩ = false := by
 have h3 := heap_below hlv hb (lt_of_heap hlv)
 exact ⟨own_chg h1 (Chg.of_below (F := fun _ => False) hb) (fun _ _ h => h), h3, cell_of_block h3 0, frozen_of_block h3 0⟩
set_option maxRecDepth 100000 in
set_option maxHeartbeats 2000000 in
theorem fd1_any {S : Nat → Prop} (v dv : Value) (design : List (List Int)) (s : List (List (List Int))) (vs : List Value) (L U : Nat → Nat) (B DB PB : Nat) (most : Int) (w : World) (hv : V2 S w v design)
  (hl : w.heap[DB]? = some (.cells #[dv] 73 (0, 0))) (hP : w.heap[PB]? = some (.cells #[.int .i64 most] 2 (0, 0))) (hO : Out3 B L U w dv vs s) (hD : ¬ T3 L U dv s.length DB) (hPn : ¬ T3 L U dv s.length PB) (hne : DB ≠ PB) (hB : B ≤ w.heap.size)
  (hd : design.length ≤ 1000) (hr : ∀ k, k < design.length → (getl design k).length ≤ 1000) (hsl : s.length ≤ 1000000) :
  Calls Tryz.prog 243 #[v, .pointer (some ⟨DB, 0, none⟩), .pointer (some ⟨PB, 0, none⟩)] w fun e w' => e = .returned (.bool (visK most s design).2) ∧ ∃ F', FdInv B DB PB most (visK most s design).1 F' w' ∧
   Chg (fun b => (b = DB ∨ b = PB) ∨ T3 L U dv s.length b) w w' ∧ ∀ b, F' b → ((b = DB ∨ b = PB) ∨ T3 L U dv s.length b) ∨ w.heap.size ≤ b := by
 obtain ⟨va, vc, rfl, hvm⟩ := hv.form
 obtain ⟨oa, oc, rfl, ho1, ho2⟩ := own_form hO.own
 have hcl := cell_of_block hl 0
 simp at hcl
 have hcP := cell_of_block hP 0
 simp at hcP
 have hdr : Below w.heap.size w w.drew := (Below.refl _ _).drew
 obtain ⟨i0, hi, hz0, hz1, hz2⟩ := info_parts inf_intss
 have hPlt := lt_of_cell hcP
 have hDlt := lt_of_cell hcl
 unfold visK
 obtain ⟨r, hrr⟩ : ∃ r, decide ((s.length : Int) + 1 < most) = r := ⟨_, rfl⟩
 rw [hrr]
 have HO := Lib.hid (And.intro hO (And.intro hD hPn)); clear hO hD hPn
 have Hl := Lib.hid (And.intro hl hP); clear hl hP
 have Hv := Lib.hid hv
 cases r
 all_goals
  go_enter Tryz.func243, Tryz.ntmps243
  go_wp2_with fail
  go_region_law (first | (go_simp; go_at_call 100; refine (copyLists_any _ design _ (hv.below hdr) hd hr).mono ?_; rintro e' w3 ⟨v3, rfl, hF3, hbc⟩; obtain ⟨a3, c3, rfl, hcc3⟩ := hF3.v2.form; have hb3 : Below w.heap.size w w3 := hdr.trans (hbc.mono (Nat.le_refl _)); obtain ⟨hown3, hh3, hcl3, hfl3⟩ := own_after HO.out.1.own Hl.out.1 hb3; have hz3 := lt_of_heap hh3; have hcl3a : ∀ o, (w3.alloc o).cell? ⟨DB, 0, none⟩ = some (.slice oa s.length oc) := (fun o => cell_keep hcl3 (Below.heap_alloc _ _ _ hz3)); (try dsimp only)) | (refine step_append_lies _ (by rfl) _ _ _ (by rfl) B 26 i0 _ 1 24 Tryz.underlying73 hi hz0 hz1 hz2 rfl (by omega) _ s.length _ (by rfl) (hown3.alloc _) ⟨_, 0, none⟩ 1 1 [.slice a3 design.length c3] (by rfl) (by rfl) (World.news_of_block (heap_alloc_new _ _)) (by simp [Value.oneCell']) (by omega) (by unfold maxLen; omega) (by omega) (by have := hb3.size; simp; omega) _ rfl ?_; intro gg cap w4 hown4 hgrow4 hat4 hlt4; obtain ⟨hh4, hcl4, hfl4⟩ := grown_alloc_at hh3 hgrow4 (fun e => HO.out.2.1 (.inl e))))
  all_goals
   have hz4 := hgrow4.size
   simp only [World.size_alloc] at hz4
   have hz3w := hb3.size
   have hb3a : Below w.heap.size w (w3.alloc (.cells #[.slice a3 design.length c3] 26)) := hb3.alloc hb3.size _
   have hF3a : F2 w.heap.size (w3.alloc (.cells #[.slice a3 design.length c3] 26)) (.slice a3 design.length c3) design := hF3.below ((Below.refl _ _).alloc (Nat.le_refl _) _)
   obtain ⟨hO4, hT4⟩ := HO.out.1.push hB hb3a hF3a hown4 hgrow4 (blk_or rfl hat4)
   have hPne : ¬ PB = DB := fun e => hne e.symm
   have hP4 : w4.heap[PB]? = some (.cells #[.int .i64 most] 2 (0, 0)) := (hgrow4.block PB (by simp; omega) (fun e => HO.out.2.2 (.inl e.symm))).trans ((hb3a.block PB hPlt).trans Hl.out.2)
   have hP5 : (w4.setCell ⟨DB, 0, none⟩ (.slice (some ⟨gg, 0, none⟩) (s.length + 1) cap)).heap[PB]? = some (.cells #[.int .i64 most] 2 (0, 0)) := (heap_setCell_other _ hPne).trans hP4
   have hcP5 := cell_of_block hP5 0
   simp at hcP5
   have hs4 := heap_setCell_self (off := 0) hh4 (.slice (some ⟨gg, 0, none⟩) (s.length + 1) cap)
   have hcl5 := cell_of_block hs4 0
   simp at hcl5
   have hD5 := fun hb => (hT4 DB hb).elim HO.out.2.1 (fun h => by omega)
   have hPn5 := fun hb => (hT4 PB hb).elim HO.out.2.2 (fun h => by omega)
   have hO5 := hO4.keep (w' := w4.setCell ⟨DB, 0, none⟩ (.slice (some ⟨gg, 0, none⟩) (s.length + 1) cap)) (by simp) (fun b hb => heap_setCell_other _ (fun e => hD5 (by have e2 : b = DB := e; rw [← e2]; exact hb)))
   have hch : Chg (fun b => (b = DB ∨ b = PB) ∨ T3 L U (.slice oa s.length oc) s.length b) w w4 := (Chg.of_below hb3a).grown hgrow4 (fun k hk => .inl (.inr (.inl hk)))
   have hch5 := hch.setCell (p := ⟨DB, 0, none⟩) (.inl (.inl (.inl rfl))) (.slice (some ⟨gg, 0, none⟩) (s.length + 1) cap)
   have H5 := Lib.hid (And.intro hs4 (And.intro hO5 (And.intro hD5 (And.intro hPn5 (And.intro hch5 (And.intro hT4 hP5)))))); clear hs4 hO5 hch5 hch hO4 hD5 hPn5 hT4 hP4 hP5 hF3 hF3a
   go_wp2_with fail
   go_ret
   refine ⟨rfl, _, ⟨_, _, _, _, fun b => Iff.rfl, H5.out.1, H5.out.2.2.2.2.2.2, H5.out.2.1, H5.out.2.2.1, H5.out.2.2.2.1, hne, by simp; omega⟩, H5.out.2.2.2.2.1, fun b hb => ?_⟩
   rcases hb with hb | hb
   ·exact .inl (.inl hb)
   ·rcases H5.out.2.2.2.2.2.1 b hb with h | h
    ·exact .inl (.inr h)
    ·exact .inr h
theorem fd_vis (B DB PB : Nat) (most : Int) (hm : most ≤ 1000000) {m : Mk} {t : List (List Int)} : VisG (fun s : List (List (List Int)) => (s.length : Int) < most) (DesOk m t) 243 #[.pointer (some ⟨DB, 0, none⟩), .pointer (some ⟨PB, 0, none⟩)] (visK most) (FdInv B DB PB most) := by
 refine ⟨enters_fd, ?_, ?_, ?_, ?_⟩
 ·rintro s F w w' ⟨dv, vs, L, U, h1, h2, h3, h4, h5, h6, h7, h8⟩ hz hk
  exact ⟨dv, vs, L, U, h1, by rw [hk DB ((h1 DB).2 (.inl (.inl rfl)))]; exact h2, by rw [hk PB ((h1 PB).2 (.inl (.inr rfl)))]; exact h3, h4.keep hz (fun b hb => hk b ((h1 b).2 (.inr hb))), h5, h6, h7, Nat.le_trans h8 hz⟩
 ·rintro s F w ⟨dv, vs, L, U, h1, h2, h3, h4, h5, h6, h7, h8⟩ b hb
  rcases (h1 b).1 hb with (rfl | rfl) | hb
  ·exact lt_of_heap h2
  ·exact lt_of_heap h3
  ·exact (h4.lt hb).2
 ·intro s design h1 h2
  have h3 : decide ((s.length : Int) + 1 < most) = true := h2
  have := of_decide_eq_true h3
  show ((s ++ [design]).length : Int) < most
  simp; omega
 ·rintro s F S w v design ⟨dv, vs, L, U, h1, h2, h3, h4, h5, h6, h7, h8⟩ hV hS hP hact
  have hfew := hP.few
  refine (fd1_any v dv design s vs L U B DB PB most w hV h2 h3 h4 h5 h6 h7 h8 (by omega) (fun k hk => by have := (hfew.2 k hk).1; omega) (by omega)).mono ?_
  rintro e w' ⟨rfl, F', g1, g2, g3⟩
  exact ⟨F', rfl, g1, g2.mono (fun b hb => (h1 b).2 hb), fun b hb => by
   rcases g3 b hb with h | h
   ·exact .inl ((h1 b).2 h)
   ·exact .inr h⟩
/-- What the search for the first designs returns. -/
def FdRes (m : Mk) (tv : Value) (limit : Nat) (B : Nat) (r : DSt) (e : Ending) (w' : World) : Prop :=
 ∃ dv XB vs L U fv, e = .returned (.tuple #[dv, .pointer (some ⟨XB, 0, none⟩)]) ∧ w'.heap[XB]? = some (.cells (goCells m tv limit r.1 r.2.1 fv) 103 (0, 0)) ∧ Out3 B L U w' dv vs r.2.2
set_option maxRecDepth 100000 in
set_option maxHeartbeats 1000000 in
theorem firstDesigns_any {S S' : Nat → Prop} (m : Mk) (u v : Value) (t cuts : List (List Int)) (most : Int) (limit : Nat) (W : World) (h : V2 S W u t) (hc : V2 S' W v cuts) (hcp : cuts = [] → PV v) (hok : PartOk m t cuts) (hop : falseL m.c.toNat t cuts = []) (hmo : most ≤ 1000000) (hlim : limit ≤ 4000) :
  Calls Tryz.prog 167 #[.agg #[.int .i64 m.c, .int .i64 m.d, .int .i64 m.s, .int .i64 m.e, .int .i64 m.l, u], v, .int .i64 most, .int .i64 (limit : Int)] W fun e w' => FdRes m u limit W.heap.size (firstF m.c.toNat t (keysOf m) cuts most limit) e w' ∧ Below W.heap.size W w' := by
 obtain ⟨a, c, rfl, hmx⟩ := h.form
 obtain ⟨a', c', rfl, hmx'⟩ := hc.form
 have hmk := Mk.ok_iff.1 hok.fits.ok
 have hfew := hok.few
 obtain ⟨WA, hWA⟩ : ∃ WA, WA = ((((W.alloc (.cells #[.int .i64 m.c, .int .i64 m.d, .int .i64 m.s, .int .i64 m.e, .int .i64 m.l, .slice a t.length c] 28)).alloc (.cells #[.int .i64 most] 2)).alloc (.cells #[] 26)).alloc (.cells #[.slice (some ⟨W.heap.size + 1 + 1, 0, none⟩) 0 0] 73)).alloc (.cells #[.int .i64 m.c, .int .i64 m.d, .int .i64 m.s, .int .i64 m.e, .int .i64 m.l, .slice a t.length c, .int .i64 (limit : Int), .int .i64 0, .bool false, .func (.func 243) #[] #[.pointer (some ⟨W.heap.size + 1 + 1 + 1, 0, none⟩), .pointer (some ⟨W.heap.size + 1, 0, none⟩)]] 103) := ⟨_, rfl⟩
 have hbA : Below W.heap.size W WA := by rw [hWA]; exact by (repeat (first | (with_reducible refine Below.setCell ?_ ?_ _) | (with_reducible refine Below.alloc ?_ ?_ _) | (with_reducible refine Below.drew ?_) | (with_reducible refine below_drewN ?_ _) | (with_reducible exact Below.refl _ _) | (with_reducible assumption) | (with_reducible refine Below.trans ?_ (Below.mono (by with_reducible assumption) ?_)) | go_size))
 have hzA : WA.heap.size = W.heap.size + 5 := by rw [hWA]; simp
 have hA1 : WA.heap[W.heap.size + 1]? = some (.cells #[.int .i64 most] 2 (0, 0)) := by rw [hWA]; simp only [heap_alloc_at, World.size_alloc]; (repeat rw [if_neg (by omega)]); simp
 have hA2 : WA.heap[W.heap.size + 1 + 1]? = some (.cells #[] 26 (0, 0)) := by rw [hWA]; simp only [heap_alloc_at, World.size_alloc]; (repeat rw [if_neg (by omega)]); simp
 have hA3 : WA.heap[W.heap.size + 1 + 1 + 1]? = some (.cells #[.slice (some ⟨W.heap.size + 1 + 1, 0, none⟩) 0 0] 73 (0, 0)) := by rw [hWA]; simp only [heap_alloc_at, World.size_alloc]; (repeat rw [if_neg (by omega)]); simp
 have hA4 : WA.heap[W.heap.size + 1 + 1 + 1 + 1]? = some (.cells (goCells m (.slice a t.length c) limit 0 false (.func (.func 243) #[] #[.pointer (some ⟨W.heap.size + 1 + 1 + 1, 0, none⟩), .pointer (some ⟨W.heap.size + 1, 0, none⟩)])) 103 (0, 0)) := by rw [hWA]; simp only [heap_alloc_at, World.size_alloc]; simp [goCells]
 have hT0 : ∀ b, T3 (fun _ => 0) (fun _ => 0) (.slice (some ⟨W.heap.size + 1 + 1, 0, none⟩) 0 0) 0 b → b = W.heap.size + 1 + 1 := fun b hb => by
  rcases hb with e | ⟨k, hk, _⟩
  ·simpa [Value.ownBlock] using e.symm
  ·omega
 have hO0 : Out3 W.heap.size (fun _ => 0) (fun _ => 0) WA (.slice (some ⟨W.heap.size + 1 + 1, 0, none⟩) 0 0) [] [] :=
  ⟨⟨rfl, .inr ⟨_, 0, #[], rfl, by omega, hA2, Nat.le_refl _, Nat.zero_le _, rfl, rfl⟩⟩, fun k hk => by simp at hk, fun k hk => by simp at hk⟩
 have hI : FdInv W.heap.size (W.heap.size + 1 + 1 + 1) (W.heap.size + 1) most [] (fun b => (b = W.heap.size + 1 + 1 + 1 ∨ b = W.heap.size + 1) ∨ T3 (fun _ => 0) (fun _ => 0) (.slice (some ⟨W.heap.size + 1 + 1, 0, none⟩) 0 0) 0 b) WA :=
  ⟨_, [], _, _, fun b => Iff.rfl, hA3, hA1, hO0, fun hb => by have := hT0 _ hb; omega, fun hb => by have := hT0 _ hb; omega, by omega, by omega⟩
 have cA1 : WA.cell? ⟨W.heap.size + 1, 0, none⟩ = some (.int .i64 most) := by rw [cell_of_block hA1]; rfl
 by_cases hmp : 0 < most
 ·have hfin : firstF m.c.toNat t (keysOf m) cuts most limit = (goF limit (stayP m.c.toNat t) (visK most) (keysOf m) (t.length - cuts.length) cuts (0, false, [])).1 := by unfold firstF; rw [if_pos hmp]
  rw [hfin]
  have hGs : Gs m (.slice a t.length c) limit (.func (.func 243) #[] #[.pointer (some ⟨W.heap.size + 1 + 1 + 1, 0, none⟩), .pointer (some ⟨W.heap.size + 1, 0, none⟩)]) (W.heap.size + 1 + 1 + 1 + 1) (FdInv W.heap.size (W.heap.size + 1 + 1 + 1) (W.heap.size + 1) most) (0, false, []) (fun b => (b = W.heap.size + 1 + 1 + 1 ∨ b = W.heap.size + 1) ∨ T3 (fun _ => 0) (fun _ => 0) (.slice (some ⟨W.heap.size + 1 + 1, 0, none⟩) 0 0) 0 b) WA := by
   refine ⟨hA4, hI, fun hb => ?_, fun b hb => ?_, ⟨Nat.zero_le _, hlim⟩⟩
   ·rcases hb with (e | e) | hb
    ·omega
    ·omega
    ·have := hT0 _ hb; omega
   ·rcases hb with (e | e) | hb
    ·omega
    ·omega
    ·have := hT0 _ hb; omega
  have hno : ∀ b, b < W.heap.size → ¬ GF (W.heap.size + 1 + 1 + 1 + 1) (fun b => (b = W.heap.size + 1 + 1 + 1 ∨ b = W.heap.size + 1) ∨ T3 (fun _ => 0) (fun _ => 0) (.slice (some ⟨W.heap.size + 1 + 1, 0, none⟩) 0 0) 0 b) b := fun b hb h => by
   rcases h with e | (e | e) | hb'
   ·omega
   ·omega
   ·omega
   ·have := hT0 _ hb'; omega
  have hgo := go_any (fd_vis W.heap.size (W.heap.size + 1 + 1 + 1) (W.heap.size + 1) most hmo (m := m) (t := t)) m t m.c.toNat (by omega) (fun ds h1 h2 h3 => ⟨h1, by omega⟩) limit (.slice a t.length c) (W.heap.size + 1 + 1 + 1 + 1) (t.length - cuts.length) cuts (.slice a' cuts.length c') (0, false, []) _ WA (by omega)
   ⟨hGs, h.old.mono (fun b h1 _ => hno b h1) (fun b _ h2 => hbA.block b h2), hc.old.mono (fun b h1 _ => hno b h1) (fun b _ h2 => hbA.block b h2), hcp, hok, hop, by show (([] : List (List (List Int))).length : Int) < most; simp; omega⟩
  obtain ⟨r, hr⟩ : ∃ r, goF limit (stayP m.c.toNat t) (visK most) (keysOf m) (t.length - cuts.length) cuts (0, false, []) = r := ⟨_, rfl⟩
  rw [hr] at hgo ⊢
  have hgr : decide (0 < most) = true := decide_eq_true hmp
  have HWA := Lib.hid (And.intro hWA (And.intro hgo (And.intro hbA (And.intro hT0 hr)))); clear hWA hgo hbA hO0 hI hGs hno hT0 hA1 hA2 hA3 hA4 hok hop hr
  go_enter Tryz.func167, Tryz.ntmps167
  go_wp2_with fail
  rw [← HWA.out.1]
  refine HWA.out.2.1.mono ?_
  rintro e' w' ⟨F', rfl, hG, hch, hsub⟩
  obtain ⟨dv, vs, L, U, f1, f2, f3, f4, f5, f6, f7, f8⟩ := hG.vi
  have hb' : Below W.heap.size W w' := HWA.out.2.2.1.trans (hch.to_below (B := W.heap.size) (fun b hb => by
   rcases hb with e | (e | e) | hb
   ·omega
   ·omega
   ·omega
   ·have := HWA.out.2.2.2.1 _ hb; omega) (by omega))
  have cD := cell_of_block f2 0
  simp at cD
  obtain ⟨da, dc, rfl, _, _⟩ := f4.form
  have HF := Lib.hid (And.intro hG.hh (And.intro f4 hb')); clear hG hch hsub f1 f2 f3 f4 f5 f6 hb'
  go_wp2_with fail
  go_ret2
  exact ⟨⟨_, _, _, _, _, _, rfl, HF.out.1, HF.out.2.1⟩, HF.out.2.2⟩
 ·have hfin : firstF m.c.toNat t (keysOf m) cuts most limit = (0, false, []) := by unfold firstF; rw [if_neg hmp]
  rw [hfin]
  have hgr : decide (0 < most) = false := decide_eq_false hmp
  have cD : WA.cell? ⟨W.heap.size + 1 + 1 + 1, 0, none⟩ = some (.slice (some ⟨W.heap.size + 1 + 1, 0, none⟩) 0 0) := by rw [cell_of_block hA3]; rfl
  have HWA := Lib.hid (And.intro hWA (And.intro hO0 (And.intro hA4 hbA))); clear hWA hO0 hA4 hbA hI hT0 hA1 hA2 hA3 hok hop hfin
  go_enter Tryz.func167, Tryz.ntmps167
  go_wp2_with fail
  rw [← HWA.out.1]
  go_wp2_with fail
  go_ret2
  exact ⟨⟨_, _, _, _, _, _, rfl, HWA.out.2.2.1, HWA.out.2.1⟩, HWA.out.2.2.2⟩
def RG (RB : Nat) (fv : Value) (b : Nat) : Prop := b = RB ∨ fv.ownBlock = some b
def sgCells (m : Mk) (tv fv : Value) (limit : Nat) (most : Int) (s : DSt) : Array Value := #[.int .i64 m.c, .int .i64 m.d, .int .i64 m.s, .int .i64 m.e, .int .i64 m.l, tv, .int .i64 (limit : Int), .int .i64 most, .int .i64 (s.1 : Int), .bool s.2.1, fv]
structure Sg (m : Mk) (tv : Value) (limit : Nat) (most : Int) (RB B : Nat) (s : DSt) (fv : Value) (w : World) : Prop where
 hh : w.heap[RB]? = some (.cells (sgCells m tv fv limit most s) 109 (0, 0))
 own : ∃ vs, w.ownsRow B 26 1 fv s.2.2.length vs ∧ ∀ k, k < s.2.2.length → ∃ rv, vs[k]? = some rv ∧ V2 (fun b => ¬ RG RB fv b) w rv (getll s.2.2 k)
 ne : fv.ownBlock ≠ some RB
 le : s.1 ≤ limit ∧ limit ≤ 4000
 lo : B ≤ w.heap.size
section
variable {m : Mk} {tv fv : Value} {limit : Nat} {most : Int} {RB B : Nat} {s : DSt} {w w' : World}
theorem Sg.below (h : Sg m tv limit most RB B s fv w) (hb : Below w.heap.size w w') : Sg m tv limit most RB B s fv w' := by
 obtain ⟨vs, h1, h2⟩ := h.own
 exact ⟨heap_below h.hh hb (lt_of_heap h.hh), ⟨vs, own_keep h1 hb, fun k hk => by obtain ⟨rv, g1, g2⟩ := h2 k hk; exact ⟨rv, g1, g2.below hb⟩⟩, h.ne, h.le, Nat.le_trans h.lo hb.size⟩
theorem Sg.lt (h : Sg m tv limit most RB B s fv w) {b : Nat} (hb : RG RB fv b) : b < w.heap.size := by
 rcases hb with rfl | hb
 ·exact lt_of_heap h.hh
 ·obtain ⟨vs, h1, _⟩ := h.own; exact (h1.lt _ hb).2
theorem Sg.cell (h : Sg m tv limit most RB B s fv w) (o : Nat) : w.cell? ⟨RB, o, none⟩ = (sgCells m tv fv limit most s)[o]? := by rw [cell_of_block h.hh]
theorem Sg.form (h : Sg m tv limit most RB B s fv w) : ∃ a c, fv = .slice a s.2.2.length c ∧ s.2.2.length ≤ c ∧ c ≤ maxLen := by
 obtain ⟨vs, h1, _⟩ := h.own; exact own_form h1
/-- A number or a mark in the state's own block. -/
theorem Sg.put {s' : DSt} {o : Nat} {v : Value} (h : Sg m tv limit most RB B s fv w) (hc : (sgCells m tv fv limit most s).setIfInBounds o v = sgCells m tv fv limit most s') (hs : s'.2.2 = s.2.2) (hle : s'.1 ≤ limit) : Sg m tv limit most RB B s' fv (w.setCell ⟨RB, o, none⟩ v) ∧ Chg (RG RB fv) w (w.setCell ⟨RB, o, none⟩ v) := by
 obtain ⟨vs, h1, h2⟩ := h.own
 have hC : Chg (fun b => b = RB) w (w.setCell ⟨RB, o, none⟩ v) := (Chg.refl (fun b => b = RB) _).setCell (p := ⟨RB, o, none⟩) (.inl rfl) _
 refine ⟨⟨by rw [heap_setCell_self h.hh]; rw [hc], ⟨vs, by rw [hs]; exact own_chg h1 hC (fun g hg e => h.ne (e ▸ hg)), fun k hk => ?_⟩, h.ne, ⟨hle, h.le.2⟩, by simpa using h.lo⟩, hC.mono (fun b hb => .inl hb)⟩
 obtain ⟨rv, g1, g2⟩ := h2 k (by rw [hs] at hk; exact hk)
 rw [hs]
 exact ⟨rv, g1, g2.mono (fun _ h _ => h) (hC.keep fun b hb e => hb (.inl e))⟩
end
/-- A design more. -/
theorem sg_push {S : Nat → Prop} {m : Mk} {tv fv v8 cv : Value} {limit : Nat} {most : Int} {RB B : Nat} {s : DSt} {cuts : List (List Int)} {wy w8 : World} {vs : List Value} (h : Sg m tv limit most RB B s fv wy) (hc : V2 (fun b => ¬ RG RB fv b) wy cv cuts)
  (hvs : wy.ownsRow B 26 1 fv s.2.2.length vs) (hvs2 : ∀ k, k < s.2.2.length → ∃ rv, vs[k]? = some rv ∧ V2 (fun b => ¬ RG RB fv b) wy rv (getll s.2.2 k))
  (hown8 : w8.ownsRow B 26 1 v8 (s.2.2.length + 1) (vs ++ [cv])) (hg : wy.grownBy w8 fv.ownBlock) (hblk : v8.ownBlock = fv.ownBlock ∨ ∃ g, v8.ownBlock = some g ∧ wy.heap.size ≤ g) :
  Sg m tv limit most RB B (s.1, s.2.1, s.2.2 ++ [cuts]) v8 (w8.setCell ⟨RB, 10, none⟩ v8) ∧ Chg (RG RB fv) wy (w8.setCell ⟨RB, 10, none⟩ v8) ∧ ∀ b, RG RB v8 b → RG RB fv b ∨ wy.heap.size ≤ b := by
 have hRl := lt_of_heap h.hh
 have hgR : v8.ownBlock ≠ some RB := fun e => by
  rcases hblk with e1 | ⟨g, e1, h1⟩
  ·exact h.ne (e1.symm.trans e)
  ·rw [e] at e1; cases e1; omega
 have hh8 : w8.heap[RB]? = some (.cells (sgCells m tv fv limit most s) 109 (0, 0)) := (hg.block RB hRl (fun e => h.ne e.symm)).trans h.hh
 have hC9 : Chg (fun b => b = RB) w8 (w8.setCell ⟨RB, 10, none⟩ v8) := (Chg.refl (fun b => b = RB) _).setCell (p := ⟨RB, 10, none⟩) (.inl rfl) _
 have hC : Chg (RG RB fv) wy (w8.setCell ⟨RB, 10, none⟩ v8) := ((Chg.refl _ wy).grown hg (fun k hk => .inl (.inr hk))).setCell (.inl (.inl rfl)) _
 have hsub : ∀ b, RG RB v8 b → RG RB fv b ∨ wy.heap.size ≤ b := fun b hb => by
  rcases hb with hb | hb
  ·exact .inl (.inl hb)
  ·rcases hblk with e1 | ⟨g, e1, h1⟩
   ·exact .inl (.inr (e1.symm.trans hb))
   ·rw [hb] at e1; cases e1; exact .inr h1
 have hV : ∀ {rv : Value} {ls : List (List Int)}, V2 (fun b => ¬ RG RB fv b) wy rv ls → V2 (fun b => ¬ RG RB v8 b) (w8.setCell ⟨RB, 10, none⟩ v8) rv ls := fun hv => hv.mono (fun b h1 h2 h3 => by
  rcases hsub b h3 with h4 | h4
  ·exact h1 h4
  ·omega) (hC.keep fun b h1 => h1)
 have hvl := hvs.1
 refine ⟨⟨?_, ⟨vs ++ [cv], by simpa using own_chg hown8 hC9 (fun g hg e => hgR (e ▸ hg)), fun k hk => ?_⟩, hgR, h.le, by have := hg.size; have := h.lo; simp; omega⟩, hC, hsub⟩
 ·rw [heap_setCell_self hh8]; simp [sgCells]
 ·by_cases hkl : k < s.2.2.length
  ·obtain ⟨rv, g1, g2⟩ := hvs2 k hkl
   exact ⟨rv, by rw [List.getElem?_append_left (by omega)]; exact g1, by show V2 _ _ rv (getll (s.2.2 ++ [cuts]) k); rw [getll_app1 hkl]; exact hV g2⟩
  ·have e : k = s.2.2.length := by simp at hk; omega
   subst e
   exact ⟨cv, by rw [List.getElem?_append_right (by omega)]; simp [show s.2.2.length - vs.length = 0 by omega], by show V2 _ _ cv (getll (s.2.2 ++ [cuts]) s.2.2.length); rw [getll_app2]; exact hV hc⟩
def SgPost (m : Mk) (tv : Value) (limit : Nat) (most : Int) (RB B : Nat) (fv : Value) (W : World) (r : DSt × Bool) (e : Ending) (w' : World) : Prop :=
 ∃ fv', e = .returned (.bool (!r.2)) ∧ Sg m tv limit most RB B r.1 fv' w' ∧ Chg (RG RB fv) W w' ∧ ∀ b, RG RB fv' b → RG RB fv b ∨ W.heap.size ≤ b
structure SgAsk (m : Mk) (t : List (List Int)) (tv : Value) (limit : Nat) (most : Int) (RB B : Nat) (cuts : List (List Int)) (cv : Value) (s : DSt) (fv : Value) (W : World) : Prop where
 sg : Sg m tv limit most RB B s fv W
 ht : V2 (fun b => ¬ RG RB fv b) W tv t
 hc : V2 (fun b => ¬ RG RB fv b) W cv cuts
 hp : cuts = [] → PV cv
 ok : PartOk m t cuts
 ac : (s.2.2.length : Int) < most
def FromG (m : Mk) (t : List (List Int)) (tv : Value) (limit : Nat) (most : Int) (RB B d n : Nat) : Prop :=
 ∀ (cuts : List (List Int)) (cv : Value) (s : DSt) (fv : Value) (W : World), cuts.length + d = t.length → SgAsk m t tv limit most RB B cuts cv s fv W →
   Calls Tryz.prog 105 #[.pointer (some ⟨RB, 0, none⟩), cv, .slice none 0 0] W (SgPost m tv limit most RB B fv W (goF limit (stayP n t) (visK most) (keysOf m) d cuts s))
theorem visK_still {most : Int} : ∀ (s : List (List (List Int))) (design : List (List Int)), (s.length : Int) < most → (visK most s design).2 = true → (((visK most s design).1.length : Nat) : Int) < most := fun s design h1 h2 => by
 have h3 : decide ((s.length : Int) + 1 < most) = true := h2
 have := of_decide_eq_true h3
 show ((s ++ [design]).length : Int) < most
 simp; omega
theorem toCome_nextG {m : Mk} {w : World} {kv : Value} {S : Nat → Prop} {L r : List (List Int)} (hc : 0 ≤ m.c) (h : (nextAns r).2 = true → V1 S w kv (nextAns r).1) (hL : keysOf m = L ++ r) : toCome m w kv (.bool (nextAns r).2) ≤ r.length := by
 cases r with
 | nil => rw [show (nextAns []).2 = false from rfl, toCome_last]; exact Nat.zero_le _
 | cons k r =>
   have h1 : V1 S w kv k := h rfl
   rw [show (nextAns (k :: r)).2 = true from rfl, toCome_more h1, keys_behind hc hL]
   exact Nat.le_refl _
theorem runL_stopat2 {σ α : Type} {f : σ → α → σ × Bool} {s st st' : σ} {L1 r : List α} {k : α} (h : runL f s L1 = (st, true)) (hk : f st k = (st', false)) : runL f s (L1 ++ k :: r) = (st', false) := by
 rw [runL_go f (by rw [h]), h]
 unfold runL
 rw [hk]; rfl
set_option maxRecDepth 100000 in
set_option maxHeartbeats 1000000 in
theorem l17End_any (m : Mk) (t : List (List Int)) (n : Nat) (hn : (n : Int) = m.c) (tv : Value) (limit : Nat) (most : Int) (hmo : most ≤ 1000000) (RB B : Nat) : FromG m t tv limit most RB B 0 n := by
 intro cuts cv s fv W hcd ask
 obtain ⟨hsg, ht, hc, hcp, hok, hac⟩ := ask
 obtain ⟨ta, tc, rfl, htm⟩ := ht.form
 obtain ⟨ca, cc, rfl, hcm⟩ := hc.form
 obtain ⟨fa, fc, rfl, hf1, hf2⟩ := hsg.form
 obtain ⟨vs, hvs, hvs2⟩ := hsg.own
 have e1 : ((cuts.length : Int) == (t.length : Int)) = true := by rw [beq_iff_eq]; omega
 have hx0 : ∀ o, W.cell? ⟨RB, o, none⟩ = (#[.int .i64 m.c, .int .i64 m.d, .int .i64 m.s, .int .i64 m.e, .int .i64 m.l, .slice ta t.length tc, .int .i64 (limit : Int), .int .i64 most, .int .i64 (s.1 : Int), .bool s.2.1, .slice fa s.2.2.length fc] : Array Value)[o]? := fun o => by rw [hsg.cell]; rfl
 have hRl := lt_of_heap hsg.hh
 have hne := hsg.ne
 have hlo := hsg.lo
 have hres : goF limit (stayP n t) (visK most) (keysOf m) 0 cuts s = ((s.1, s.2.1, s.2.2 ++ [cuts]), decide ((s.2.2.length : Int) + 1 < most)) := rfl
 rw [hres]
 obtain ⟨s1, s2, sl⟩ := s
 dsimp only at *
 obtain ⟨r, hr⟩ : ∃ r, decide ((sl.length : Int) + 1 < most) = r := ⟨_, rfl⟩
 rw [hr]
 have hr2 : decide (most ≤ (sl.length : Int) + 1) = !r := by rw [← hr]; by_cases h : (sl.length : Int) + 1 < most <;> simp [h] <;> omega
 have HS := Lib.hid (And.intro hsg (And.intro hc (And.intro hvs2 hr))); clear hsg hc hvs2 hr hres ht hok hcp
 go_enter Tryz.func105, Tryz.ntmps105
 go_wp2_with ((at_builtin; refine wp_app1 _ rfl _ _ 73 rfl B 26 (.slice none 0 0) 24 Tryz.underlying73 inf_intss rfl _ _ _ rfl hvs (.slice ca cuts.length cc) _ rfl rfl (by omega) (by omega) (by omega) ?_; intro v1 w1 hown1 hgrow1 hblk1 hB1); obtain ⟨gg, cap, rfl, hcap⟩ := own_some hown1 (by omega); have hh1 : w1.heap[RB]? = some (.cells (sgCells m (.slice ta t.length tc) (.slice fa sl.length fc) limit most (s1, s2, sl)) 109 (0, 0)) := (hgrow1.block RB hRl (fun e => hne e.symm)).trans HS.out.1.hh; have h1c : w1.cell? ⟨RB, 10, none⟩ = some (.slice fa sl.length fc) := (by rw [cell_of_block hh1]; rfl); have f1c := frozen_of_block hh1 10)
 obtain ⟨hP1, hP2, hP3⟩ := sg_push (S := fun _ => True) HS.out.1 HS.out.2.1 hvs HS.out.2.2.1 hown1 hgrow1 hblk1
 have hx9 : ∀ o, (w1.setCell ⟨RB, 10, none⟩ (.slice (some ⟨gg, 0, none⟩) (sl.length + 1) cap)).cell? ⟨RB, o, none⟩ = (#[.int .i64 m.c, .int .i64 m.d, .int .i64 m.s, .int .i64 m.e, .int .i64 m.l, .slice ta t.length tc, .int .i64 (limit : Int), .int .i64 most, .int .i64 (s1 : Int), .bool s2, .slice (some ⟨gg, 0, none⟩) (sl.length + 1) cap] : Array Value)[o]? := fun o => by rw [hP1.cell]; rfl
 obtain ⟨wz, hwz⟩ : ∃ wz, w1.setCell ⟨RB, 10, none⟩ (.slice (some ⟨gg, 0, none⟩) (sl.length + 1) cap) = wz := ⟨_, rfl⟩
 rw [hwz] at hP1 hP2 hx9 ⊢
 have HP := Lib.hid (And.intro hP1 (And.intro hP2 hP3)); clear hP1 hP2 hP3 hwz hh1 h1c f1c hx0 hown1 hgrow1 hblk1 hB1
 go_wp2_with fail
 go_region
 all_goals
  go_wp2_with fail
  go_ret
  exact ⟨_, rfl, HP.out.1.below ((Below.refl _ _).drew), HP.out.2.1.drew, HP.out.2.2⟩
theorem Fits.snoc {m : Mk} {t cuts : List (List Int)} {k : List Int} (h : Fits m t cuts) (hl : cuts.length < t.length) (hk : isKeyB m k = true) : Fits m t (cuts ++ [k]) := by
 have hkey : ∀ j, j < (cuts ++ [k]).length → isKeyB m (getl (cuts ++ [k]) j) = true := fun j hj => by
  by_cases e : j < cuts.length
  ·rw [getl_app1 e]; exact h.keys j e
  ·have e2 : j = cuts.length := by simp at hj; omega
   subst e2
   rw [getl_app2]; exact hk
 exact ⟨h.ok, h.rows, h.cols, h.doors, h.bits, by simp; omega, hkey, fun j hj => (isKey_iff.1 (hkey j hj)).1, fun j hj c hc => (isKey_iff.1 (hkey j hj)).2.1 _ (geti_mem hc)⟩
set_option maxRecDepth 100000 in
set_option maxHeartbeats 4000000 in
theorem l17From_any (m : Mk) (t : List (List Int)) (n : Nat) (hn : (n : Int) = m.c) (tv : Value) (limit : Nat) (most : Int) (hmo : most ≤ 1000000) (RB B : Nat) : ∀ d, FromG m t tv limit most RB B d n := by
 intro d
 induction d with
 | zero => exact l17End_any m t n hn tv limit most hmo RB B
 | succ d ih =>
   intro cuts cv s fv0 W hcd ask
   obtain ⟨hsg, ht, hc, hcp, hok, hac⟩ := ask
   have hok' := hok.fits.ok
   have hmk := Mk.ok_iff.1 hok'
   have hc0 : 0 ≤ m.c := by omega
   have hlt : cuts.length < t.length := by omega
   obtain ⟨ta, tc, rfl, htm⟩ := ht.form
   obtain ⟨ca, cc, rfl, hcm⟩ := hc.form
   have hkey : ∀ k, k ∈ keysOf m → isKeyB m k = true ∧ (k.length : Int) = m.c ∧ ∀ i, i < k.length → 0 ≤ geti k i ∧ geti k i ≤ 7 := fun k hk => by
    have h0 := (mem_keysOf hc0).1 hk
    have h1 := isKey_iff.1 h0
    refine ⟨h0, by omega, fun i hi => ?_⟩
    have := h1.2.1 _ (geti_mem hi)
    omega
   have e0 : ((cuts.length : Int) == (t.length : Int)) = false := by rw [beq_eq_false_iff_ne]; omega
   have hRl := lt_of_heap hsg.hh
   have htN := ht.mono (S' := fun b => ¬ RG RB fv0 b ∧ b < W.heap.size) (fun b h1 h2 => ⟨h1, h2⟩) (fun _ _ _ => rfl)
   have hcN := hc.mono (S' := fun b => ¬ RG RB fv0 b ∧ b < W.heap.size) (fun b h1 h2 => ⟨h1, h2⟩) (fun _ _ _ => rfl)
   obtain ⟨f, hf⟩ : ∃ f, f = goStep limit (stayP n t) (goF limit (stayP n t) (visK most) (keysOf m) d) cuts := ⟨_, rfl⟩
   obtain ⟨K, hK⟩ : ∃ K, K = keysOf m := ⟨_, rfl⟩
   obtain ⟨L0, hL0⟩ : ∃ L0 : List (List Int), L0 = [] := ⟨_, rfl⟩
   have hL0K : keysOf m = L0 ++ K := by rw [hL0, hK]; rfl
   have hgo : goF limit (stayP n t) (visK most) (keysOf m) (d + 1) cuts s = runL f s K := by rw [hf, hK]; rfl
   rw [hgo]
   have hx0 : ∀ o, W.cell? ⟨RB, o, none⟩ = (#[.int .i64 m.c, .int .i64 m.d, .int .i64 m.s, .int .i64 m.e, .int .i64 m.l, .slice ta t.length tc, .int .i64 (limit : Int), .int .i64 most, .int .i64 (s.1 : Int), .bool s.2.1, fv0] : Array Value)[o]? := fun o => by rw [hsg.cell]; rfl
   have hfirst := l02First_any m hok' m.c.toNat (fun _ => False) (.slice none 0 0) []
   rw [genB_nil, ← hK] at hfirst
   have hcc : ((m.c.toNat : Nat) : Int) = m.c := by omega
   have Hfirst := Lib.hid (And.intro hfirst hcc); clear hfirst hcc
   have Hkey := Lib.hid hkey; clear hkey
   have HL := Lib.hid hL0K; clear hL0K hL0 hK hgo
   have Hf := Lib.hid hf; clear hf
   have HA := Lib.hid (And.intro hsg (And.intro htN (And.intro hcN (And.intro hcp (And.intro hok (And.intro ih (And.intro hok' (And.intro hc0 (And.intro hlt hac))))))))); clear hsg htN hcN ht hc hcp hok ih hok' hc0 hmk hlt hac
   go_enter Tryz.func105, Tryz.ntmps105
   go_wp2_with fail
   refine (Hfirst.out.1 _ ⟨none, 0, rfl, Nat.le_refl _, Nat.zero_le _, fun k hk => by simp at hk⟩ (fun _ => .inl rfl) (by have := Hfirst.out.2; simp; omega) (fun k hk => by simp at hk)).mono ?_
   rintro e' wF ⟨kv, rfl, hkv, hbF⟩
   have hkv0 : (nextAns K).2 = true → V1 (fun b => ¬ RG RB fv0 b) wF kv (nextAns K).1 := fun hh => (hkv hh).mono (fun b h1 h2 hf => by
    have := HA.out.1.lt hf
    rcases h1 with h1 | h1
    ·exact h1.elim
    ·omega) (fun _ _ _ => rfl)
   have hzF := hbF.size
   have HI := Lib.hid (And.intro hkv0 (And.intro (HA.out.1.below hbF) hbF)); clear hkv0 hkv hbF hx0
   go_wp2_with fail
   go_loopw [7, 8, 9] (fun kv okv _ wr => ∃ (L1 L2 : List (List Int)) (st : DSt) (fv : Value), K = L1 ++ L2 ∧ runL f s L1 = (st, true) ∧ okv = .bool (nextAns L2).2 ∧ ((nextAns L2).2 = true → V1 (fun b => ¬ RG RB fv b) wr kv (nextAns L2).1) ∧ Sg m (.slice ta t.length tc) limit most RB B st fv wr ∧ Chg (RG RB fv0) W wr ∧ (∀ b, RG RB fv b → RG RB fv0 b ∨ W.heap.size ≤ b) ∧ (st.2.2.length : Int) < most) (fun kv okv _ wr => toCome m wr kv okv)
   case atStart => exact ⟨[], K, s, fv0, rfl, rfl, rfl, HI.out.1, HI.out.2.1, Chg.of_below HI.out.2.2, fun b hb => .inl hb, HA.out.2.2.2.2.2.2.2.2.2⟩
   case round =>
    obtain ⟨L1, L2, st, fv, hL, hrun, hokv, hkv, hsg, hch, hsub, hact⟩ := hrel
    have hzr := hch.size
    have hr := hsg.cell
    have hfin : ∀ q, runL f s (L1 ++ L2) = q → runL f s K = q := fun q h => by rw [hL, h]
    cases L2 with
    | nil =>
      rw [List.append_nil] at hfin
      have hokv' : _ = Value.bool false := hokv
      subst hokv'
      have hres := hfin _ hrun
      have HZ := Lib.hid (And.intro hres (And.intro hsg (And.intro hch hsub))); clear hres hsg hkv hch hrun hL hfin hr hsub
      go_wp2_with fail
      go_ret
      rw [HZ.out.1]
      exact ⟨fv, rfl, HZ.out.2.1, HZ.out.2.2.1, HZ.out.2.2.2⟩
    | cons k r =>
      have hokv' : _ = Value.bool true := hokv
      subst hokv'
      have hrun' : runL f s L1 = (st, true) := hrun
      have hk1 := hkv rfl
      have hk1' : V1 (fun b => ¬ RG RB fv b) wr _ k := hk1
      have hLk : keysOf m = (L0 ++ L1) ++ k :: r := by rw [HL.out, hL]; simp
      obtain ⟨hkk, hkc, hkr⟩ := Hkey.out k (by rw [hLk]; simp)
      have hbeh := keys_behind HA.out.2.2.2.2.2.2.2.1 hLk
      obtain ⟨ka, kc, rfl, hkm⟩ := hk1'.form
      obtain ⟨fa, fc, rfl, hf1, hf2⟩ := hsg.form
      obtain ⟨s1, s2, sl⟩ := st
      dsimp only at *
      have hx : ∀ o, wr.cell? ⟨RB, o, none⟩ = (#[.int .i64 m.c, .int .i64 m.d, .int .i64 m.s, .int .i64 m.e, .int .i64 m.l, .slice ta t.length tc, .int .i64 (limit : Int), .int .i64 most, .int .i64 (s1 : Int), .bool s2, .slice fa sl.length fc] : Array Value)[o]? := fun o => by rw [hr]; rfl
      have hLk' : keysOf m = (L0 ++ L1 ++ [k]) ++ r := by rw [hLk]; simp
      have hL' : K = (L1 ++ [k]) ++ r := by rw [hL]; simp
      have HK := Lib.hid (And.intro hk1' (And.intro hkc (And.intro hkr (And.intro hbeh (And.intro hLk' hL'))))); clear hkv hk1 hk1' hkc hkr hbeh hLk' hL' hLk
      have HC := Lib.hid (And.intro hch (And.intro hsub hact))
      have hok := HA.out.2.2.2.2.1
      have hle := hsg.le
      have fR8 := frozen_of_block hsg.hh 8
      have fR9 := frozen_of_block hsg.hh 9
      clear hr
      by_cases hA : s1 = limit
      ·have e1 : ((s1 : Int) == (limit : Int)) = true := by rw [beq_iff_eq]; omega
       have hst : f (s1, s2, sl) k = ((s1, true, sl), false) := by rw [Hf.out]; unfold goStep; rw [if_pos hA]
       have hres := hfin _ (runL_stopat2 hrun' hst)
       obtain ⟨hP1, hP2⟩ := hsg.put (s' := (s1, true, sl)) (o := 9) (v := .bool true) (by simp [sgCells]) rfl hle.1
       have hCs := (hch.trans hP2 (fun i hi => hsub i hi))
       have HZ := Lib.hid (And.intro hres (And.intro hP1 (And.intro hCs hsub))); clear hres hsg hch hrun hrun' hL hfin hsub hP1 hP2 hst hCs
       go_wp2_with fail
       go_region
       all_goals
        go_wp2_with fail
        go_ret
        rw [HZ.out.1]
        exact ⟨_, rfl, HZ.out.2.1.below ((Below.refl _ _).drew), HZ.out.2.2.1.drew, HZ.out.2.2.2⟩
      ·have e1 : ((s1 : Int) == (limit : Int)) = false := by rw [beq_eq_false_iff_ne]; omega
       obtain ⟨w5, hw5⟩ : ∃ w5, w5 = (wr.setCell ⟨RB, 8, none⟩ (.int .i64 ((s1 : Int) + 1))).drew := ⟨_, rfl⟩
       obtain ⟨hP1, hP2⟩ := hsg.put (s' := (s1 + 1, s2, sl)) (o := 8) (v := .int .i64 ((s1 : Int) + 1)) (by simp [sgCells]) rfl (by show s1 + 1 ≤ limit; have := hle.1; have h1 : s1 ≤ limit := this; omega)
       have hS5 : Sg m (.slice ta t.length tc) limit most RB B (s1 + 1, s2, sl) (.slice fa sl.length fc) w5 := by rw [hw5]; exact hP1.below ((Below.refl _ _).drew)
       have hC5 : Chg (RG RB (.slice fa sl.length fc)) wr w5 := by rw [hw5]; exact hP2.drew
       have hfar : ∀ b, (¬ RG RB fv0 b ∧ b < W.heap.size) → ¬ RG RB (.slice fa sl.length fc) b := fun b hb h => by
        rcases HC.out.2.1 b h with h | h
        ·exact hb.1 h
        ·omega
       have hkpr : Keep (fun b => ¬ RG RB fv0 b ∧ b < W.heap.size) W w5 := (HC.out.1.trans hC5 (fun i hi => HC.out.2.1 i hi)).keep fun b hb => hb.1
       have ht5 : V2 (fun b => ¬ RG RB (.slice fa sl.length fc) b) w5 (.slice ta t.length tc) t := HA.out.2.1.mono (fun b hb _ => hfar b hb) hkpr
       have hc5 : V2 (fun b => ¬ RG RB (.slice fa sl.length fc) b) w5 (.slice ca cuts.length cc) cuts := HA.out.2.2.1.mono (fun b hb _ => hfar b hb) hkpr
       have hk5 : V1 (fun b => ¬ RG RB (.slice fa sl.length fc) b) w5 (.slice ka k.length kc) k := HK.out.1.mono (fun _ h _ => h) (hC5.keep fun b h => h)
       have hx5 : ∀ o, w5.cell? ⟨RB, o, none⟩ = (#[.int .i64 m.c, .int .i64 m.d, .int .i64 m.s, .int .i64 m.e, .int .i64 m.l, .slice ta t.length tc, .int .i64 (limit : Int), .int .i64 most, .int .i64 ((s1 : Int) + 1), .bool s2, .slice fa sl.length fc] : Array Value)[o]? := fun o => by rw [hS5.cell]; rfl
       have hcl : cuts.length ≤ 1000000 := by have := hok.fits.rows; have := hok.few; omega
       have hz5 := hC5.size
       obtain ⟨sb, hsb⟩ : ∃ sb, stayP n t cuts k = sb := ⟨_, rfl⟩
       have hstep : f (s1, s2, sl) k = if sb = true then goF limit (stayP n t) (visK most) (keysOf m) d (cuts ++ [k]) (s1 + 1, s2, sl) else ((s1 + 1, s2, sl), true) := by
        rw [Hf.out]; unfold goStep; rw [if_neg hA, hsb]
       have hlt := HA.out.2.2.2.2.2.2.2.2.1
       have hmore := hok.more hlt hkk
       have Hrun := Lib.hid (And.intro hrun' (And.intro hfin hL))
       have HS := Lib.hid (And.intro hS5 (And.intro hC5 (And.intro ht5 (And.intro hstep (And.intro hsb hmore))))); clear hS5 hC5 ht5 hsg hP1 hP2 hfar hkpr hstep hsb hA hrun hrun' hfin hL hch hsub hmore hok
       go_wp2_with fail
       go_region
       all_goals
        go_wp2_with fail
        rw [← hw5]
        clear hx
        refine (l16With_any _ _ cuts k _ hc5 HA.out.2.2.2.1 hk5 hcl).mono ?_
        rintro e' w6 ⟨nv, nvs, rfl, hown, hrv, hb6⟩
        have hN := own_V2S hown hrv
        obtain ⟨na, nc, rfl, hnm⟩ := hN.form
        have hz6 := hb6.size
        have hRl5 := lt_of_heap HS.out.1.hh
        have hx6 : ∀ o, w6.cell? ⟨RB, o, none⟩ = (#[.int .i64 m.c, .int .i64 m.d, .int .i64 m.s, .int .i64 m.e, .int .i64 m.l, .slice ta t.length tc, .int .i64 (limit : Int), .int .i64 most, .int .i64 ((s1 : Int) + 1), .bool s2, .slice fa sl.length fc] : Array Value)[o]? := fun o => by rw [(bcell hb6).1 _ _ hRl5, hx5]
        have hnl : (cuts ++ [k]).length = cuts.length + 1 := by simp
        rw [hnl] at hN
        have hopn := l16Open_b m (.slice ta t.length tc) (.slice na (cuts.length + 1) nc) t (cuts ++ [k]) n w6 sb HS.out.2.2.2.2.1 HS.out.2.2.2.2.2.fits hn (HS.out.2.2.1.below hb6) hN
        have HN := Lib.hid (And.intro hopn (And.intro hN hb6)); clear hopn hN hb6 hnl hown hrv hc5 hk5 hx5
        go_wp2_with fail
        refine HN.out.1.mono ?_
        rintro e' w7 ⟨rfl, hb7⟩
        have hb57 := HN.out.2.2.trans (hb7.mono hz6)
        have hz7 := hb57.size
        have hSg7 := HS.out.1.below hb57
        have hRl6 : RB < w6.heap.size := by omega
        have hx7 : ∀ o, w7.cell? ⟨RB, o, none⟩ = (#[.int .i64 m.c, .int .i64 m.d, .int .i64 m.s, .int .i64 m.e, .int .i64 m.l, .slice ta t.length tc, .int .i64 (limit : Int), .int .i64 most, .int .i64 ((s1 : Int) + 1), .bool s2, .slice fa sl.length fc] : Array Value)[o]? := fun o => by rw [(bcell hb7).1 _ _ hRl6, hx6]
        have hCz := HS.out.2.1.then_below hb57
        clear hx6
        cases sb
        ·have hst : f (s1, s2, sl) k = ((s1 + 1, s2, sl), true) := by rw [HS.out.2.2.2.1]; rfl
         have hrun' := Hrun.out.1
         have hSub : ∀ b, RG RB (.slice fa sl.length fc) b → RG RB (.slice fa sl.length fc) b ∨ wr.heap.size ≤ b := fun b hb => .inl hb
         have Hb := Lib.hid hb57; clear hb57 hb7
         have hkz : V1 (fun b => ¬ RG RB (.slice fa sl.length fc) b) w7 (.slice ka k.length kc) k := HK.out.1.mono (fun b h1 h2 h3 => by
          rcases hSub b h3 with h | h
          ·exact h1 h
          ·omega) (hCz.keep fun b h => h)
         have hrz := hSg7.cell
         obtain ⟨z1, z2, zl, hz⟩ : ∃ z1 z2 zl, (s1 + 1, s2, sl) = ((z1, z2, zl) : DSt) := ⟨_, _, _, rfl⟩
         have hxz : ∀ o, w7.cell? ⟨RB, o, none⟩ = (#[.int .i64 m.c, .int .i64 m.d, .int .i64 m.s, .int .i64 m.e, .int .i64 m.l, .slice ta t.length tc, .int .i64 (limit : Int), .int .i64 most, .int .i64 (z1 : Int), .bool z2, (.slice fa sl.length fc)] : Array Value)[o]? := fun o => by rw [hrz, hz]; rfl
         have hzz := hCz.size
         have hrn : runL f s (L1 ++ [k]) = ((s1 + 1, s2, sl), true) := by rw [runL_go f (by rw [hrun']), hrun', runL_one, hst]
         have hacz : (((s1 + 1, s2, sl) : DSt).2.2.length : Int) < most := HC.out.2.2
         have HZ := Lib.hid (And.intro hSg7 (And.intro hCz (And.intro hSub (And.intro hrn hacz)))); clear hrn hrz hz hacz hSg7 hCz hSub hst hrun' hx7
         go_wp2_with fail
         refine (l02Next_any m HA.out.2.2.2.2.2.2.1 _ k _ hkz HK.out.2.1 HK.out.2.2.1).mono ?_
         rintro e' wM ⟨kv', he', hkv', hbM⟩
         rw [HK.out.2.2.2.1] at he' hkv'
         subst he'
         have hkv2 : (nextAns r).2 = true → V1 (fun b => ¬ RG RB (.slice fa sl.length fc) b) wM kv' (nextAns r).1 := fun hh => (hkv' hh).mono (fun b h1 h2 hf => by
          have := HZ.out.1.lt hf
          rcases h1 with h1 | h1
          ·exact h1.elim
          ·omega) (fun _ _ _ => rfl)
         have HM := Lib.hid (And.intro hkv2 (And.intro (toCome_nextG HA.out.2.2.2.2.2.2.2.1 hkv2 HK.out.2.2.2.2.1) (toCome_more (m := m) HK.out.1))); clear hkv' hkv2 hxz
         obtain ⟨qb, hqb⟩ : ∃ qb, (nextAns r).2 = qb := ⟨_, rfl⟩
         rw [hqb]
         have Hqb := Lib.hid hqb; clear hqb
         go_wp2_with fail
         go_roundw
         case rel => exact ⟨L1 ++ [k], r, (s1 + 1, s2, sl), (.slice fa sl.length fc), HK.out.2.2.2.2.2, HZ.out.2.2.2.1, by rw [Hqb.out], HM.out.1, HZ.out.1.below hbM, (HC.out.1.trans HZ.out.2.1 (fun i hi => HC.out.2.1 i hi)).then_below hbM, fun b hb => by
          rcases HZ.out.2.2.1 b hb with h | h
          ·exact HC.out.2.1 b h
          ·right; omega, HZ.out.2.2.2.2⟩
         case measure => rw [HM.out.2.2, HK.out.2.2.2.1]; have := HM.out.2.1; rw [Hqb.out] at this; omega
        ·have hst : f (s1, s2, sl) k = goF limit (stayP n t) (visK most) (keysOf m) d (cuts ++ [k]) (s1 + 1, s2, sl) := by rw [HS.out.2.2.2.1]; rfl
         have hact2 : (goF limit (stayP n t) (visK most) (keysOf m) d (cuts ++ [k]) (s1 + 1, s2, sl)).2 = true → ((goF limit (stayP n t) (visK most) (keysOf m) d (cuts ++ [k]) (s1 + 1, s2, sl)).1.2.2.length : Int) < most := fun h => goF_act (act := fun l : List (List (List Int)) => (l.length : Int) < most) visK_still (s := (s1 + 1, s2, sl)) HC.out.2.2 h
         have IHr := HA.out.2.2.2.2.2.1 (cuts ++ [k]) (.slice na (cuts.length + 1) nc) (s1 + 1, s2, sl) (.slice fa sl.length fc) w7 (by simp; omega)
          ⟨hSg7, (HS.out.2.2.1.below hb57), (HN.out.2.1.below hb7).mono (fun b hb hlt hf => by
            have h1 := HS.out.1.lt hf
            rcases hb with (hb | hb) | hb
            ·exact hb hf
            ·exact hb hf
            ·omega) (fun _ _ _ => rfl), fun e => by simp at e, HS.out.2.2.2.2.2, HC.out.2.2⟩
         obtain ⟨rr, hrr⟩ : ∃ q, goF limit (stayP n t) (visK most) (keysOf m) d (cuts ++ [k]) (s1 + 1, s2, sl) = q := ⟨_, rfl⟩
         rw [hrr] at IHr hst hact2
         obtain ⟨rs, rb⟩ := rr
         have HIr := Lib.hid (And.intro IHr (And.intro hst (And.intro hact2 (And.intro hCz hb57)))); clear IHr hst hact2 hrr hCz hSg7 hb57 hb7
         cases rb
         ·go_wp2_with fail
          refine HIr.out.1.mono ?_
          rintro e' wq ⟨fv2, rfl, h1, h2, h3⟩
          have hCq := HC.out.1.trans (HIr.out.2.2.2.1.trans h2 (fun i hi => .inl hi)) (fun i hi => HC.out.2.1 i hi)
          have hSq : ∀ b, RG RB fv2 b → RG RB fv0 b ∨ W.heap.size ≤ b := fun b hb => by
           rcases h3 b hb with h | h
           ·exact HC.out.2.1 b h
           ·right; omega
          have hres := Hrun.out.2.1 _ (runL_stopat2 Hrun.out.1 HIr.out.2.1)
          have HZ := Lib.hid (And.intro h1 (And.intro hCq (And.intro hSq hres))); clear h1 h2 h3 hCq hSq hres hx7
          go_wp2_with fail
          go_ret
          rw [HZ.out.2.2.2]
          exact ⟨fv2, rfl, HZ.out.1, HZ.out.2.1, HZ.out.2.2.1⟩
         ·go_wp2_with fail
          refine HIr.out.1.mono ?_
          rintro e' wq ⟨fv2, rfl, h1, h2, h3⟩
          have hCq := HIr.out.2.2.2.1.trans h2 (fun i hi => .inl hi)
          have hSq : ∀ b, RG RB fv2 b → RG RB (.slice fa sl.length fc) b ∨ wr.heap.size ≤ b := fun b hb => by
           rcases h3 b hb with h | h
           ·exact .inl h
           ·right; omega
          have hrun' := Hrun.out.1
          have hst := HIr.out.2.1
          have hkz : V1 (fun b => ¬ RG RB fv2 b) wq (.slice ka k.length kc) k := HK.out.1.mono (fun b h1 h2 h3 => by
           rcases hSq b h3 with h | h
           ·exact h1 h
           ·omega) (hCq.keep fun b h => h)
          have hrz := h1.cell
          obtain ⟨z1, z2, zl, hz⟩ : ∃ z1 z2 zl, rs = ((z1, z2, zl) : DSt) := ⟨_, _, _, rfl⟩
          have hxz : ∀ o, wq.cell? ⟨RB, o, none⟩ = (#[.int .i64 m.c, .int .i64 m.d, .int .i64 m.s, .int .i64 m.e, .int .i64 m.l, .slice ta t.length tc, .int .i64 (limit : Int), .int .i64 most, .int .i64 (z1 : Int), .bool z2, fv2] : Array Value)[o]? := fun o => by rw [hrz, hz]; rfl
          have hzz := hCq.size
          have hrn : runL f s (L1 ++ [k]) = (rs, true) := by rw [runL_go f (by rw [hrun']), hrun', runL_one, hst]
          have hacz : ((rs : DSt).2.2.length : Int) < most := (HIr.out.2.2.1 trivial)
          have HZ := Lib.hid (And.intro h1 (And.intro hCq (And.intro hSq (And.intro hrn hacz)))); clear hrn hrz hz hacz h1 h2 h3 hCq hSq hst hrun' hx7
          go_wp2_with fail
          refine (l02Next_any m HA.out.2.2.2.2.2.2.1 _ k _ hkz HK.out.2.1 HK.out.2.2.1).mono ?_
          rintro e' wM ⟨kv', he', hkv', hbM⟩
          rw [HK.out.2.2.2.1] at he' hkv'
          subst he'
          have hkv2 : (nextAns r).2 = true → V1 (fun b => ¬ RG RB fv2 b) wM kv' (nextAns r).1 := fun hh => (hkv' hh).mono (fun b h1 h2 hf => by
           have := HZ.out.1.lt hf
           rcases h1 with h1 | h1
           ·exact h1.elim
           ·omega) (fun _ _ _ => rfl)
          have HM := Lib.hid (And.intro hkv2 (And.intro (toCome_nextG HA.out.2.2.2.2.2.2.2.1 hkv2 HK.out.2.2.2.2.1) (toCome_more (m := m) HK.out.1))); clear hkv' hkv2 hxz
          obtain ⟨qb, hqb⟩ : ∃ qb, (nextAns r).2 = qb := ⟨_, rfl⟩
          rw [hqb]
          have Hqb := Lib.hid hqb; clear hqb
          go_wp2_with fail
          go_roundw
          case rel => exact ⟨L1 ++ [k], r, rs, fv2, HK.out.2.2.2.2.2, HZ.out.2.2.2.1, by rw [Hqb.out], HM.out.1, HZ.out.1.below hbM, (HC.out.1.trans HZ.out.2.1 (fun i hi => HC.out.2.1 i hi)).then_below hbM, fun b hb => by
           rcases HZ.out.2.2.1 b hb with h | h
           ·exact HC.out.2.1 b h
           ·right; omega, HZ.out.2.2.2.2⟩
          case measure => rw [HM.out.2.2, HK.out.2.2.2.1]; have := HM.out.2.1; rw [Hqb.out] at this; omega
end Go.Proofs.YtmaefilliggjiaaGreat
