/- The reference's search for designs. No conditions. -/
import Derived.OwnWalk
import Derived.Test.YtmjplkbmhdkggaaGreatMDraw14
import Derived.Test.YtmjplkbmhdkggaaGreatMClone2
import Derived.Test.YtmjplkbmhdkggaaGreatMNext
namespace Go.Proofs.YtmjplkbmhdkggaaGreat
open Go.RowKit
set_option linter.unusedVariables false
set_option linter.unusedSimpArgs false
def RG (RB : Nat) (fv : Value) (b : Nat) : Prop := b = RB ∨ fv.ownBlock = some b
def sgCells (m : Mk) (tv fv : Value) (limit : Nat) (most : Int) (s : DSt) : Array Value := #[.int .i64 m.c, .int .i64 m.d, .int .i64 m.s, .int .i64 m.e, .int .i64 m.l, tv, .int .i64 (limit : Int), .int .i64 most, .int .i64 (s.1 : Int), .bool s.2.1, fv]
structure Sg (m : Mk) (tv : Value) (limit : Nat) (most : Int) (RB B : Nat) (s : DSt) (fv : Value) (w : World) : Prop where
 hh : w.heap[RB]? = some (.cells (sgCells m tv fv limit most s) 199 (0, 0))
 own : ∃ vs, w.ownsRow B 24 1 fv s.2.2.length vs ∧ ∀ k, k < s.2.2.length → ∃ rv, vs[k]? = some rv ∧ V2 (fun b => ¬ RG RB fv b) w rv (getll s.2.2 k)
 ne : fv.ownBlock ≠ some RB
 le : s.1 ≤ limit ∧ limit ≤ 4000
 lo : B ≤ w.heap.size
section
variable {m : Mk} {tv fv : Value} {limit : Nat} {most : Int} {RB B : Nat} {s : DSt} {w w' : World}
theorem Sg.below (h : Sg m tv limit most RB B s fv w) (hb : Below w.heap.size w w') : Sg m tv limit most RB B s fv w' := by
 obtain ⟨vs, h1, h2⟩ := h.own
 exact ⟨heap_below h.hh hb (lt_of_heap h.hh), ⟨vs, own_keep h1 hb, fun k hk => by obtain ⟨rv, g1, g2⟩ := h2 k hk; exact ⟨rv, g1, g2.below hb⟩⟩, h.ne, h.le, Nat.le_trans h.lo hb.size⟩
theorem Sg.lt (h : Sg m tv limit most RB B s fv w) {b : Nat} (hb : RG RB fv b) : b < w.heap.size := by
 rcases hb with rfl | hb
 ·exact lt_of_heap h.hh
 ·obtain ⟨vs, h1, _⟩ := h.own; exact (h1.lt _ hb).2
theorem Sg.cell (h : Sg m tv limit most RB B s fv w) (o : Nat) : w.cell? ⟨RB, o, none⟩ = (sgCells m tv fv limit most s)[o]? := by rw [cell_of_block h.hh]
theorem Sg.form (h : Sg m tv limit most RB B s fv w) : ∃ a c, fv = .slice a s.2.2.length c ∧ s.2.2.length ≤ c ∧ c ≤ maxLen := by
 obtain ⟨vs, h1, _⟩ := h.own; exact own_form h1
/-- A number or a mark in the state's own block. -/
theorem Sg.put {s' : DSt} {o : Nat} {v : Value} (h : Sg m tv limit most RB B s fv w) (hc : (sgCells m tv fv limit most s).setIfInBounds o v = sgCells m tv fv limit most s') (hs : s'.2.2 = s.2.2) (hle : s'.1 ≤ limit) : Sg m tv limit most RB B s' fv (w.setCell ⟨RB, o, none⟩ v) ∧ Chg (RG RB fv) w (w.setCell ⟨RB, o, none⟩ v) := by
 obtain ⟨vs, h1, h2⟩ := h.own
 have hC : Chg (fun b => b = RB) w (w.setCell ⟨RB, o, none⟩ v) := (Chg.refl (fun b => b = RB) _).setCell (p := ⟨RB, o, none⟩) (.inl rfl) _
 refine ⟨⟨by rw [heap_setCell_self h.hh]; rw [hc], ⟨vs, by rw [hs]; exact own_chg h1 hC (fun g hg e => h.ne (e ▸ hg)), fun k hk => ?_⟩, h.ne, ⟨hle, h.le.2⟩, by simpa using h.lo⟩, hC.mono (fun b hb => .inl hb)⟩
 obtain ⟨rv, g1, g2⟩ := h2 k (by rw [hs] at hk; exact hk)
 rw [hs]
 exact ⟨rv, g1, g2.mono (fun _ h _ => h) (hC.keep fun b hb e => hb (.inl e))⟩
end
/-- A design more. -/
theorem sg_push {S : Nat → Prop} {m : Mk} {tv fv v8 cv : Value} {limit : Nat} {most : Int} {RB B : Nat} {s : DSt} {cuts : List (List Int)} {wy w8 : World} {vs : List Value} (h : Sg m tv limit most RB B s fv wy) (hc : V2 (fun b => ¬ RG RB fv b) wy cv cuts)
  (hvs : wy.ownsRow B 24 1 fv s.2.2.length vs) (hvs2 : ∀ k, k < s.2.2.length → ∃ rv, vs[k]? = some rv ∧ V2 (fun b => ¬ RG RB fv b) wy rv (getll s.2.2 k))
  (hown8 : w8.ownsRow B 24 1 v8 (s.2.2.length + 1) (vs ++ [cv])) (hg : wy.grownBy w8 fv.ownBlock) (hblk : v8.ownBlock = fv.ownBlock ∨ ∃ g, v8.ownBlock = some g ∧ wy.heap.size ≤ g) :
  Sg m tv limit most RB B (s.1, s.2.1, s.2.2 ++ [cuts]) v8 (w8.setCell ⟨RB, 10, none⟩ v8) ∧ Chg (RG RB fv) wy (w8.setCell ⟨RB, 10, none⟩ v8) ∧ ∀ b, RG RB v8 b → RG RB fv b ∨ wy.heap.size ≤ b := by
 have hRl := lt_of_heap h.hh
 have hgR : v8.ownBlock ≠ some RB := fun e => by
  rcases hblk with e1 | ⟨g, e1, h1⟩
  ·exact h.ne (e1.symm.trans e)
  ·rw [e] at e1; cases e1; omega
 have hh8 : w8.heap[RB]? = some (.cells (sgCells m tv fv limit most s) 199 (0, 0)) := (hg.block RB hRl (fun e => h.ne e.symm)).trans h.hh
 have hC9 : Chg (fun b => b = RB) w8 (w8.setCell ⟨RB, 10, none⟩ v8) := (Chg.refl (fun b => b = RB) _).setCell (p := ⟨RB, 10, none⟩) (.inl rfl) _
 have hC : Chg (RG RB fv) wy (w8.setCell ⟨RB, 10, none⟩ v8) := ((Chg.refl _ wy).grown hg (fun k hk => .inl (.inr hk))).setCell (.inl (.inl rfl)) _
 have hsub : ∀ b, RG RB v8 b → RG RB fv b ∨ wy.heap.size ≤ b := fun b hb => by
  rcases hb with hb | hb
  ·exact .inl (.inl hb)
  ·rcases hblk with e1 | ⟨g, e1, h1⟩
   ·exact .inl (.inr (e1.symm.trans hb))
   ·rw [hb] at e1; cases e1; exact .inr h1
 have hV : ∀ {rv : Value} {ls : List (List Int)}, V2 (fun b => ¬ RG RB fv b) wy rv ls → V2 (fun b => ¬ RG RB v8 b) (w8.setCell ⟨RB, 10, none⟩ v8) rv ls := fun hv => hv.mono (fun b h1 h2 h3 => by
  rcases hsub b h3 with h4 | h4
  ·exact h1 h4
  ·omega) (hC.keep fun b h1 => h1)
 have hvl := hvs.1
 refine ⟨⟨?_, ⟨vs ++ [cv], by simpa using own_chg hown8 hC9 (fun g hg e => hgR (e ▸ hg)), fun k hk => ?_⟩, hgR, h.le, by have := hg.size; have := h.lo; simp; omega⟩, hC, hsub⟩
 ·rw [heap_setCell_self hh8]; simp [sgCells]
 ·by_cases hkl : k < s.2.2.length
  ·obtain ⟨rv, g1, g2⟩ := hvs2 k hkl
   exact ⟨rv, by rw [List.getElem?_append_left (by omega)]; exact g1, by show V2 _ _ rv (getll (s.2.2 ++ [cuts]) k); rw [getll_app1 hkl]; exact hV g2⟩
  ·have e : k = s.2.2.length := by simp at hk; omega
   subst e
   exact ⟨cv, by rw [List.getElem?_append_right (by omega)]; simp [show s.2.2.length - vs.length = 0 by omega], by show V2 _ _ cv (getll (s.2.2 ++ [cuts]) s.2.2.length); rw [getll_app2]; exact hV hc⟩
def SgPost (m : Mk) (tv : Value) (limit : Nat) (most : Int) (RB B : Nat) (fv : Value) (W : World) (r : DSt × Bool) (e : Ending) (w' : World) : Prop :=
 ∃ fv', e = .returned (.bool (!r.2)) ∧ Sg m tv limit most RB B r.1 fv' w' ∧ Chg (RG RB fv) W w' ∧ ∀ b, RG RB fv' b → RG RB fv b ∨ W.heap.size ≤ b
structure SgAsk (m : Mk) (t : List (List Int)) (tv : Value) (limit : Nat) (most : Int) (RB B : Nat) (cuts : List (List Int)) (cv : Value) (s : DSt) (fv : Value) (W : World) : Prop where
 sg : Sg m tv limit most RB B s fv W
 ht : V2 (fun b => ¬ RG RB fv b) W tv t
 hc : V2 (fun b => ¬ RG RB fv b) W cv cuts
 hp : cuts = [] → PV cv
 ok : PartOk m t cuts
 ac : (s.2.2.length : Int) < most
def FromG (m : Mk) (t : List (List Int)) (tv : Value) (limit : Nat) (most : Int) (RB B d n : Nat) : Prop :=
 ∀ (cuts : List (List Int)) (cv : Value) (s : DSt) (fv : Value) (W : World), cuts.length + d = t.length → SgAsk m t tv limit most RB B cuts cv s fv W →
   Calls Tryz.prog 219 #[.pointer (some ⟨RB, 0, none⟩), cv, .slice none 0 0] W (SgPost m tv limit most RB B fv W (goF limit (stayP n t) (visK most) (keysOf m) d cuts s))
theorem visK_still {most : Int} : ∀ (s : List (List (List Int))) (design : List (List Int)), (s.length : Int) < most → (visK most s design).2 = true → (((visK most s design).1.length : Nat) : Int) < most := fun s design h1 h2 => by
 have h3 : decide ((s.length : Int) + 1 < most) = true := h2
 have := of_decide_eq_true h3
 show ((s ++ [design]).length : Int) < most
 simp; omega
theorem toCome_nextG {m : Mk} {w : World} {kv : Value} {S : Nat → Prop} {L r : List (List Int)} (hc : 0 ≤ m.c) (h : (nextAns r).2 = true → V1 S w kv (nextAns r).1) (hL : keysOf m = L ++ r) : toCome m w kv (.bool (nextAns r).2) ≤ r.length := by
 cases r with
 | nil => rw [show (nextAns []).2 = false from rfl, toCome_last]; exact Nat.zero_le _
 | cons k r =>
   have h1 : V1 S w kv k := h rfl
   rw [show (nextAns (k :: r)).2 = true from rfl, toCome_more h1, keys_behind hc hL]
   exact Nat.le_refl _
theorem runL_stopat2 {σ α : Type} {f : σ → α → σ × Bool} {s st st' : σ} {L1 r : List α} {k : α} (h : runL f s L1 = (st, true)) (hk : f st k = (st', false)) : runL f s (L1 ++ k :: r) = (st', false) := by
 rw [runL_go f (by rw [h]), h]
 unfold runL
 rw [hk]; rfl
set_option maxRecDepth 100000 in
set_option maxHeartbeats 1000000 in
theorem l17End_any (m : Mk) (t : List (List Int)) (n : Nat) (hn : (n : Int) = m.c) (tv : Value) (limit : Nat) (most : Int) (hmo : most ≤ 1000000) (RB B : Nat) : FromG m t tv limit most RB B 0 n := by
 intro cuts cv s fv W hcd ask
 obtain ⟨hsg, ht, hc, hcp, hok, hac⟩ := ask
 obtain ⟨ta, tc, rfl, htm⟩ := ht.form
 obtain ⟨ca, cc, rfl, hcm⟩ := hc.form
 obtain ⟨fa, fc, rfl, hf1, hf2⟩ := hsg.form
 obtain ⟨vs, hvs, hvs2⟩ := hsg.own
 have e1 : ((cuts.length : Int) == (t.length : Int)) = true := by rw [beq_iff_eq]; omega
 have hx0 : ∀ o, W.cell? ⟨RB, o, none⟩ = (#[.int .i64 m.c, .int .i64 m.d, .int .i64 m.s, .int .i64 m.e, .int .i64 m.l, .slice ta t.length tc, .int .i64 (limit : Int), .int .i64 most, .int .i64 (s.1 : Int), .bool s.2.1, .slice fa s.2.2.length fc] : Array Value)[o]? := fun o => by rw [hsg.cell]; rfl
 have hRl := lt_of_heap hsg.hh
 have hne := hsg.ne
 have hlo := hsg.lo
 have hres : goF limit (stayP n t) (visK most) (keysOf m) 0 cuts s = ((s.1, s.2.1, s.2.2 ++ [cuts]), decide ((s.2.2.length : Int) + 1 < most)) := rfl
 rw [hres]
 obtain ⟨s1, s2, sl⟩ := s
 dsimp only at *
 obtain ⟨r, hr⟩ : ∃ r, decide ((sl.length : Int) + 1 < most) = r := ⟨_, rfl⟩
 rw [hr]
 have hr2 : decide (most ≤ (sl.length : Int) + 1) = !r := by rw [← hr]; by_cases h : (sl.length : Int) + 1 < most <;> simp [h] <;> omega
 have HS := Lib.hid (And.intro hsg (And.intro hc (And.intro hvs2 hr))); clear hsg hc hvs2 hr hres ht hok hcp
 go_enter Tryz.func219, Tryz.ntmps219
 go_wp2_with ((at_builtin; refine wp_app1 _ rfl _ _ 80 rfl B 24 (.slice none 0 0) 24 Tryz.underlying80 inf_intss rfl _ _ _ rfl hvs (.slice ca cuts.length cc) _ rfl rfl (by omega) (by omega) (by omega) ?_; intro v1 w1 hown1 hgrow1 hblk1 hB1); obtain ⟨gg, cap, rfl, hcap⟩ := own_some hown1 (by omega); have hh1 : w1.heap[RB]? = some (.cells (sgCells m (.slice ta t.length tc) (.slice fa sl.length fc) limit most (s1, s2, sl)) 199 (0, 0)) := (hgrow1.block RB hRl (fun e => hne e.symm)).trans HS.out.1.hh; have h1c : w1.cell? ⟨RB, 10, none⟩ = some (.slice fa sl.length fc) := (by rw [cell_of_block hh1]; rfl); have f1c := frozen_of_block hh1 10)
 obtain ⟨hP1, hP2, hP3⟩ := sg_push (S := fun _ => True) HS.out.1 HS.out.2.1 hvs HS.out.2.2.1 hown1 hgrow1 hblk1
 have hx9 : ∀ o, (w1.setCell ⟨RB, 10, none⟩ (.slice (some ⟨gg, 0, none⟩) (sl.length + 1) cap)).cell? ⟨RB, o, none⟩ = (#[.int .i64 m.c, .int .i64 m.d, .int .i64 m.s, .int .i64 m.e, .int .i64 m.l, .slice ta t.length tc, .int .i64 (limit : Int), .int .i64 most, .int .i64 (s1 : Int), .bool s2, .slice (some ⟨gg, 0, none⟩) (sl.length + 1) cap] : Array Value)[o]? := fun o => by rw [hP1.cell]; rfl
 obtain ⟨wz, hwz⟩ : ∃ wz, w1.setCell ⟨RB, 10, none⟩ (.slice (some ⟨gg, 0, none⟩) (sl.length + 1) cap) = wz := ⟨_, rfl⟩
 rw [hwz] at hP1 hP2 hx9 ⊢
 have HP := Lib.hid (And.intro hP1 (And.intro hP2 hP3)); clear hP1 hP2 hP3 hwz hh1 h1c f1c hx0 hown1 hgrow1 hblk1 hB1
 go_wp2_with fail
 go_region
 all_goals
  go_wp2_with fail
  go_ret
  exact ⟨_, rfl, HP.out.1.below ((Below.refl _ _).drew), HP.out.2.1.drew, HP.out.2.2⟩
theorem Fits.snoc {m : Mk} {t cuts : List (List Int)} {k : List Int} (h : Fits m t cuts) (hl : cuts.length < t.length) (hk : isKeyB m k = true) : Fits m t (cuts ++ [k]) := by
 have hkey : ∀ j, j < (cuts ++ [k]).length → isKeyB m (getl (cuts ++ [k]) j) = true := fun j hj => by
  by_cases e : j < cuts.length
  ·rw [getl_app1 e]; exact h.keys j e
  ·have e2 : j = cuts.length := by simp at hj; omega
   subst e2
   rw [getl_app2]; exact hk
 exact ⟨h.ok, h.rows, h.cols, h.doors, h.bits, by simp; omega, hkey, fun j hj => (isKey_iff.1 (hkey j hj)).1, fun j hj c hc => (isKey_iff.1 (hkey j hj)).2.1 _ (geti_mem hc)⟩
set_option maxRecDepth 100000 in
set_option maxHeartbeats 4000000 in
theorem l16Candidates_any {S S' : Nat → Prop} (m : Mk) (u v : Value) (t cuts : List (List Int)) (most : Int) (W : World) (hf : Fits m t cuts) (hlt : cuts.length < t.length) (hmo : 0 ≤ most ∧ most ≤ 100) (h : V2 S W u t) (hc : V2 S' W v cuts) (hp : cuts = [] → PV v) :
  Calls Tryz.prog 163 #[.agg #[.int .i64 m.c, .int .i64 m.d, .int .i64 m.s, .int .i64 m.e, .int .i64 m.l, u], v, .int .i64 most] W fun e w' => ∃ v' ls, e = .returned v' ∧ (OV W.heap.size w' v' ls ∧ (ls.length : Int) ≤ most ∧ ∀ k ∈ ls, isKeyB m k = true) ∧ Below W.heap.size W w' := by
 have hok' := hf.ok
 have hmk := Mk.ok_iff.1 hok'
 have hc0 : 0 ≤ m.c := by omega
 have hmc := mc_nat hok'
 obtain ⟨a, c, rfl, hmx⟩ := h.form
 obtain ⟨a', c', rfl, hmx'⟩ := hc.form
 have hkey : ∀ k, k ∈ keysOf m → isKeyB m k = true ∧ (k.length : Int) = m.c ∧ ∀ i, i < k.length → 0 ≤ geti k i ∧ geti k i ≤ 7 := fun k hk => by
  have h0 := (mem_keysOf hc0).1 hk
  have h1 := isKey_iff.1 h0
  refine ⟨h0, by omega, fun i hi => ?_⟩
  have := h1.2.1 _ (geti_mem hi)
  omega
 have hfirst := l02First_any m hok' m.c.toNat (fun _ => False) (.slice none 0 0) []
 rw [genB_nil] at hfirst
 have Hfirst := Lib.hid (And.intro hfirst hmc); clear hfirst
 have hcl : cuts.length ≤ 1000000 := by have := hf.rows; have := hf.few; omega
 obtain ⟨W1, hW1, hB01, hz01, HZ01, hc01, hh01⟩ := box_facts W #[.int .i64 m.c, .int .i64 m.d, .int .i64 m.s, .int .i64 m.e, .int .i64 m.l, .slice a t.length c] 33
 have hz1e := HZ01.out
 obtain ⟨WL, hWL⟩ : ∃ WL, WL = W1.alloc (.cells #[] 44) := ⟨_, rfl⟩
 have hbL : Below W1.heap.size W1 WL := by rw [hWL]; exact (Below.refl _ _).alloc (Nat.le_refl _) _
 have hO0 : OV (W.heap.size + 1) WL (.slice (some ⟨W.heap.size + 1, 0, none⟩) 0 0) [] := OV.nil (by
  have hown0 := own_lit0 W1 (W.heap.size + 1) 44 1 (by omega)
  rw [← hz1e] at hown0 ⊢; rw [hWL]; exact hown0)
 have hBL : Below W.heap.size W WL := hB01.trans (hbL.mono (by omega))
 have hzL : W.heap.size + 2 ≤ WL.heap.size := by rw [hWL]; simp; omega
 have hhL : WL.heap[W.heap.size]? = some (.cells #[.int .i64 m.c, .int .i64 m.d, .int .i64 m.s, .int .i64 m.e, .int .i64 m.l, .slice a t.length c] 33 (0, 0)) := (hbL.block _ hz01).trans hh01
 have HA := Lib.hid (And.intro hok' (And.intro hc0 (And.intro (fun k (hk : isKeyB m k = true) => hf.snoc hlt hk) (And.intro (h.old.below hBL) (And.intro (hc.old.below hBL) hhL)))))
 have Hkey := Lib.hid hkey
 have HO := Lib.hid (And.intro hO0 (And.intro hBL (And.intro hp hW1))); have HWL := Lib.hid hWL
 have hxL : ∀ o, WL.cell? ⟨W.heap.size, o, none⟩ = (#[.int .i64 m.c, .int .i64 m.d, .int .i64 m.s, .int .i64 m.e, .int .i64 m.l, .slice a t.length c] : Array Value)[o]? := fun o => cell_of_block hhL o
 clear hkey hf hok' hmk h hc hp hO0 hBL hhL hz1e hWL hbL hh01 hc01 hc0 hmc hW1 hB01
 go_enter Tryz.func163, Tryz.ntmps163
 go_wp2_with fail
 rw [← HO.out.2.2.2, ← HWL.out]
 refine (Hfirst.out.1 _ ⟨none, 0, rfl, Nat.le_refl _, Nat.zero_le _, fun k hk => by simp at hk⟩ (fun _ => .inl rfl) (by have := Hfirst.out.2; simp; omega) (fun k hk => by simp at hk)).mono ?_
 rintro e' wF ⟨kv, rfl, hkv, hbF⟩
 have hzF := hbF.size
 have hkv0 : (nextAns (keysOf m)).2 = true → V1 (fun b => W.heap.size + 1 ≤ b ∧ (Value.slice (some ⟨W.heap.size + 1, 0, none⟩) 0 0).ownBlock ≠ some b) wF kv (nextAns (keysOf m)).1 := fun hh => (hkv hh).mono (fun b h1 h2 => by
  rcases h1 with h1 | h1
  ·exact h1.elim
  ·exact ⟨by omega, fun e => by simp [Value.ownBlock] at e; omega⟩) (fun _ _ _ => rfl)
 have HF := Lib.hid (And.intro hkv0 (And.intro (HO.out.1.below hbF) (hbF.mono (show W.heap.size + 1 ≤ WL.heap.size by omega)))); clear hkv hkv0 hbF hxL
 go_wp2_with fail
 go_loopw [7, 8, 9] (fun ou kv okv wr => ∃ (L1 L2 out : List (List Int)), keysOf m = L1 ++ L2 ∧ okv = .bool (nextAns L2).2 ∧ ((nextAns L2).2 = true → V1 (fun b => W.heap.size + 1 ≤ b ∧ ou.ownBlock ≠ some b) wr kv (nextAns L2).1) ∧ OV (W.heap.size + 1) wr ou out ∧ ((out.length : Int) ≤ most ∧ ∀ k ∈ out, isKeyB m k = true) ∧ Below (W.heap.size + 1) WL wr) (fun _ kv okv wr => toCome m wr kv okv)
 case atStart => exact ⟨[], keysOf m, [], rfl, rfl, HF.out.1, HF.out.2.1, ⟨hmo.1, fun k hk => by cases hk⟩, HF.out.2.2⟩
 case round =>
  obtain ⟨L1, L2, out, hL, hokv, hkv, hO, ⟨hol, hoi⟩, hB⟩ := hrel
  have hzr := hB.size
  obtain ⟨oa, oc, rfl, _, _⟩ := hO.form
  cases L2 with
  | nil =>
    have hokv' : _ = Value.bool false := hokv
    subst hokv'
    have HZ := Lib.hid (And.intro (hO.base (show W.heap.size ≤ W.heap.size + 1 by omega)) (And.intro hol (And.intro hoi (HO.out.2.1.trans (hB.mono (by omega)))))); clear hO hkv hL hoi
    go_wp2_with fail
    go_ret
    exact ⟨_, out, rfl, ⟨HZ.out.1, HZ.out.2.1, HZ.out.2.2.1⟩, HZ.out.2.2.2⟩
  | cons k r =>
    have hokv' : _ = Value.bool true := hokv
    subst hokv'
    have hk1 : V1 (fun b => W.heap.size + 1 ≤ b ∧ (Value.slice oa out.length oc).ownBlock ≠ some b) wr _ k := hkv rfl
    obtain ⟨hkk, hkc, hkr⟩ := Hkey.out k (by rw [hL]; simp)
    have hbeh := keys_behind HA.out.2.1 hL
    obtain ⟨ka, kc, rfl, hkm⟩ := hk1.form
    have hL' : keysOf m = (L1 ++ [k]) ++ r := by rw [hL]; simp
    have HK := Lib.hid (And.intro hk1 (And.intro hkc (And.intro hkr (And.intro hbeh (And.intro hL' hkk))))); clear hkv hkc hkr hbeh hL' hL
    by_cases hA : (out.length : Int) < most
    ·have hAd : decide ((out.length : Int) < most) = true := decide_eq_true hA
     have htr := V2.mono (S' := fun b => b < W.heap.size) HA.out.2.2.2.1 (fun _ h _ => h) (Below.keep hB fun b hb _ => by have hb : b < W.heap.size := hb; omega)
     have hcr := V2.mono (S' := fun b => b < W.heap.size) HA.out.2.2.2.2.1 (fun _ h _ => h) (Below.keep hB fun b hb _ => by have hb : b < W.heap.size := hb; omega)
     have hhr := heap_below HA.out.2.2.2.2.2 hB (by omega)
     have hxr : ∀ o, wr.cell? ⟨W.heap.size, o, none⟩ = (#[.int .i64 m.c, .int .i64 m.d, .int .i64 m.s, .int .i64 m.e, .int .i64 m.l, .slice a t.length c] : Array Value)[o]? := fun o => cell_of_block hhr o
     obtain ⟨vs, hvs, hrv⟩ := hO
     have HR := Lib.hid (And.intro htr (And.intro hcr (And.intro hhr (And.intro hvs (And.intro hrv (And.intro hoi hB)))))); clear htr hcr hhr hvs hrv hoi hB
     have hbD : Below wr.heap.size wr wr.drew := (Below.refl _ _).drew
     have hRl : W.heap.size < wr.heap.size := by omega
     have hSk : ∀ w', Below wr.heap.size wr w' → (w'.cell? ⟨W.heap.size, 0, none⟩ = some (.int .i64 m.c) ∧ w'.cell? ⟨W.heap.size, 1, none⟩ = some (.int .i64 m.d) ∧ w'.cell? ⟨W.heap.size, 2, none⟩ = some (.int .i64 m.s) ∧ w'.cell? ⟨W.heap.size, 3, none⟩ = some (.int .i64 m.e) ∧ w'.cell? ⟨W.heap.size, 4, none⟩ = some (.int .i64 m.l) ∧ w'.cell? ⟨W.heap.size, 5, none⟩ = some (.slice a t.length c)) := fun w' hb => by
      refine ⟨?_, ?_, ?_, ?_, ?_, ?_⟩ <;> rw [(bcell hb).1 _ _ hRl, hxr] <;> rfl
     have hS0 := hSk _ hbD
     go_wp2_with fail
     refine wp_region_noPanic ?_
     refine wp_region_held_drew (S := fun w' => w'.cell? ⟨W.heap.size, 0, none⟩ = some (.int .i64 m.c) ∧ w'.cell? ⟨W.heap.size, 1, none⟩ = some (.int .i64 m.d) ∧ w'.cell? ⟨W.heap.size, 2, none⟩ = some (.int .i64 m.s) ∧ w'.cell? ⟨W.heap.size, 3, none⟩ = some (.int .i64 m.e) ∧ w'.cell? ⟨W.heap.size, 4, none⟩ = some (.int .i64 m.l) ∧ w'.cell? ⟨W.heap.size, 5, none⟩ = some (.slice a t.length c)) (by kernel_rfl) hS0 (fun hHeld => ?_)
     (refine wpAnyH_take (i := 0) (v := .agg #[.int .i64 m.c, .int .i64 m.d, .int .i64 m.s, .int .i64 m.e, .int .i64 m.l, .slice a t.length c]) rfl (by kernel_rfl) (by kernel_rfl) (by kernel_rfl) (fun _ _ _ h => h) (Or.inl ⟨by kernel_rfl, fun w hSw => by (try dsimp only at hSw); go_split_ands; go_simp⟩) (by assumption) ?_; simp only [Act.put, List.setIfInBounds_toArray, List.set_cons_zero, List.set_cons_succ])
     (refine wpAnyH_take (i := 1) (v := .slice a' cuts.length c') rfl (by kernel_rfl) (by kernel_rfl) (by kernel_rfl) (fun _ _ _ h => h) (Or.inl ⟨by kernel_rfl, fun w hSw => by (try dsimp only at hSw); go_split_ands; go_simp⟩) (by assumption) ?_; simp only [Act.put, List.setIfInBounds_toArray, List.set_cons_zero, List.set_cons_succ])
     (refine wpAnyH_take (i := 2) (v := .slice ka k.length kc) rfl (by kernel_rfl) (by kernel_rfl) (by kernel_rfl) (fun _ _ _ h => h) (Or.inl ⟨by kernel_rfl, fun w hSw => by (try dsimp only at hSw); go_split_ands; go_simp⟩) (by assumption) ?_; simp only [Act.put, List.setIfInBounds_toArray, List.set_cons_zero, List.set_cons_succ])
     refine wpAnyH_ready (rs := [3]) (by kernel_rfl) (by simp) (AllReadyH.cons rfl (fun K hK => ?_) AllReadyH.nil)
     go_simp
     go_at_call 154
     refine (l16With_any _ _ cuts k _ (HR.out.2.1.below hbD) HO.out.2.2.1 (HK.out.1.below hbD) hcl).mono ?_
     rintro e' w6 ⟨nv, nvs, rfl, hown, hrw, hb6⟩
     have hN := (own_V2S hown hrw).any
     have hb06 : Below wr.heap.size wr w6 := hbD.trans (hb6.mono (Nat.le_refl _))
     obtain ⟨na, nc, rfl, hnm⟩ := hN.form
     have hz6 := hb06.size
     have hS6 := hSk _ hb06
     obtain ⟨sb, hsb⟩ : ∃ sb, openP m.c.toNat t (cuts ++ [k]) = sb := ⟨_, rfl⟩
     have hnl : (cuts ++ [k]).length = cuts.length + 1 := by simp
     have hopn := l16Open_b m (.slice a t.length c) (.slice na (cuts ++ [k]).length nc) t (cuts ++ [k]) m.c.toNat w6 sb hsb (HA.out.2.2.1 k HK.out.2.2.2.2.2) Hfirst.out.2 (HR.out.1.below hb06) hN
     rw [hnl] at hopn
     have HN := Lib.hid (And.intro hopn hb06); clear hopn hN hb6 hown hrw hsb hb06
     rw [hnl]
     clear hnl
     dsimp only
     (refine hK.out _ _ hS6 (fun hHeld => ?_); clear hK K; (try simp only [Act.put, List.setIfInBounds_toArray, List.set_cons_zero, List.set_cons_succ]))
     refine wpAnyH_ready (rs := [4]) (by kernel_rfl) (by simp) (AllReadyH.cons rfl (fun K hK => ?_) AllReadyH.nil)
     go_simp
     go_at_call 191
     refine HN.out.1.mono ?_
     rintro e' w7 ⟨rfl, hb7⟩
     have hb07 : Below wr.heap.size wr w7 := HN.out.2.trans (hb7.mono hz6)
     have hz7 := hb07.size
     have hS7 := hSk _ hb07
     dsimp only
     (refine hK.out _ _ hS7 (fun hHeld => ?_); clear hK K; (try simp only [Act.put, List.setIfInBounds_toArray, List.set_cons_zero, List.set_cons_succ]))
     refine wpAnyH_done (by kernel_rfl) (NoPanic.normal ?_) _
     have hvs7 := own_keep HR.out.2.2.2.1 hb07
     have hrv7 := HR.out.2.2.2.2.1.below hb07
     have hk7 := HK.out.1.below hb07
     have hBW7 := HR.out.2.2.2.2.2.2.trans (hb07.mono (by omega))
     have hol9 : out.length ≤ 1000 := by omega
     have H7 := Lib.hid (And.intro hvs7 (And.intro hrv7 (And.intro hk7 hBW7))); clear hvs7 hrv7 hk7 hBW7 hb7 hb07 hS0 hS6 hS7 hSk hbD hHeld
     cases sb
     ·have hOz : OV (W.heap.size + 1) w7 (.slice oa out.length oc) out := ⟨vs, H7.out.1, H7.out.2.1⟩
      have hlen : (out.length : Int) ≤ most ∧ ∀ k ∈ out, isKeyB m k = true := ⟨hol, HR.out.2.2.2.2.2.1⟩
      have hkz : V1 (fun _ => True) w7 (.slice ka k.length kc) k := H7.out.2.2.1.any
      have hzz := (H7.out.2.2.2).size
      have hxz : ∀ o, w7.cell? ⟨W.heap.size, o, none⟩ = (#[.int .i64 m.c, .int .i64 m.d, .int .i64 m.s, .int .i64 m.e, .int .i64 m.l, .slice a t.length c] : Array Value)[o]? := fun o => cell_of_block (heap_below HA.out.2.2.2.2.2 (H7.out.2.2.2) (by omega)) o
      have HZ := Lib.hid (And.intro hOz (And.intro H7.out.2.2.2 hlen)); clear hOz hlen hxr
      go_wp2_with fail
      refine (l02Next_any m HA.out.1 _ k _ hkz HK.out.2.1 HK.out.2.2.1).mono ?_
      rintro e' wM ⟨kv', he', hkv', hbM⟩
      rw [HK.out.2.2.2.1] at he' hkv'
      subst he'
      have hkv2 : (nextAns r).2 = true → V1 (fun b => W.heap.size + 1 ≤ b ∧ ((Value.slice oa out.length oc)).ownBlock ≠ some b) wM kv' (nextAns r).1 := fun hh => (hkv' hh).mono (fun b h1 h2 => by
       rcases h1 with h1 | h1
       ·exact h1.elim
       ·refine ⟨by omega, fun e => ?_⟩
        obtain ⟨vs', g1, _⟩ := HZ.out.1
        have := (g1.lt b e).2
        omega) (fun _ _ _ => rfl)
      have HM := Lib.hid (And.intro hkv2 (And.intro (toCome_nextG HA.out.2.1 hkv2 HK.out.2.2.2.2.1) (toCome_more (m := m) HK.out.1))); clear hkv' hkv2 hxz
      obtain ⟨qb, hqb⟩ : ∃ qb, (nextAns r).2 = qb := ⟨_, rfl⟩
      rw [hqb]
      have Hqb := Lib.hid hqb; clear hqb
      go_wp2_with fail
      go_roundw
      case rel => exact ⟨L1 ++ [k], r, _, HK.out.2.2.2.2.1, by rw [Hqb.out], HM.out.1, HZ.out.1.below hbM, HZ.out.2.2, HZ.out.2.1.trans (hbM.mono (by omega))⟩
      case measure => rw [HM.out.2.2, HK.out.2.2.2.1]; have := HM.out.2.1; rw [Hqb.out] at this; omega
     ·have hvs7 := H7.out.1
      clear hxr
      go_wp2_with ((at_builtin; refine wp_app1 _ rfl _ _ 24 rfl (W.heap.size + 1) 44 (.slice none 0 0) 24 Tryz.underlying24 inf_ints rfl _ _ _ rfl hvs7 (.slice ka k.length kc) _ rfl rfl (by omega) (by omega) (by omega) ?_; intro v1 w1 hown1 hgrow1 hblk1 hB1); refine Hid.out ?_)
      refine Lib.hid ?_
      have hP := OV.push2 H7.out.1 H7.out.2.1 H7.out.2.2.1 hown1 hgrow1 hblk1
      have hk1' : V1 (fun _ => True) w1 (.slice ka k.length kc) k := H7.out.2.2.1.mono (fun _ _ _ => trivial) (fun b hb hlt => hgrow1.block b hlt (fun e => hb.2 e.symm))
      have hBw1 := H7.out.2.2.2.trans hB1
      have hlen : ((out ++ [k]).length : Int) ≤ most ∧ ∀ x ∈ out ++ [k], isKeyB m x = true := ⟨by simp; omega, fun x hx => by
       rcases List.mem_append.1 hx with h1 | h1
       ·exact HR.out.2.2.2.2.2.1 x h1
       ·rw [List.mem_singleton.1 h1]; exact HK.out.2.2.2.2.2⟩
      obtain ⟨na2, nc2, rfl, _, _⟩ := own_form hown1
      have hkz : V1 (fun _ => True) w1 (.slice ka k.length kc) k := hk1'
      have hzz := (hBw1).size
      have hxz : ∀ o, w1.cell? ⟨W.heap.size, o, none⟩ = (#[.int .i64 m.c, .int .i64 m.d, .int .i64 m.s, .int .i64 m.e, .int .i64 m.l, .slice a t.length c] : Array Value)[o]? := fun o => cell_of_block (heap_below HA.out.2.2.2.2.2 (hBw1) (by omega)) o
      have HZ := Lib.hid (And.intro hP (And.intro hBw1 hlen)); clear hP hBw1 hlen hown1 hgrow1 hblk1 hB1 hvs7 hk1'
      go_wp2_with fail
      refine (l02Next_any m HA.out.1 _ k _ hkz HK.out.2.1 HK.out.2.2.1).mono ?_
      rintro e' wM ⟨kv', he', hkv', hbM⟩
      rw [HK.out.2.2.2.1] at he' hkv'
      subst he'
      have hkv2 : (nextAns r).2 = true → V1 (fun b => W.heap.size + 1 ≤ b ∧ ((Value.slice na2 (out.length + 1) nc2)).ownBlock ≠ some b) wM kv' (nextAns r).1 := fun hh => (hkv' hh).mono (fun b h1 h2 => by
       rcases h1 with h1 | h1
       ·exact h1.elim
       ·refine ⟨by omega, fun e => ?_⟩
        obtain ⟨vs', g1, _⟩ := HZ.out.1
        have := (g1.lt b e).2
        omega) (fun _ _ _ => rfl)
      have HM := Lib.hid (And.intro hkv2 (And.intro (toCome_nextG HA.out.2.1 hkv2 HK.out.2.2.2.2.1) (toCome_more (m := m) HK.out.1))); clear hkv' hkv2 hxz
      obtain ⟨qb, hqb⟩ : ∃ qb, (nextAns r).2 = qb := ⟨_, rfl⟩
      rw [hqb]
      have Hqb := Lib.hid hqb; clear hqb
      go_wp2_with fail
      go_roundw
      case rel => exact ⟨L1 ++ [k], r, _, HK.out.2.2.2.2.1, by rw [Hqb.out], HM.out.1, HZ.out.1.below hbM, HZ.out.2.2, HZ.out.2.1.trans (hbM.mono (by omega))⟩
      case measure => rw [HM.out.2.2, HK.out.2.2.2.1]; have := HM.out.2.1; rw [Hqb.out] at this; omega
    ·have hAd : decide ((out.length : Int) < most) = false := decide_eq_false hA
     have HZ := Lib.hid (And.intro (hO.base (show W.heap.size ≤ W.heap.size + 1 by omega)) (And.intro hol (And.intro hoi (HO.out.2.1.trans (hB.mono (by omega)))))); clear hO hoi
     go_wp2_with fail
     go_ret
     exact ⟨_, rfl, ⟨out, HZ.out.1, HZ.out.2.1, HZ.out.2.2.1⟩, HZ.out.2.2.2⟩
set_option maxRecDepth 100000 in
set_option maxHeartbeats 4000000 in
theorem l17From_any (m : Mk) (t : List (List Int)) (n : Nat) (hn : (n : Int) = m.c) (tv : Value) (limit : Nat) (most : Int) (hmo : most ≤ 1000000) (RB B : Nat) : ∀ d, FromG m t tv limit most RB B d n := by
 intro d
 induction d with
 | zero => exact l17End_any m t n hn tv limit most hmo RB B
 | succ d ih =>
   intro cuts cv s fv0 W hcd ask
   obtain ⟨hsg, ht, hc, hcp, hok, hac⟩ := ask
   have hok' := hok.fits.ok
   have hmk := Mk.ok_iff.1 hok'
   have hc0 : 0 ≤ m.c := by omega
   have hlt : cuts.length < t.length := by omega
   obtain ⟨ta, tc, rfl, htm⟩ := ht.form
   obtain ⟨ca, cc, rfl, hcm⟩ := hc.form
   have hkey : ∀ k, k ∈ keysOf m → isKeyB m k = true ∧ (k.length : Int) = m.c ∧ ∀ i, i < k.length → 0 ≤ geti k i ∧ geti k i ≤ 7 := fun k hk => by
    have h0 := (mem_keysOf hc0).1 hk
    have h1 := isKey_iff.1 h0
    refine ⟨h0, by omega, fun i hi => ?_⟩
    have := h1.2.1 _ (geti_mem hi)
    omega
   have e0 : ((cuts.length : Int) == (t.length : Int)) = false := by rw [beq_eq_false_iff_ne]; omega
   have hRl := lt_of_heap hsg.hh
   have htN := ht.mono (S' := fun b => ¬ RG RB fv0 b ∧ b < W.heap.size) (fun b h1 h2 => ⟨h1, h2⟩) (fun _ _ _ => rfl)
   have hcN := hc.mono (S' := fun b => ¬ RG RB fv0 b ∧ b < W.heap.size) (fun b h1 h2 => ⟨h1, h2⟩) (fun _ _ _ => rfl)
   obtain ⟨f, hf⟩ : ∃ f, f = goStep limit (stayP n t) (goF limit (stayP n t) (visK most) (keysOf m) d) cuts := ⟨_, rfl⟩
   obtain ⟨K, hK⟩ : ∃ K, K = keysOf m := ⟨_, rfl⟩
   obtain ⟨L0, hL0⟩ : ∃ L0 : List (List Int), L0 = [] := ⟨_, rfl⟩
   have hL0K : keysOf m = L0 ++ K := by rw [hL0, hK]; rfl
   have hgo : goF limit (stayP n t) (visK most) (keysOf m) (d + 1) cuts s = runL f s K := by rw [hf, hK]; rfl
   rw [hgo]
   have hx0 : ∀ o, W.cell? ⟨RB, o, none⟩ = (#[.int .i64 m.c, .int .i64 m.d, .int .i64 m.s, .int .i64 m.e, .int .i64 m.l, .slice ta t.length tc, .int .i64 (limit : Int), .int .i64 most, .int .i64 (s.1 : Int), .bool s.2.1, fv0] : Array Value)[o]? := fun o => by rw [hsg.cell]; rfl
   have hfirst := l02First_any m hok' m.c.toNat (fun _ => False) (.slice none 0 0) []
   rw [genB_nil, ← hK] at hfirst
   have hcc : ((m.c.toNat : Nat) : Int) = m.c := by omega
   have Hfirst := Lib.hid (And.intro hfirst hcc); clear hfirst hcc
   have Hkey := Lib.hid hkey; clear hkey
   have HL := Lib.hid hL0K; clear hL0K hL0 hK hgo
   have Hf := Lib.hid hf; clear hf
   have HA := Lib.hid (And.intro hsg (And.intro htN (And.intro hcN (And.intro hcp (And.intro hok (And.intro ih (And.intro hok' (And.intro hc0 (And.intro hlt hac))))))))); clear hsg htN hcN ht hc hcp hok ih hok' hc0 hmk hlt hac
   go_enter Tryz.func219, Tryz.ntmps219
   go_wp2_with fail
   refine (Hfirst.out.1 _ ⟨none, 0, rfl, Nat.le_refl _, Nat.zero_le _, fun k hk => by simp at hk⟩ (fun _ => .inl rfl) (by have := Hfirst.out.2; simp; omega) (fun k hk => by simp at hk)).mono ?_
   rintro e' wF ⟨kv, rfl, hkv, hbF⟩
   have hkv0 : (nextAns K).2 = true → V1 (fun b => ¬ RG RB fv0 b) wF kv (nextAns K).1 := fun hh => (hkv hh).mono (fun b h1 h2 hf => by
    have := HA.out.1.lt hf
    rcases h1 with h1 | h1
    ·exact h1.elim
    ·omega) (fun _ _ _ => rfl)
   have hzF := hbF.size
   have HI := Lib.hid (And.intro hkv0 (And.intro (HA.out.1.below hbF) hbF)); clear hkv0 hkv hbF hx0
   go_wp2_with fail
   go_loopw [7, 8, 9] (fun kv okv _ wr => ∃ (L1 L2 : List (List Int)) (st : DSt) (fv : Value), K = L1 ++ L2 ∧ runL f s L1 = (st, true) ∧ okv = .bool (nextAns L2).2 ∧ ((nextAns L2).2 = true → V1 (fun b => ¬ RG RB fv b) wr kv (nextAns L2).1) ∧ Sg m (.slice ta t.length tc) limit most RB B st fv wr ∧ Chg (RG RB fv0) W wr ∧ (∀ b, RG RB fv b → RG RB fv0 b ∨ W.heap.size ≤ b) ∧ (st.2.2.length : Int) < most) (fun kv okv _ wr => toCome m wr kv okv)
   case atStart => exact ⟨[], K, s, fv0, rfl, rfl, rfl, HI.out.1, HI.out.2.1, Chg.of_below HI.out.2.2, fun b hb => .inl hb, HA.out.2.2.2.2.2.2.2.2.2⟩
   case round =>
    obtain ⟨L1, L2, st, fv, hL, hrun, hokv, hkv, hsg, hch, hsub, hact⟩ := hrel
    have hzr := hch.size
    have hr := hsg.cell
    have hfin : ∀ q, runL f s (L1 ++ L2) = q → runL f s K = q := fun q h => by rw [hL, h]
    cases L2 with
    | nil =>
      rw [List.append_nil] at hfin
      have hokv' : _ = Value.bool false := hokv
      subst hokv'
      have hres := hfin _ hrun
      have HZ := Lib.hid (And.intro hres (And.intro hsg (And.intro hch hsub))); clear hres hsg hkv hch hrun hL hfin hr hsub
      go_wp2_with fail
      go_ret
      rw [HZ.out.1]
      exact ⟨fv, rfl, HZ.out.2.1, HZ.out.2.2.1, HZ.out.2.2.2⟩
    | cons k r =>
      have hokv' : _ = Value.bool true := hokv
      subst hokv'
      have hrun' : runL f s L1 = (st, true) := hrun
      have hk1 := hkv rfl
      have hk1' : V1 (fun b => ¬ RG RB fv b) wr _ k := hk1
      have hLk : keysOf m = (L0 ++ L1) ++ k :: r := by rw [HL.out, hL]; simp
      obtain ⟨hkk, hkc, hkr⟩ := Hkey.out k (by rw [hLk]; simp)
      have hbeh := keys_behind HA.out.2.2.2.2.2.2.2.1 hLk
      obtain ⟨ka, kc, rfl, hkm⟩ := hk1'.form
      obtain ⟨fa, fc, rfl, hf1, hf2⟩ := hsg.form
      obtain ⟨s1, s2, sl⟩ := st
      dsimp only at *
      have hx : ∀ o, wr.cell? ⟨RB, o, none⟩ = (#[.int .i64 m.c, .int .i64 m.d, .int .i64 m.s, .int .i64 m.e, .int .i64 m.l, .slice ta t.length tc, .int .i64 (limit : Int), .int .i64 most, .int .i64 (s1 : Int), .bool s2, .slice fa sl.length fc] : Array Value)[o]? := fun o => by rw [hr]; rfl
      have hLk' : keysOf m = (L0 ++ L1 ++ [k]) ++ r := by rw [hLk]; simp
      have hL' : K = (L1 ++ [k]) ++ r := by rw [hL]; simp
      have HK := Lib.hid (And.intro hk1' (And.intro hkc (And.intro hkr (And.intro hbeh (And.intro hLk' hL'))))); clear hkv hk1 hk1' hkc hkr hbeh hLk' hL' hLk
      have HC := Lib.hid (And.intro hch (And.intro hsub hact))
      have hok := HA.out.2.2.2.2.1
      have hle := hsg.le
      have fR8 := frozen_of_block hsg.hh 8
      have fR9 := frozen_of_block hsg.hh 9
      clear hr
      by_cases hA : s1 = limit
      ·have e1 : ((s1 : Int) == (limit : Int)) = true := by rw [beq_iff_eq]; omega
       have hst : f (s1, s2, sl) k = ((s1, true, sl), false) := by rw [Hf.out]; unfold goStep; rw [if_pos hA]
       have hres := hfin _ (runL_stopat2 hrun' hst)
       obtain ⟨hP1, hP2⟩ := hsg.put (s' := (s1, true, sl)) (o := 9) (v := .bool true) (by simp [sgCells]) rfl hle.1
       have hCs := (hch.trans hP2 (fun i hi => hsub i hi))
       have HZ := Lib.hid (And.intro hres (And.intro hP1 (And.intro hCs hsub))); clear hres hsg hch hrun hrun' hL hfin hsub hP1 hP2 hst hCs
       go_wp2_with fail
       go_region
       all_goals
        go_wp2_with fail
        go_ret
        rw [HZ.out.1]
        exact ⟨_, rfl, HZ.out.2.1.below ((Below.refl _ _).drew), HZ.out.2.2.1.drew, HZ.out.2.2.2⟩
      ·have e1 : ((s1 : Int) == (limit : Int)) = false := by rw [beq_eq_false_iff_ne]; omega
       obtain ⟨w5, hw5⟩ : ∃ w5, w5 = (wr.setCell ⟨RB, 8, none⟩ (.int .i64 ((s1 : Int) + 1))).drew := ⟨_, rfl⟩
       obtain ⟨hP1, hP2⟩ := hsg.put (s' := (s1 + 1, s2, sl)) (o := 8) (v := .int .i64 ((s1 : Int) + 1)) (by simp [sgCells]) rfl (by show s1 + 1 ≤ limit; have := hle.1; have h1 : s1 ≤ limit := this; omega)
       have hS5 : Sg m (.slice ta t.length tc) limit most RB B (s1 + 1, s2, sl) (.slice fa sl.length fc) w5 := by rw [hw5]; exact hP1.below ((Below.refl _ _).drew)
       have hC5 : Chg (RG RB (.slice fa sl.length fc)) wr w5 := by rw [hw5]; exact hP2.drew
       have hfar : ∀ b, (¬ RG RB fv0 b ∧ b < W.heap.size) → ¬ RG RB (.slice fa sl.length fc) b := fun b hb h => by
        rcases HC.out.2.1 b h with h | h
        ·exact hb.1 h
        ·omega
       have hkpr : Keep (fun b => ¬ RG RB fv0 b ∧ b < W.heap.size) W w5 := (HC.out.1.trans hC5 (fun i hi => HC.out.2.1 i hi)).keep fun b hb => hb.1
       have ht5 : V2 (fun b => ¬ RG RB (.slice fa sl.length fc) b) w5 (.slice ta t.length tc) t := HA.out.2.1.mono (fun b hb _ => hfar b hb) hkpr
       have hc5 : V2 (fun b => ¬ RG RB (.slice fa sl.length fc) b) w5 (.slice ca cuts.length cc) cuts := HA.out.2.2.1.mono (fun b hb _ => hfar b hb) hkpr
       have hk5 : V1 (fun b => ¬ RG RB (.slice fa sl.length fc) b) w5 (.slice ka k.length kc) k := HK.out.1.mono (fun _ h _ => h) (hC5.keep fun b h => h)
       have hx5 : ∀ o, w5.cell? ⟨RB, o, none⟩ = (#[.int .i64 m.c, .int .i64 m.d, .int .i64 m.s, .int .i64 m.e, .int .i64 m.l, .slice ta t.length tc, .int .i64 (limit : Int), .int .i64 most, .int .i64 ((s1 : Int) + 1), .bool s2, .slice fa sl.length fc] : Array Value)[o]? := fun o => by rw [hS5.cell]; rfl
       have hcl : cuts.length ≤ 1000000 := by have := hok.fits.rows; have := hok.few; omega
       have hz5 := hC5.size
       obtain ⟨sb, hsb⟩ : ∃ sb, stayP n t cuts k = sb := ⟨_, rfl⟩
       have hstep : f (s1, s2, sl) k = if sb = true then goF limit (stayP n t) (visK most) (keysOf m) d (cuts ++ [k]) (s1 + 1, s2, sl) else ((s1 + 1, s2, sl), true) := by
        rw [Hf.out]; unfold goStep; rw [if_neg hA, hsb]
       have hlt := HA.out.2.2.2.2.2.2.2.2.1
       have hmore := hok.more hlt hkk
       have Hrun := Lib.hid (And.intro hrun' (And.intro hfin hL))
       have HS := Lib.hid (And.intro hS5 (And.intro hC5 (And.intro ht5 (And.intro hstep (And.intro hsb hmore))))); clear hS5 hC5 ht5 hsg hP1 hP2 hfar hkpr hstep hsb hA hrun hrun' hfin hL hch hsub hmore hok
       go_wp2_with fail
       go_region
       all_goals
        go_wp2_with fail
        rw [← hw5]
        clear hx
        refine (l16With_any _ _ cuts k _ hc5 HA.out.2.2.2.1 hk5 hcl).mono ?_
        rintro e' w6 ⟨nv, nvs, rfl, hown, hrv, hb6⟩
        have hN := own_V2S hown hrv
        obtain ⟨na, nc, rfl, hnm⟩ := hN.form
        have hz6 := hb6.size
        have hRl5 := lt_of_heap HS.out.1.hh
        have hx6 : ∀ o, w6.cell? ⟨RB, o, none⟩ = (#[.int .i64 m.c, .int .i64 m.d, .int .i64 m.s, .int .i64 m.e, .int .i64 m.l, .slice ta t.length tc, .int .i64 (limit : Int), .int .i64 most, .int .i64 ((s1 : Int) + 1), .bool s2, .slice fa sl.length fc] : Array Value)[o]? := fun o => by rw [(bcell hb6).1 _ _ hRl5, hx5]
        have hnl : (cuts ++ [k]).length = cuts.length + 1 := by simp
        rw [hnl] at hN
        have hopn := l16Open_b m (.slice ta t.length tc) (.slice na (cuts.length + 1) nc) t (cuts ++ [k]) n w6 sb HS.out.2.2.2.2.1 HS.out.2.2.2.2.2.fits hn (HS.out.2.2.1.below hb6) hN
        have HN := Lib.hid (And.intro hopn (And.intro hN hb6)); clear hopn hN hb6 hnl hown hrv hc5 hk5 hx5
        go_wp2_with fail
        refine HN.out.1.mono ?_
        rintro e' w7 ⟨rfl, hb7⟩
        have hb57 := HN.out.2.2.trans (hb7.mono hz6)
        have hz7 := hb57.size
        have hSg7 := HS.out.1.below hb57
        have hRl6 : RB < w6.heap.size := by omega
        have hx7 : ∀ o, w7.cell? ⟨RB, o, none⟩ = (#[.int .i64 m.c, .int .i64 m.d, .int .i64 m.s, .int .i64 m.e, .int .i64 m.l, .slice ta t.length tc, .int .i64 (limit : Int), .int .i64 most, .int .i64 ((s1 : Int) + 1), .bool s2, .slice fa sl.length fc] : Array Value)[o]? := fun o => by rw [(bcell hb7).1 _ _ hRl6, hx6]
        have hCz := HS.out.2.1.then_below hb57
        clear hx6
        cases sb
        ·have hst : f (s1, s2, sl) k = ((s1 + 1, s2, sl), true) := by rw [HS.out.2.2.2.1]; rfl
         have hrun' := Hrun.out.1
         have hSub : ∀ b, RG RB (.slice fa sl.length fc) b → RG RB (.slice fa sl.length fc) b ∨ wr.heap.size ≤ b := fun b hb => .inl hb
         have Hb := Lib.hid hb57; clear hb57 hb7
         have hkz : V1 (fun b => ¬ RG RB (.slice fa sl.length fc) b) w7 (.slice ka k.length kc) k := HK.out.1.mono (fun b h1 h2 h3 => by
          rcases hSub b h3 with h | h
          ·exact h1 h
          ·omega) (hCz.keep fun b h => h)
         have hrz := hSg7.cell
         obtain ⟨z1, z2, zl, hz⟩ : ∃ z1 z2 zl, (s1 + 1, s2, sl) = ((z1, z2, zl) : DSt) := ⟨_, _, _, rfl⟩
         have hxz : ∀ o, w7.cell? ⟨RB, o, none⟩ = (#[.int .i64 m.c, .int .i64 m.d, .int .i64 m.s, .int .i64 m.e, .int .i64 m.l, .slice ta t.length tc, .int .i64 (limit : Int), .int .i64 most, .int .i64 (z1 : Int), .bool z2, (.slice fa sl.length fc)] : Array Value)[o]? := fun o => by rw [hrz, hz]; rfl
         have hzz := hCz.size
         have hrn : runL f s (L1 ++ [k]) = ((s1 + 1, s2, sl), true) := by rw [runL_go f (by rw [hrun']), hrun', runL_one, hst]
         have hacz : (((s1 + 1, s2, sl) : DSt).2.2.length : Int) < most := HC.out.2.2
         have HZ := Lib.hid (And.intro hSg7 (And.intro hCz (And.intro hSub (And.intro hrn hacz)))); clear hrn hrz hz hacz hSg7 hCz hSub hst hrun' hx7
         go_wp2_with fail
         refine (l02Next_any m HA.out.2.2.2.2.2.2.1 _ k _ hkz HK.out.2.1 HK.out.2.2.1).mono ?_
         rintro e' wM ⟨kv', he', hkv', hbM⟩
         rw [HK.out.2.2.2.1] at he' hkv'
         subst he'
         have hkv2 : (nextAns r).2 = true → V1 (fun b => ¬ RG RB (.slice fa sl.length fc) b) wM kv' (nextAns r).1 := fun hh => (hkv' hh).mono (fun b h1 h2 hf => by
          have := HZ.out.1.lt hf
          rcases h1 with h1 | h1
          ·exact h1.elim
          ·omega) (fun _ _ _ => rfl)
         have HM := Lib.hid (And.intro hkv2 (And.intro (toCome_nextG HA.out.2.2.2.2.2.2.2.1 hkv2 HK.out.2.2.2.2.1) (toCome_more (m := m) HK.out.1))); clear hkv' hkv2 hxz
         obtain ⟨qb, hqb⟩ : ∃ qb, (nextAns r).2 = qb := ⟨_, rfl⟩
         rw [hqb]
         have Hqb := Lib.hid hqb; clear hqb
         go_wp2_with fail
         go_roundw
         case rel => exact ⟨L1 ++ [k], r, (s1 + 1, s2, sl), (.slice fa sl.length fc), HK.out.2.2.2.2.2, HZ.out.2.2.2.1, by rw [Hqb.out], HM.out.1, HZ.out.1.below hbM, (HC.out.1.trans HZ.out.2.1 (fun i hi => HC.out.2.1 i hi)).then_below hbM, fun b hb => by
          rcases HZ.out.2.2.1 b hb with h | h
          ·exact HC.out.2.1 b h
          ·right; omega, HZ.out.2.2.2.2⟩
         case measure => rw [HM.out.2.2, HK.out.2.2.2.1]; have := HM.out.2.1; rw [Hqb.out] at this; omega
        ·have hst : f (s1, s2, sl) k = goF limit (stayP n t) (visK most) (keysOf m) d (cuts ++ [k]) (s1 + 1, s2, sl) := by rw [HS.out.2.2.2.1]; rfl
         have hact2 : (goF limit (stayP n t) (visK most) (keysOf m) d (cuts ++ [k]) (s1 + 1, s2, sl)).2 = true → ((goF limit (stayP n t) (visK most) (keysOf m) d (cuts ++ [k]) (s1 + 1, s2, sl)).1.2.2.length : Int) < most := fun h => goF_act (act := fun l : List (List (List Int)) => (l.length : Int) < most) visK_still (s := (s1 + 1, s2, sl)) HC.out.2.2 h
         have IHr := HA.out.2.2.2.2.2.1 (cuts ++ [k]) (.slice na (cuts.length + 1) nc) (s1 + 1, s2, sl) (.slice fa sl.length fc) w7 (by simp; omega)
          ⟨hSg7, (HS.out.2.2.1.below hb57), (HN.out.2.1.below hb7).mono (fun b hb hlt hf => by
            have h1 := HS.out.1.lt hf
            rcases hb with (hb | hb) | hb
            ·exact hb hf
            ·exact hb hf
            ·omega) (fun _ _ _ => rfl), fun e => by simp at e, HS.out.2.2.2.2.2, HC.out.2.2⟩
         obtain ⟨rr, hrr⟩ : ∃ q, goF limit (stayP n t) (visK most) (keysOf m) d (cuts ++ [k]) (s1 + 1, s2, sl) = q := ⟨_, rfl⟩
         rw [hrr] at IHr hst hact2
         obtain ⟨rs, rb⟩ := rr
         have HIr := Lib.hid (And.intro IHr (And.intro hst (And.intro hact2 (And.intro hCz hb57)))); clear IHr hst hact2 hrr hCz hSg7 hb57 hb7
         cases rb
         ·go_wp2_with fail
          refine HIr.out.1.mono ?_
          rintro e' wq ⟨fv2, rfl, h1, h2, h3⟩
          have hCq := HC.out.1.trans (HIr.out.2.2.2.1.trans h2 (fun i hi => .inl hi)) (fun i hi => HC.out.2.1 i hi)
          have hSq : ∀ b, RG RB fv2 b → RG RB fv0 b ∨ W.heap.size ≤ b := fun b hb => by
           rcases h3 b hb with h | h
           ·exact HC.out.2.1 b h
           ·right; omega
          have hres := Hrun.out.2.1 _ (runL_stopat2 Hrun.out.1 HIr.out.2.1)
          have HZ := Lib.hid (And.intro h1 (And.intro hCq (And.intro hSq hres))); clear h1 h2 h3 hCq hSq hres hx7
          go_wp2_with fail
          go_ret
          rw [HZ.out.2.2.2]
          exact ⟨fv2, rfl, HZ.out.1, HZ.out.2.1, HZ.out.2.2.1⟩
         ·go_wp2_with fail
          refine HIr.out.1.mono ?_
          rintro e' wq ⟨fv2, rfl, h1, h2, h3⟩
          have hCq := HIr.out.2.2.2.1.trans h2 (fun i hi => .inl hi)
          have hSq : ∀ b, RG RB fv2 b → RG RB (.slice fa sl.length fc) b ∨ wr.heap.size ≤ b := fun b hb => by
           rcases h3 b hb with h | h
           ·exact .inl h
           ·right; omega
          have hrun' := Hrun.out.1
          have hst := HIr.out.2.1
          have hkz : V1 (fun b => ¬ RG RB fv2 b) wq (.slice ka k.length kc) k := HK.out.1.mono (fun b h1 h2 h3 => by
           rcases hSq b h3 with h | h
           ·exact h1 h
           ·omega) (hCq.keep fun b h => h)
          have hrz := h1.cell
          obtain ⟨z1, z2, zl, hz⟩ : ∃ z1 z2 zl, rs = ((z1, z2, zl) : DSt) := ⟨_, _, _, rfl⟩
          have hxz : ∀ o, wq.cell? ⟨RB, o, none⟩ = (#[.int .i64 m.c, .int .i64 m.d, .int .i64 m.s, .int .i64 m.e, .int .i64 m.l, .slice ta t.length tc, .int .i64 (limit : Int), .int .i64 most, .int .i64 (z1 : Int), .bool z2, fv2] : Array Value)[o]? := fun o => by rw [hrz, hz]; rfl
          have hzz := hCq.size
          have hrn : runL f s (L1 ++ [k]) = (rs, true) := by rw [runL_go f (by rw [hrun']), hrun', runL_one, hst]
          have hacz : ((rs : DSt).2.2.length : Int) < most := (HIr.out.2.2.1 trivial)
          have HZ := Lib.hid (And.intro h1 (And.intro hCq (And.intro hSq (And.intro hrn hacz)))); clear hrn hrz hz hacz h1 h2 h3 hCq hSq hst hrun' hx7
          go_wp2_with fail
          refine (l02Next_any m HA.out.2.2.2.2.2.2.1 _ k _ hkz HK.out.2.1 HK.out.2.2.1).mono ?_
          rintro e' wM ⟨kv', he', hkv', hbM⟩
          rw [HK.out.2.2.2.1] at he' hkv'
          subst he'
          have hkv2 : (nextAns r).2 = true → V1 (fun b => ¬ RG RB fv2 b) wM kv' (nextAns r).1 := fun hh => (hkv' hh).mono (fun b h1 h2 hf => by
           have := HZ.out.1.lt hf
           rcases h1 with h1 | h1
           ·exact h1.elim
           ·omega) (fun _ _ _ => rfl)
          have HM := Lib.hid (And.intro hkv2 (And.intro (toCome_nextG HA.out.2.2.2.2.2.2.2.1 hkv2 HK.out.2.2.2.2.1) (toCome_more (m := m) HK.out.1))); clear hkv' hkv2 hxz
          obtain ⟨qb, hqb⟩ : ∃ qb, (nextAns r).2 = qb := ⟨_, rfl⟩
          rw [hqb]
          have Hqb := Lib.hid hqb; clear hqb
          go_wp2_with fail
          go_roundw
          case rel => exact ⟨L1 ++ [k], r, rs, fv2, HK.out.2.2.2.2.2, HZ.out.2.2.2.1, by rw [Hqb.out], HM.out.1, HZ.out.1.below hbM, (HC.out.1.trans HZ.out.2.1 (fun i hi => HC.out.2.1 i hi)).then_below hbM, fun b hb => by
           rcases HZ.out.2.2.1 b hb with h | h
           ·exact HC.out.2.1 b h
           ·right; omega, HZ.out.2.2.2.2⟩
          case measure => rw [HM.out.2.2, HK.out.2.2.2.1]; have := HM.out.2.1; rw [Hqb.out] at this; omega
theorem F2.nil5 {B : Nat} {w : World} : F2 B w (.slice none 0 0) [] := ⟨0, fun _ => 0, ⟨none, 0, rfl, Nat.le_refl _, Nat.zero_le _, fun hn => absurd rfl hn, fun k hk => by simp at hk⟩, fun hn => absurd rfl hn, fun k hk => by simp at hk⟩
set_option maxRecDepth 100000 in
set_option maxHeartbeats 1000000 in
theorem l17Run_any {S S' : Nat → Prop} (m : Mk) (u v : Value) (t cuts : List (List Int)) (most : Int) (limit : Nat) (W : World) (h : V2 S W u t) (hc : V2 S' W v cuts) (hcp : cuts = [] → PV v) (hok : PartOk m t cuts) (hmo : most ≤ 1000000) (hlim : limit ≤ 4000) :
  Calls Tryz.prog 194 #[.agg #[.int .i64 m.c, .int .i64 m.d, .int .i64 m.s, .int .i64 m.e, .int .i64 m.l, u], v, .int .i64 most, .int .i64 (limit : Int)] W fun e w' => ∃ RB fv, e = .returned (.pointer (some ⟨RB, 0, none⟩)) ∧ Sg m u limit most RB W.heap.size (firstF m.c.toNat t (keysOf m) cuts most limit) fv w' ∧ Below W.heap.size W w' := by
 obtain ⟨a, c, rfl, hmx⟩ := h.form
 obtain ⟨a', c', rfl, hmx'⟩ := hc.form
 have hmk := Mk.ok_iff.1 hok.fits.ok
 have hfew := hok.few
 obtain ⟨WA, hWA⟩ : ∃ WA, WA = (W.alloc (.cells #[.int .i64 m.c, .int .i64 m.d, .int .i64 m.s, .int .i64 m.e, .int .i64 m.l, .slice a t.length c] 33)).alloc (.cells #[.int .i64 m.c, .int .i64 m.d, .int .i64 m.s, .int .i64 m.e, .int .i64 m.l, .slice a t.length c, .int .i64 (limit : Int), .int .i64 most, .int .i64 0, .bool false, .slice none 0 0] 199) := ⟨_, rfl⟩
 have hbA : Below W.heap.size W WA := by rw [hWA]; exact by (repeat (first | (with_reducible refine Below.setCell ?_ ?_ _) | (with_reducible refine Below.alloc ?_ ?_ _) | (with_reducible refine Below.drew ?_) | (with_reducible refine below_drewN ?_ _) | (with_reducible exact Below.refl _ _) | (with_reducible assumption) | (with_reducible refine Below.trans ?_ (Below.mono (by with_reducible assumption) ?_)) | go_size))
 have hzA : WA.heap.size = W.heap.size + 2 := by rw [hWA]; simp
 have hA1 : WA.heap[W.heap.size + 1]? = some (.cells (sgCells m (.slice a t.length c) (.slice none 0 0) limit most (0, false, [])) 199 (0, 0)) := by rw [hWA]; simp only [heap_alloc_at, World.size_alloc]; simp [sgCells]
 have hSg : Sg m (.slice a t.length c) limit most (W.heap.size + 1) W.heap.size (0, false, []) (.slice none 0 0) WA :=
  ⟨hA1, ⟨[], ⟨rfl, .inl ⟨rfl, rfl⟩⟩, fun k hk => by simp at hk⟩, by simp [Value.ownBlock], ⟨Nat.zero_le _, hlim⟩, by omega⟩
 have hno : ∀ b, b < W.heap.size → ¬ RG (W.heap.size + 1) (.slice none 0 0) b := fun b hb h => by
  rcases h with h | h
  ·omega
  ·simp [Value.ownBlock] at h
 by_cases hmp : 0 < most
 ·have hfin : firstF m.c.toNat t (keysOf m) cuts most limit = (goF limit (stayP m.c.toNat t) (visK most) (keysOf m) (t.length - cuts.length) cuts (0, false, [])).1 := by unfold firstF; rw [if_pos hmp]
  rw [hfin]
  have hgo := l17From_any m t m.c.toNat (by omega) (.slice a t.length c) limit most hmo (W.heap.size + 1) W.heap.size (t.length - cuts.length) cuts (.slice a' cuts.length c') (0, false, []) (.slice none 0 0) WA (by omega)
   ⟨hSg, h.old.mono (fun b h1 _ => hno b h1) (fun b _ h2 => hbA.block b h2), hc.old.mono (fun b h1 _ => hno b h1) (fun b _ h2 => hbA.block b h2), hcp, hok, by show (([] : List (List (List Int))).length : Int) < most; simp; omega⟩
  obtain ⟨r, hr⟩ : ∃ r, goF limit (stayP m.c.toNat t) (visK most) (keysOf m) (t.length - cuts.length) cuts (0, false, []) = r := ⟨_, rfl⟩
  rw [hr] at hgo ⊢
  have hgr : decide (0 < most) = true := decide_eq_true hmp
  have HWA := Lib.hid (And.intro hWA (And.intro hgo (And.intro hbA (And.intro hr hok)))); clear hWA hgo hbA hSg hno hA1 hok hr hfin
  go_enter Tryz.func194, Tryz.ntmps194
  go_wp2_with fail
  rw [← HWA.out.1]
  refine HWA.out.2.1.mono ?_
  rintro e' w' ⟨fv, rfl, hG, hch, hsub⟩
  have hb' : Below W.heap.size W w' := HWA.out.2.2.1.trans (hch.to_below (B := W.heap.size) (fun b hb => by
   rcases hb with e | e
   ·omega
   ·simp [Value.ownBlock] at e) (by omega))
  have HF := Lib.hid (And.intro hG hb'); clear hG hch hsub hb'
  go_wp2_with fail
  go_ret
  exact ⟨_, fv, rfl, HF.out.1, HF.out.2⟩
 ·have hfin : firstF m.c.toNat t (keysOf m) cuts most limit = (0, false, []) := by unfold firstF; rw [if_neg hmp]
  rw [hfin]
  have hgr : decide (0 < most) = false := decide_eq_false hmp
  have HWA := Lib.hid (And.intro hWA (And.intro hSg hbA)); clear hWA hSg hbA hno hA1 hok hfin
  go_enter Tryz.func194, Tryz.ntmps194
  go_wp2_with fail
  rw [← HWA.out.1]
  go_ret
  exact ⟨_, rfl, ⟨_, HWA.out.2.1⟩, HWA.out.2.2⟩
set_option maxRecDepth 100000 in
set_option maxHeartbeats 1000000 in
theorem l17First_any (m : Mk) (tv : Value) (t : List (List Int)) (limit : Nat) (most : Int) (RB B : Nat) (s : DSt) (fv : Value) (W : World) (h : Sg m tv limit most RB B s fv W) (hd : ∀ x ∈ s.2.2, DesOk m t x) :
  Calls Tryz.prog 193 #[.pointer (some ⟨RB, 0, none⟩)] W fun e w' => ∃ v', e = .returned (.tuple #[v', .int .i64 (pickA s).2.1, .int .i64 (pickA s).2.2]) ∧ F2 W.heap.size w' v' (pickA s).1 ∧ Below W.heap.size W w' := by
 obtain ⟨s1, s2, sl⟩ := s
 have hr := h.cell
 cases sl with
 | nil =>
   obtain ⟨fa, fc, rfl, _⟩ := h.form
   have hx : ∀ o, W.cell? ⟨RB, o, none⟩ = (#[.int .i64 m.c, .int .i64 m.d, .int .i64 m.s, .int .i64 m.e, .int .i64 m.l, tv, .int .i64 (limit : Int), .int .i64 most, .int .i64 (s1 : Int), .bool s2, .slice fa 0 fc] : Array Value)[o]? := fun o => by rw [hr]; rfl
   clear hr h hd
   cases s2
   ·go_enter Tryz.func193, Tryz.ntmps193
    go_wp2_with fail
    go_ret3
    exact ⟨_, rfl, F2.nil5, Below.refl _ _⟩
   ·go_enter Tryz.func193, Tryz.ntmps193
    go_wp2_with fail
    go_ret3
    exact ⟨_, rfl, F2.nil5, Below.refl _ _⟩
 | cons d ds =>
   show Calls _ _ _ _ fun e' w' => ∃ v', e' = .returned (.tuple #[v', .int .i64 (s1 : Int), .int .i64 0]) ∧ F2 W.heap.size w' v' d ∧ Below W.heap.size W w'
   obtain ⟨vs, hvs, hvs2⟩ := h.own
   obtain ⟨g, cap, rfl, _, _⟩ := own_some hvs (by simp)
   obtain ⟨rv, h1, h2⟩ := hvs2 0 (by simp)
   have h2 : V2 (fun b => ¬ RG RB (.slice (some ⟨g, 0, none⟩) (d :: ds).length cap) b) W rv d := h2
   have hcc : W.cell? ⟨g, 0, none⟩ = some rv := by
    have h3 := hvs.cells (g := g) rfl 0 rv h1
    simpa [Addr.add] using h3
   have hfew := (hd d (List.mem_cons_self ..)).few
   have hll := fun w (hb : Below W.heap.size W w) => l15Lists_any rv d w (h2.below hb) (by omega) (fun k hk => ⟨by have := (hfew.2 k hk).1; omega, (hfew.2 k hk).2⟩)
   obtain ⟨ra, rc, rfl, _⟩ := h2.form
   have hx : ∀ o, W.cell? ⟨RB, o, none⟩ = (#[.int .i64 m.c, .int .i64 m.d, .int .i64 m.s, .int .i64 m.e, .int .i64 m.l, tv, .int .i64 (limit : Int), .int .i64 most, .int .i64 (s1 : Int), .bool s2, .slice (some ⟨g, 0, none⟩) (d :: ds).length cap] : Array Value)[o]? := fun o => by rw [hr]; rfl
   have hdl : (0 : Int) < ((d :: ds).length : Int) := by simp
   have hRl := lt_of_heap h.hh
   have hgl := lt_of_cell hcc
   have hS : ∀ w', Below W.heap.size W w' → w'.cell? ⟨RB, 10, none⟩ = some (.slice (some ⟨g, 0, none⟩) (d :: ds).length cap) ∧ w'.cell? ⟨RB, 8, none⟩ = some (.int .i64 (s1 : Int)) ∧ w'.cell? ⟨g, 0, none⟩ = some (.slice ra d.length rc) := fun w' hb => ⟨by rw [(bcell hb).1 _ _ hRl, hx]; rfl, by rw [(bcell hb).1 _ _ hRl, hx]; rfl, cell_keep hcc (hb.block _ hgl)⟩
   have hbD : Below W.heap.size W W.drew := (Below.refl _ _).drew
   have H := Lib.hid (And.intro hll h); clear hll h hvs hvs2 h1 h2 hr hd
   go_enter Tryz.func193, Tryz.ntmps193
   go_wp2_with fail
   have hS0 := hS _ hbD
   refine wp_region_noPanic ?_
   refine wp_region_held_drew (S := fun w' => w'.cell? ⟨RB, 10, none⟩ = some (.slice (some ⟨g, 0, none⟩) (d :: ds).length cap) ∧ w'.cell? ⟨RB, 8, none⟩ = some (.int .i64 (s1 : Int)) ∧ w'.cell? ⟨g, 0, none⟩ = some (.slice ra d.length rc)) (by kernel_rfl) hS0 (fun hHeld => ?_)
   (refine wpAnyH_take (i := 0) (v := .pointer (some ⟨RB, 0, none⟩)) rfl (by kernel_rfl) (by kernel_rfl) (by kernel_rfl) (fun _ _ _ h => h) (Or.inl ⟨by kernel_rfl, fun w hSw => by (try dsimp only at hSw); go_split_ands; go_simp⟩) (by assumption) ?_; simp only [Act.put, List.setIfInBounds_toArray, List.set_cons_zero, List.set_cons_succ])
   (refine wpAnyH_take (i := 1) (v := .pointer (some ⟨RB, 0, none⟩)) rfl (by kernel_rfl) (by kernel_rfl) (by kernel_rfl) (fun _ _ _ h => h) (Or.inl ⟨by kernel_rfl, fun w hSw => by (try dsimp only at hSw); go_split_ands; go_simp⟩) (by assumption) ?_; simp only [Act.put, List.setIfInBounds_toArray, List.set_cons_zero, List.set_cons_succ])
   (refine wpAnyH_take (i := 2) (v := .pointer (some ⟨RB, 10, none⟩)) rfl (by kernel_rfl) (by kernel_rfl) (by kernel_rfl) (fun _ _ _ h => h) (Or.inl ⟨by kernel_rfl, fun w hSw => by (try dsimp only at hSw); go_split_ands; go_simp⟩) (by assumption) ?_; simp only [Act.put, List.setIfInBounds_toArray, List.set_cons_zero, List.set_cons_succ])
   (refine wpAnyH_take (i := 3) (v := .slice (some ⟨g, 0, none⟩) (d :: ds).length cap) rfl (by kernel_rfl) (by kernel_rfl) (by kernel_rfl) (fun _ _ _ h => h) (Or.inl ⟨by kernel_rfl, fun w hSw => by (try dsimp only at hSw); go_split_ands; go_simp⟩) (by assumption) ?_; simp only [Act.put, List.setIfInBounds_toArray, List.set_cons_zero, List.set_cons_succ])
   (refine wpAnyH_take (i := 4) (v := .pointer (some ⟨g, 0, none⟩)) rfl (by kernel_rfl) (by kernel_rfl) (by kernel_rfl) (fun _ _ _ h => h) (Or.inl ⟨by kernel_rfl, fun w hSw => by (try dsimp only at hSw); go_split_ands; go_simp⟩) (by assumption) ?_; simp only [Act.put, List.setIfInBounds_toArray, List.set_cons_zero, List.set_cons_succ])
   (refine wpAnyH_take (i := 5) (v := .slice ra d.length rc) rfl (by kernel_rfl) (by kernel_rfl) (by kernel_rfl) (fun _ _ _ h => h) (Or.inl ⟨by kernel_rfl, fun w hSw => by (try dsimp only at hSw); go_split_ands; go_simp⟩) (by assumption) ?_; simp only [Act.put, List.setIfInBounds_toArray, List.set_cons_zero, List.set_cons_succ])
   (refine wpAnyH_take (i := 7) (v := .pointer (some ⟨RB, 0, none⟩)) rfl (by kernel_rfl) (by kernel_rfl) (by kernel_rfl) (fun _ _ _ h => h) (Or.inl ⟨by kernel_rfl, fun w hSw => by (try dsimp only at hSw); go_split_ands; go_simp⟩) (by assumption) ?_; simp only [Act.put, List.setIfInBounds_toArray, List.set_cons_zero, List.set_cons_succ])
   (refine wpAnyH_take (i := 8) (v := .pointer (some ⟨RB, 0, none⟩)) rfl (by kernel_rfl) (by kernel_rfl) (by kernel_rfl) (fun _ _ _ h => h) (Or.inl ⟨by kernel_rfl, fun w hSw => by (try dsimp only at hSw); go_split_ands; go_simp⟩) (by assumption) ?_; simp only [Act.put, List.setIfInBounds_toArray, List.set_cons_zero, List.set_cons_succ])
   (refine wpAnyH_take (i := 9) (v := .pointer (some ⟨RB, 8, none⟩)) rfl (by kernel_rfl) (by kernel_rfl) (by kernel_rfl) (fun _ _ _ h => h) (Or.inl ⟨by kernel_rfl, fun w hSw => by (try dsimp only at hSw); go_split_ands; go_simp⟩) (by assumption) ?_; simp only [Act.put, List.setIfInBounds_toArray, List.set_cons_zero, List.set_cons_succ])
   (refine wpAnyH_take (i := 10) (v := .int .i64 (s1 : Int)) rfl (by kernel_rfl) (by kernel_rfl) (by kernel_rfl) (fun _ _ _ h => h) (Or.inl ⟨by kernel_rfl, fun w hSw => by (try dsimp only at hSw); go_split_ands; go_simp⟩) (by assumption) ?_; simp only [Act.put, List.setIfInBounds_toArray, List.set_cons_zero, List.set_cons_succ])
   refine wpAnyH_ready (rs := [6]) (by kernel_rfl) (by simp) (AllReadyH.cons rfl (fun K hK => ?_) AllReadyH.nil)
   go_simp
   go_at_call 218
   refine (H.out.1 _ hbD).mono ?_
   rintro e' w2 ⟨v2, rfl, ⟨hF, _⟩, hb2⟩
   have hb2' : Below W.heap.size W w2 := hbD.trans (hb2.mono (Nat.le_refl _))
   obtain ⟨va, vc, rfl, _⟩ := hF.v2.form
   have hS2 := hS _ hb2'
   have HF := Lib.hid (And.intro hF hb2'); clear hF hb2 hb2'
   dsimp only
   (refine hK.out _ _ hS2 (fun hHeld => ?_); clear hK K; (try simp only [Act.put, List.setIfInBounds_toArray, List.set_cons_zero, List.set_cons_succ]))
   (refine wpAnyH_ready (rs := [11]) (by kernel_rfl) (by simp) (AllReadyH.cons rfl (fun K hK => ?_) AllReadyH.nil); go_simp)
   (refine hK.out _ _ hS2 (fun hHeld => ?_); clear hK K; (try simp only [Act.put, List.setIfInBounds_toArray, List.set_cons_zero, List.set_cons_succ]))
   (refine wpAnyH_ready (rs := [12]) (by kernel_rfl) (by simp) (AllReadyH.cons rfl (fun K hK => ?_) AllReadyH.nil); go_simp)
   (refine hK.out _ _ hS2 (fun hHeld => ?_); clear hK K; (try simp only [Act.put, List.setIfInBounds_toArray, List.set_cons_zero, List.set_cons_succ]))
   (refine wpAnyH_ready (rs := [13]) (by kernel_rfl) (by simp) (AllReadyH.cons rfl (fun K hK => ?_) AllReadyH.nil); go_simp)
   (refine hK.out _ _ hS2 (fun hHeld => ?_); clear hK K; (try simp only [Act.put, List.setIfInBounds_toArray, List.set_cons_zero, List.set_cons_succ]))
   refine wpAnyH_done (by kernel_rfl) (NoPanic.normal ?_) _
   go_wp2_with fail
   go_ret3
   exact ⟨_, rfl, HF.out.1, HF.out.2⟩
theorem partC_nil {m : Mk} {t : List (List Int)} : partC m t [] = if isSys m t = false then 1 else 0 := by
 unfold partC
 have h1 : allKeys m [] = true := allKeys_iff.2 fun k hk => by simp at hk
 rw [h1]
 simp
theorem searchC_nil {m : Mk} {t : List (List Int)} {limit : Int} : searchC m t [] limit = if isSys m t = false then 1 else if inB limit 0 4000 = false then 2 else 0 := by
 have hf : (falseL m.c.toNat t []).length = 0 := rfl
 unfold searchC
 rw [partC_nil]
 cases hs : isSys m t
 ·simp
 ·cases hi : inB limit 0 4000
  ·have h1 : ¬ (0 ≤ limit ∧ limit ≤ 4000) := fun h => by rw [inB_iff.2 h] at hi; cases hi
   simp [h1]
  ·have h1 := inB_iff.1 hi
   simp [h1, hf]
set_option maxRecDepth 100000 in
theorem l17Code_any {S : Nat → Prop} (m : Mk) (u : Value) (t : List (List Int)) (limit : Int) (W : World) (h : V2 S W u t) :
  Calls Tryz.prog 192 #[.agg #[.int .i64 m.c, .int .i64 m.d, .int .i64 m.s, .int .i64 m.e, .int .i64 m.l, u], .int .i64 limit] W fun e' w' => e' = .returned (.int .i64 (searchC m t [] limit)) ∧ Below W.heap.size W w' := by
 obtain ⟨a, c, rfl, hmx⟩ := h.form
 obtain ⟨W1, hW1, hB01, hz01, HZ01, hc01, hh01⟩ := box_facts W #[.int .i64 m.c, .int .i64 m.d, .int .i64 m.s, .int .i64 m.e, .int .i64 m.l, .slice a t.length c] 33
 have hV1 : V2 (fun _ => True) W1 (.slice a t.length c) t := (h.below hB01).any
 rw [searchC_nil]
 cases hs : isSys m t
 ·have Hs := Lib.hid hs; clear hs
  go_enter Tryz.func192, Tryz.ntmps192
  go_wp2_with fail
  rw [← hW1]
  refine (isSystemR_b m _ t _ _ Hs.out hV1).mono ?_
  rintro e' w2 ⟨rfl, hb2⟩
  clear hc01 hh01
  go_wp2_with fail
  go_ret
  exact ⟨rfl, hB01.trans (hb2.mono (by omega))⟩
 ·have Hs := Lib.hid hs; clear hs
  cases hi : inB limit 0 4000
  ·have Hi := Lib.hid hi; clear hi
   go_enter Tryz.func192, Tryz.ntmps192
   go_wp2_with fail
   rw [← hW1]
   refine (isSystemR_b m _ t _ _ Hs.out hV1).mono ?_
   rintro e' w2 ⟨rfl, hb2⟩
   clear hc01 hh01
   go_wp2_with (go_at_call 53; refine (l01In_b _ _ _ _ _ Hi.out).mono ?_; rintro e' w' ⟨rfl, rfl⟩)
   go_ret
   exact ⟨rfl, hB01.trans (hb2.mono (by omega))⟩
  ·have Hi := Lib.hid hi; clear hi
   go_enter Tryz.func192, Tryz.ntmps192
   go_wp2_with fail
   rw [← hW1]
   refine (isSystemR_b m _ t _ _ Hs.out hV1).mono ?_
   rintro e' w2 ⟨rfl, hb2⟩
   clear hc01 hh01
   go_wp2_with (go_at_call 53; refine (l01In_b _ _ _ _ _ Hi.out).mono ?_; rintro e' w' ⟨rfl, rfl⟩)
   go_ret
   exact ⟨rfl, hB01.trans (hb2.mono (by omega))⟩
end Go.Proofs.YtmjplkbmhdkggaaGreat
