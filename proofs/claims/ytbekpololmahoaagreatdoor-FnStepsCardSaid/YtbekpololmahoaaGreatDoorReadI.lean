/- The program's reader of steps: one visit, and the whole. No conditions. -/
import Derived.Deep.RegionHeld3
import Derived.Test.YtbekpololmahoaaGreatDoorMDraw23
import Derived.Test.YtbekpololmahoaaGreatDoorMEach5
namespace Go.Proofs.YtbekpololmahoaaGreatDoor
open Go.RowKit
set_option linter.unusedVariables false
set_option linter.unusedSimpArgs false
theorem own_formz {w : World} {B z : Nat} {e : TypeId} {v : Value} {n : Nat} {xs : List Value} (h : w.ownsRow B e z v n xs) : ∃ a c, v = .slice a n c ∧ n ≤ c ∧ c ≤ maxLen := by
 rcases h.2 with ⟨rfl, h0⟩ | ⟨g, cap, cur, rfl, h1, h2, h3, h4, _⟩
 ·subst h0; exact ⟨_, _, rfl, Nat.le_refl _, Nat.zero_le _⟩
 ·exact ⟨_, _, rfl, h3, h4⟩
theorem own_chgz {F : Nat → Prop} {w w' : World} {base z : Nat} {e : TypeId} {v : Value} {n : Nat} {xs : List Value} (h : w.ownsRow base e z v n xs) (hc : Chg F w w') (hf : ∀ g, v.ownBlock = some g → ¬ F g) : w'.ownsRow base e z v n xs := by
 refine ⟨h.1, ?_⟩
 rcases h.2 with h0 | ⟨g, cap, cur, rfl, h1, h2, h3⟩
 ·exact .inl h0
 ·exact .inr ⟨g, cap, cur, rfl, h1, hc.heap h2 (hf g rfl), h3⟩
/-- The cells of a reader. -/
def rdCells (m : Mk) (tv sv : Value) (r : Nat) (gv : Value) : Array Value := #[.int .i64 m.c, .int .i64 m.d, .int .i64 m.s, .int .i64 m.e, .int .i64 m.l, tv, sv, .int .i64 (r : Int), gv]
/-- The blocks that a reader writes. -/
def RF (RB : Nat) (gv : Value) (b : Nat) : Prop := b = RB ∨ gv.ownBlock = some b
structure Rd (m : Mk) (tv sv : Value) (steps : List (Int × Int)) (RB B : Nat) (s : RSt) (gv : Value) (w : World) : Prop where
 hh : w.heap[RB]? = some (.cells (rdCells m tv sv s.1 gv) 66 (0, 0))
 own : w.ownsRow B 48 2 gv s.2.length (flatS s.2)
 ne : gv.ownBlock ≠ some RB
 ok : RdOk steps s
 lo : B ≤ w.heap.size
section
variable {m : Mk} {tv sv gv : Value} {steps : List (Int × Int)} {RB B : Nat} {s : RSt} {w w' : World}
theorem Rd.keep (h : Rd m tv sv steps RB B s gv w) (hz : w.heap.size ≤ w'.heap.size) (hk : ∀ b, RF RB gv b → w'.heap[b]? = w.heap[b]?) : Rd m tv sv steps RB B s gv w' := by
 refine ⟨by rw [hk RB (.inl rfl)]; exact h.hh, ⟨h.own.1, ?_⟩, h.ne, h.ok, Nat.le_trans h.lo hz⟩
 rcases h.own.2 with h0 | ⟨g, cap, cur, rfl, h1, h2, h3⟩
 ·exact .inl h0
 ·exact .inr ⟨g, cap, cur, rfl, h1, by rw [hk g (.inr rfl)]; exact h2, h3⟩
theorem Rd.lt (h : Rd m tv sv steps RB B s gv w) {b : Nat} (hb : RF RB gv b) : b < w.heap.size := by
 rcases hb with rfl | hb
 ·exact lt_of_heap h.hh
 ·exact (h.own.lt _ hb).2
theorem Rd.below (h : Rd m tv sv steps RB B s gv w) (hb : Below w.heap.size w w') : Rd m tv sv steps RB B s gv w' := h.keep hb.size fun b hf => hb.block b (h.lt hf)
theorem Rd.cell (h : Rd m tv sv steps RB B s gv w) (o : Nat) : w.cell? ⟨RB, o, none⟩ = (rdCells m tv sv s.1 gv)[o]? := by rw [cell_of_block h.hh]
end
def RefPost (m : Mk) (tv sv : Value) (steps : List (Int × Int)) (RB B : Nat) (gv : Value) (W : World) (r : RSt × Bool) (e : Ending) (w' : World) : Prop :=
 ∃ gv', e = .returned (.bool r.2) ∧ Rd m tv sv steps RB B r.1 gv' w' ∧ Chg (RF RB gv) W w' ∧ ∀ b, RF RB gv' b → RF RB gv b ∨ W.heap.size ≤ b
/-- Where it stands: what a call of the reader asks. -/
structure RdAsk (m : Mk) (t : List (List Int)) (tv sv : Value) (steps : List (Int × Int)) (RB B : Nat) (cuts : List (List Int)) (cv : Value) (s : RSt) (gv : Value) (W : World) : Prop where
 rd : Rd m tv sv steps RB B s gv W
 ht : V2 (fun b => ¬ RF RB gv b) W tv t
 hs : VS (fun b => ¬ RF RB gv b) W sv steps
 hc : V2 (fun b => ¬ RF RB gv b) W cv cuts
 hp : cuts = [] → PV cv
 ok : PartOk m t cuts
 lt : cuts.length < t.length
def RefAny (m : Mk) (t : List (List Int)) (tv sv : Value) (steps : List (Int × Int)) (RB B d n : Nat) : Prop :=
 ∀ (cuts : List (List Int)) (cv : Value) (s : RSt) (gv : Value) (W : World), cuts.length + d = t.length → RdAsk m t tv sv steps RB B cuts cv s gv W →
   Calls Tryz.prog 34 #[.pointer (some ⟨RB, 0, none⟩), cv] W (RefPost m tv sv steps RB B gv W (readF n t (keysOf m) steps d cuts s))
def VisPost (m : Mk) (tv sv : Value) (steps : List (Int × Int)) (RB B FB : Nat) (gv : Value) (w : World) (r : RSt × Bool) (e : Ending) (w' : World) : Prop :=
 ∃ gv', e = .returned (.bool r.2) ∧ Rd m tv sv steps RB B r.1 gv' w' ∧ w'.heap[FB]? = some (.cells #[.bool r.2] 4 (0, 0)) ∧ Chg (fun b => RF RB gv b ∨ b = FB) w w' ∧ ∀ b, RF RB gv' b → RF RB gv b ∨ w.heap.size ≤ b
theorem rd_push {m : Mk} {tv sv gv : Value} {steps : List (Int × Int)} {RB B gg cap n : Nat} {s : RSt} {x : Int × Int} {wy w8 : World} {ob : Obj}
  (hh : wy.heap[RB]? = some (.cells (rdCells m tv sv (s.1 + 1) gv) 66 (0, 0))) (hown : wy.ownsRow B 48 2 gv s.2.length (flatS s.2)) (hne : gv.ownBlock ≠ some RB) (hok : RdOk steps s) (hlt : s.1 < steps.length) (hlo : B ≤ wy.heap.size)
  (hn : s.2.length = n) (hown8 : w8.ownsRow B 48 2 (.slice (some ⟨gg, 0, none⟩) (n + 1) cap) (n + 1) (flatS s.2 ++ [.int .i64 x.1, .int .i64 x.2])) (hg : (wy.alloc ob).drew.grownBy w8 gv.ownBlock) (hat : gv.ownBlock = some gg ∨ gg = (wy.alloc ob).drew.heap.size) :
  Rd m tv sv steps RB B (s.1 + 1, s.2 ++ [x]) (.slice (some ⟨gg, 0, none⟩) (n + 1) cap) (w8.setCell ⟨RB, 8, none⟩ (.slice (some ⟨gg, 0, none⟩) (n + 1) cap)) ∧
  Chg (RF RB gv) wy (w8.setCell ⟨RB, 8, none⟩ (.slice (some ⟨gg, 0, none⟩) (n + 1) cap)) ∧
  ∀ b, RF RB (.slice (some ⟨gg, 0, none⟩) (n + 1) cap) b → RF RB gv b ∨ wy.heap.size ≤ b := by
 subst hn
 have hRl := lt_of_heap hh
 have hgR : gg ≠ RB := by
  rcases hat with h | h
  ·intro e; exact hne (e ▸ h)
  ·simp only [World.size_drew, World.size_alloc] at h; omega
 have hh8 : w8.heap[RB]? = some (.cells (rdCells m tv sv (s.1 + 1) gv) 66 (0, 0)) := by
  rw [hg.block RB (by simp; omega) (fun e => hne e.symm)]
  exact (Below.heap_alloc wy _ RB hRl).trans hh
 refine ⟨⟨?_, ?_, ?_, ⟨?_, ?_⟩, ?_⟩, ?_, ?_⟩
 ·rw [heap_setCell_self hh8]; simp [rdCells]
 ·have h1 : w8.ownsRow B 48 2 (.slice (some ⟨gg, 0, none⟩) (s.2.length + 1) cap) (s.2 ++ [x]).length (flatS (s.2 ++ [x])) := by rw [flatS_snoc, List.length_append]; exact hown8
  exact own_chgz h1 ((Chg.refl (fun b => b = RB) _).setCell (p := ⟨RB, 8, none⟩) (.inl rfl) _) (fun g hg e => by
   simp only [Value.ownBlock, Option.some.injEq] at hg
   exact hgR (hg.trans e))
 ·intro e; simp only [Value.ownBlock, Option.some.injEq] at e; exact hgR e
 ·show s.1 + 1 ≤ _; omega
 ·show (s.2 ++ [x]).length = s.1 + 1
  rw [List.length_append, hok.2]; rfl
 ·have := hg.size; simp only [World.size_drew, World.size_alloc] at this; simp only [World.size_setCell]; omega
 ·exact (((Chg.refl (RF RB gv) wy).alloc ob).drew.grown hg (fun k hk => .inl (.inr hk))).setCell (p := ⟨RB, 8, none⟩) (.inl (.inl rfl)) _
 ·rintro b (h | h)
  ·exact .inl (.inl h)
  ·simp only [Value.ownBlock, Option.some.injEq] at h
   subst h
   rcases hat with h | h
   ·exact .inl (.inr h)
   ·simp only [World.size_drew, World.size_alloc] at h; right; omega
set_option maxRecDepth 100000 in
set_option maxHeartbeats 2000000 in
theorem refute1_any {S Far : Nat → Prop} (m : Mk) (t : List (List Int)) (n : Nat) (hn : (n : Int) = m.c) (steps : List (Int × Int)) (hsl : steps.length ≤ 1200) (tv sv cv kv gv : Value) (RB B FB B2 B3 d : Nat) (cuts : List (List Int)) (key : List Int) (s : RSt) (fl : Bool) (w : World)
  (hp : PartOk m t cuts) (hl : cuts.length < t.length) (hcd : cuts.length + (d + 1) = t.length) (IH : RefAny m t tv sv steps RB B d n)
  (hR : Rd m tv sv steps RB B s gv w) (hF : w.heap[FB]? = some (.cells #[.bool fl] 4 (0, 0))) (hFn : ¬ RF RB gv FB) (hfar : ∀ b, Far b → ¬ RF RB gv b ∧ b ≠ FB ∧ b < w.heap.size)
  (h2 : w.cell? ⟨B2, 0, none⟩ = some (.pointer (some ⟨RB, 0, none⟩))) (f2 : Far B2) (h3 : w.cell? ⟨B3, 0, none⟩ = some cv) (f3 : Far B3)
  (ht : V2 Far w tv t) (hs : VS Far w sv steps) (hc : V2 Far w cv cuts) (hcp : cuts = [] → PV cv) (hk : V1 S w kv key) (hkey : isKeyB m key = true) :
  Calls Tryz.prog 53 #[kv, .pointer (some ⟨B2, 0, none⟩), .pointer (some ⟨FB, 0, none⟩), .pointer (some ⟨B3, 0, none⟩)] w (VisPost m tv sv steps RB B FB gv w (rdStep n t steps (readF n t (keysOf m) steps d) cuts s key)) := by
 obtain ⟨ta, tc, rfl, htm⟩ := ht.form
 obtain ⟨sa, sc, rfl, hsm⟩ := hs.form
 obtain ⟨ca, cc, rfl, hcm⟩ := hc.form
 obtain ⟨ka, kc, rfl, hkm⟩ := hk.form
 obtain ⟨ga, gc, rfl, hg1, hg2⟩ := own_formz hR.own
 obtain ⟨iS, hiS, hzS0, hzS1, hzS2⟩ := info_parts inf_step
 have hf0 := frozen_of_block hF 0
 have hcF : w.cell? ⟨FB, 0, none⟩ = some (.bool fl) := by rw [cell_of_block hF]; rfl
 have hok := hR.ok
 have hr := hR.cell
 by_cases hA : s.1 = steps.length
 ·have hres : rdStep n t steps (readF n t (keysOf m) steps d) cuts s key = (s, false) := by unfold rdStep; rw [if_pos hA]
  rw [hres]
  have e1 : ((s.1 : Int) == (steps.length : Int)) = true := by simp [hA]
  have hr7 : w.cell? ⟨RB, 7, none⟩ = some (.int .i64 (s.1 : Int)) := by rw [hr]; rfl
  have hr6 : w.cell? ⟨RB, 6, none⟩ = some (.slice sa steps.length sc) := by rw [hr]; rfl
  have H := Lib.hid (And.intro hR (And.intro hF (And.intro hFn (And.intro hA hres)))); clear hR hF hFn hA hres hr ht hs hc hk hok IH hp
  go_enter Tryz.func53, Tryz.ntmps53
  go_wp2_with fail
  go_region
  all_goals
   go_wp2_with fail
   go_ret
   exact ⟨_, rfl, H.out.1.keep (by simp) (fun b hb => heap_setCell_other _ (fun e => H.out.2.2.1 (e ▸ hb))), heap_setCell_self (w := w.drew) H.out.2.1 _, (Chg.refl _ _).drew.setCell (.inl (.inr rfl)) _, fun b hb => .inl hb⟩
 ·have hlt : s.1 < steps.length := by have := hok.1; omega
  obtain ⟨x, hx⟩ : ∃ x, gets steps s.1 = x := ⟨_, rfl⟩
  obtain ⟨bs, offs, rfl, hbs, hcs1, hcs2⟩ := hs.cell hlt
  rw [hx] at hcs1 hcs2
  have e1 : ((s.1 : Int) == (steps.length : Int)) = false := by rw [beq_eq_false_iff_ne]; omega
  have hr7 : w.cell? ⟨RB, 7, none⟩ = some (.int .i64 (s.1 : Int)) := by rw [hr]; rfl
  have hr6 : w.cell? ⟨RB, 6, none⟩ = some (.slice (some ⟨bs, offs, none⟩) steps.length sc) := by rw [hr]; rfl
  have hkl : key.length ≤ 1048576 := by
   have := (isKey_iff.1 hkey).1
   have := Mk.ok_iff.1 hp.fits.ok
   omega
  have hcl : cuts.length ≤ 1000000 := by have := hp.fits.rows; omega
  have hst : (s.1 : Int) < (steps.length : Int) := by omega
  have hst0 : (0 : Int) ≤ (s.1 : Int) := by omega
  have hbd : Below w.heap.size w w.drew := (Below.refl _ _).drew
  have hcD := hc.below hbd
  have hkD := hk.below hbd
  have H := Lib.hid (And.intro hR (And.intro hF (And.intro hFn (And.intro hA (And.intro ht (And.intro hs (And.intro hok (And.intro IH (And.intro hp (And.intro hlt (And.intro hx (And.intro hc hk)))))))))))); clear hR hF hFn hA hr ht hs hc hk hok IH hp hlt hx
  go_enter Tryz.func53, Tryz.ntmps53
  go_wp2_with fail
  go_region
  go_wp2_with fail
  refine (slClone2_any _ cuts _ hcD hcp hcl).mono ?_
  rintro e' w2 ⟨v2, vs2, rfl, hown2, hvs2, hb2⟩
  obtain ⟨a2, c2, rfl, h21, h22⟩ := own_form hown2
  have hb02 := hbd.trans (hb2.mono (Nat.le_refl _))
  go_wp2_with fail
  refine (slClone_any _ key _ (hkD.below hb2) hkl).mono ?_
  rintro e' w3 ⟨v3, rfl, hF3, hb3⟩
  obtain ⟨a3, c3, rfl, _⟩ := hF3.v1.form
  have hz2 := hb02.size
  have hb03 := hb02.trans (hb3.mono hz2)
  have hz3 := hb03.size
  have hown3 : w3.ownsRow w.heap.size 57 1 (.slice a2 cuts.length c2) cuts.length vs2 := own_keep hown2 hb3
  have hvs3 := hvs2.below hb3
  go_wp2_with (at_builtin; refine wp_app1 _ rfl _ _ 33 rfl w.heap.size 57 (.slice none 0 0) 24 Tryz.underlying33 inf_ints rfl _ _ _ rfl hown3 (.slice a3 key.length c3) _ rfl rfl (by omega) (by omega) (by omega) ?_; intro v1 w1 hown1 hgrow1 hblk1 hB1)
  have hb04 : Below w.heap.size w w1 := hb03.trans (hB1.mono (by omega))
  have hV3 : V1 (fun b => w2.heap.size ≤ b) w1 (.slice a3 key.length c3) key := hF3.v1.mono (fun _ h _ => h) (grow_keep hgrow1 (fun g hg hS => by have := (hown2.lt g hg).2; omega))
  have hvs1 : RowVs (fun b => Far b ∨ w.heap.size ≤ b) w1 vs2 cuts := ⟨hvs3.1, fun k hk => by obtain ⟨ev, g1, g2⟩ := hvs3.2 k hk; exact ⟨ev, g1, g2.mono (fun b hb _ => .inl hb) (fun b hb _ => hB1.block b (hfar b hb).2.2)⟩⟩
  have hM : V2 (fun b => (Far b ∨ w.heap.size ≤ b) ∨ w.heap.size ≤ b) w1 v1 (cuts ++ [key]) := own_V2S hown1 (hvs1.snoc (hV3.mono (fun b hb _ => .inr (Nat.le_trans hz2 hb)) (fun _ _ _ => rfl)))
  have hMlt : cuts.length + 1 = (cuts ++ [key]).length := by simp
  obtain ⟨ma, mc, rfl, hmm⟩ := hM.form
  have hbo : ∀ o, Below w.heap.size w (w1.alloc o) := fun o => hb04.alloc hb04.size o
  have j2 := cell_keep h2 (hb04.block _ (lt_of_cell h2))
  have j3 := cell_keep h3 (hb04.block _ (lt_of_cell h3))
  have j6 := cell_keep hr6 (hb04.block _ (lt_of_cell hr6))
  have j7 := cell_keep hr7 (hb04.block _ (lt_of_cell hr7))
  have js1 := cell_keep hcs1 (hb04.block _ (lt_of_cell hcs1))
  have js2 := cell_keep hcs2 (hb04.block _ (lt_of_cell hcs2))
  have k2 := fun o => cell_keep h2 ((hbo o).block _ (lt_of_cell h2))
  have k3 := fun o => cell_keep h3 ((hbo o).block _ (lt_of_cell h3))
  have k6 := fun o => cell_keep hr6 ((hbo o).block _ (lt_of_cell hr6))
  have k7 := fun o => cell_keep hr7 ((hbo o).block _ (lt_of_cell hr7))
  have ks1 := fun o => cell_keep hcs1 ((hbo o).block _ (lt_of_cell hcs1))
  have ks2 := fun o => cell_keep hcs2 ((hbo o).block _ (lt_of_cell hcs2))
  have hz4 := hb04.size
  have HB := Lib.hid (And.intro h2 h3)
  have HM := Lib.hid (And.intro hM hMlt)
  clear hM hMlt hV3 hvs1 hown1 hgrow1 hblk1 hB1 hown3 hown2 hvs3 hvs2 hF3 hbo hb3 hb2 hcD hkD hcs1 hcs2 h2 h3 hr6 hr7 hb02 hb03 hbd
  go_region
  have hb05 : Below w.heap.size w (w1.alloc (.cells #[.int .i64 x.1, .int .i64 x.2] 48)).drew := (hb04.alloc hb04.size _).drew
  have hC5 : Chg (fun b => RF RB (.slice ga s.2.length gc) b ∨ b = FB) w1 (w1.alloc (.cells #[.int .i64 x.1, .int .i64 x.2] 48)).drew := ((Chg.refl _ _).alloc _).drew
  have hX5 : ∀ o, (w1.alloc (.cells #[.int .i64 x.1, .int .i64 x.2] 48)).drew.cell? ⟨w1.heap.size, o, none⟩ = (#[.int .i64 x.1, .int .i64 x.2] : Array Value)[o]? := fun o => cell_of_block (heap_alloc_self _ _) o
  have hz5 : (w1.alloc (.cells #[.int .i64 x.1, .int .i64 x.2] 48)).drew.heap.size = w1.heap.size + 1 := by simp
  obtain ⟨XB, hXB⟩ : ∃ XB, w1.heap.size = XB := ⟨_, rfl⟩
  obtain ⟨w5, hw5⟩ : ∃ w5, (w1.alloc (.cells #[.int .i64 x.1, .int .i64 x.2] 48)).drew = w5 := ⟨_, rfl⟩
  rw [hw5] at hb05 hC5 hX5 hz5 ⊢
  simp only [hXB] at hX5 hz5 ⊢
  have HX := Lib.hid (And.intro hw5 hXB); clear hw5 k2 k3 k6 k7 ks1 ks2 j2 j3 j6 j7 js1 js2
  have IHc : ∀ (N : Nat) (gvn : Value) (wz : World), w1.heap.size ≤ N → Rd m (.slice ta t.length tc) (.slice (some ⟨bs, offs, none⟩) steps.length sc) steps RB B (s.1 + 1, s.2 ++ [x]) gvn wz → (∀ b, Far b → ¬ RF RB gvn b) → Keep Far w wz →
    Chg (fun b => RF RB (.slice ga s.2.length gc) b ∨ b = FB) w1 wz → (∀ b, RF RB gvn b → RF RB (.slice ga s.2.length gc) b ∨ N ≤ b) → cuts.length + 1 < t.length →
    Calls Tryz.prog 34 #[.pointer (some ⟨RB, 0, none⟩), .slice ma (cuts.length + 1) mc] wz (RefPost m (.slice ta t.length tc) (.slice (some ⟨bs, offs, none⟩) steps.length sc) steps RB B gvn wz (readF n t (keysOf m) steps d (cuts ++ [key]) (s.1 + 1, s.2 ++ [x]))) := by
   intro N gvn wz hN hRd hfz hkz hCz hs3 hmo
   have hM := HM.out.1
   rw [← HM.out.2] at hM
   have hFl := lt_of_heap H.out.2.1
   refine H.out.2.2.2.2.2.2.2.1 (cuts ++ [key]) _ (s.1 + 1, s.2 ++ [x]) gvn wz (by simp; omega) ⟨hRd, H.out.2.2.2.2.1.mono (fun b hb _ => hfz b hb) hkz, H.out.2.2.2.2.2.1.mono (fun b hb _ => hfz b hb) hkz, hM.mono (fun b hb hlt hf => ?_) (hCz.keep fun b hb hf => ?_), fun e => by simp at e, H.out.2.2.2.2.2.2.2.2.1.more hl hkey, by simp; omega⟩
   ·rcases hs3 b hf with h | h
    ·have h1 := H.out.1.lt h
     rcases hb with (hb | hb) | hb
     ·exact (hfar b hb).1 h
     ·omega
     ·omega
    ·omega
   ·have h2 : b ≠ FB → RF RB (.slice ga s.2.length gc) b := fun hne => by rcases hf with h | h; exact h; exact absurd h hne
    rcases hb with (hb | hb) | hb
    ·exact (hfar b hb).1 (h2 (hfar b hb).2.1)
    ·have := H.out.1.lt (h2 (by omega)); omega
    ·have := H.out.1.lt (h2 (by omega)); omega
  have IHc := Lib.hid IHc
  cases ho : openS x
  ·have Ho := Lib.hid ho; clear ho
   go_wp2_with fail
   refine (isOpenStep_b _ _ _ Ho.out).mono ?_
   rintro e' w6 ⟨rfl, hb6⟩
   have hb06 := hb05.trans (hb6.mono hb05.size)
   have hz6 := hb6.size
   have hr6 := (H.out.1.below hb06).cell
   have g2 : w6.cell? ⟨B2, 0, none⟩ = some (.pointer (some ⟨RB, 0, none⟩)) := cell_keep HB.out.1 (hb06.block _ (hfar B2 f2).2.2)
   have hx6 : ∀ o, w6.cell? ⟨RB, o, none⟩ = (#[.int .i64 m.c, .int .i64 m.d, .int .i64 m.s, .int .i64 m.e, .int .i64 m.l, .slice ta t.length tc, .slice (some ⟨bs, offs, none⟩) steps.length sc, .int .i64 (s.1 : Int), .slice ga s.2.length gc] : Array Value)[o]? := fun o => by rw [hr6]; rfl
   have hM6 : V2 (fun _ => True) w6 (.slice ma (cuts.length + 1) mc) (cuts ++ [key]) := by
    have hM := HM.out.1
    rw [← HM.out.2] at hM
    exact (hM.below (((Below.refl _ _).alloc (Nat.le_refl _) _).drew.trans ((by rw [HX.out.1]; exact hb6.mono (by omega)) : Below w1.heap.size (w1.alloc (.cells #[.int .i64 x.1, .int .i64 x.2] 48)).drew w6))).any
   have hpf := partFaults_any m (.slice ta t.length tc) (.slice ma (cuts.length + 1) mc) t (cuts ++ [key]) n w6 (H.out.2.2.2.2.2.2.2.2.1.more hl hkey).fits hn (H.out.2.2.2.2.1.below hb06) hM6
   have hget := fun (hk : (falseL n t (cuts ++ [key])).length - 1 < (falseL n t (cuts ++ [key])).length) => falseL_get hk
   have hres0 : rdStep n t steps (readF n t (keysOf m) steps d) cuts s key = if hasL (falseL n t (cuts ++ [key])) [x.1, x.2] = true then ((s.1 + 1, s.2 ++ [lastStep (falseL n t (cuts ++ [key]))]), true) else (s, false) := by unfold rdStep; rw [if_neg H.out.2.2.2.1, H.out.2.2.2.2.2.2.2.2.2.2.1, if_neg (by rw [Ho.out]; decide)]
   obtain ⟨LL, hLL⟩ : ∃ L, falseL n t (cuts ++ [key]) = L := ⟨_, rfl⟩
   rw [hLL] at hpf hget hres0
   have Hpf := Lib.hid hpf; clear hpf
   have Hres0 := Lib.hid hres0; clear hres0
   have U0 : w6.cell? ⟨XB, 0, none⟩ = some (.int .i64 x.1) := cell_keep (hX5 0) (hb6.block _ (by omega))
   have U1 : w6.cell? ⟨XB, 1, none⟩ = some (.int .i64 x.2) := cell_keep (hX5 1) (hb6.block _ (by omega))
   clear hM6 hr6 hLL IHc
   go_wp2_with fail
   refine Hpf.out.mono ?_
   rintro e' w7 ⟨v7, rfl, hF7, hb7⟩
   obtain ⟨a7, c7', rfl, hm7⟩ := hF7.v2.form
   have hb07 := hb06.trans (hb7.mono hb06.size)
   have hz7 := hb7.size
   have Z0 := cell_keep U0 (hb7.block _ (by omega))
   have Z1 := cell_keep U1 (hb7.block _ (by omega))
   have hbA : Below w7.heap.size w7 (w7.alloc (.cells #[.int .i64 x.1, .int .i64 x.2] 2)) := (Below.refl _ _).alloc (Nat.le_refl _) _
   have hpr : X1 (w7.alloc (.cells #[.int .i64 x.1, .int .i64 x.2] 2)) (.slice (some ⟨w7.heap.size, 0, none⟩) 2 2) [x.1, x.2] w7.heap.size := pair_X1 (Below.refl _ _)
   have hF7A := hF7.v2.below hbA
   have HF7 := Lib.hid hF7; clear hF7 g2 hx6
   cases hh : hasL LL [x.1, x.2]
   ·have hres0 := Hres0.out
    rw [if_neg (by rw [hh]; decide)] at hres0
    have Hh := Lib.hid (And.intro hh hres0); clear hh hres0
    go_wp2_with fail
    refine (contains_b _ _ LL [x.1, x.2] _ _ Hh.out.1 hF7A (hpr.v1 (S := fun _ => True) (fun _ => trivial))).mono ?_
    rintro e' w8 ⟨rfl, hb8⟩
    have hb08 := hb07.trans ((hbA.trans (hb8.mono hbA.size)).mono hb07.size)
    have hF8 : w8.heap[FB]? = some (.cells #[.bool fl] 4 (0, 0)) := by rw [hb08.block FB (lt_of_heap H.out.2.1)]; exact H.out.2.1
    have cF : w8.cell? ⟨FB, 0, none⟩ = some (.bool fl) := by rw [cell_of_block hF8]; rfl
    have fF := frozen_of_block hF8 0
    have Hb8 := Lib.hid hb08; clear hb08 hF8
    go_wp2_with fail
    go_ret
    (try rw [Hh.out.2])
    exact ⟨_, rfl, (H.out.1.below Hb8.out).keep (by simp) (fun b hb => heap_setCell_other _ (fun e => H.out.2.2.1 (by have e2 : b = FB := e; rw [← e2]; exact hb))), heap_setCell_self (by rw [(Hb8.out).block FB (lt_of_heap H.out.2.1)]; exact H.out.2.1) _, (Chg.of_below Hb8.out).setCell (p := ⟨FB, 0, none⟩) (.inl (.inr rfl)) _, fun b hb => .inl hb⟩
   ·have hres0 := Hres0.out
    rw [if_pos hh] at hres0
    have hLpos : 0 < LL.length := by
     rcases Nat.eq_zero_or_pos LL.length with h0 | h0
     ·rw [List.length_eq_zero_iff.1 h0] at hh; simp [hasL] at hh
     ·exact h0
    obtain ⟨fi, fd, _, _, hrow, _, _⟩ := hget (by omega)
    obtain ⟨y, hy⟩ : ∃ y, lastStep LL = y := ⟨_, rfl⟩
    rw [hy] at hres0
    have hy1 : y = ((fi : Int), (fd : Int)) := by rw [← hy]; unfold lastStep; rw [hrow]; rfl
    have Hres := Lib.hid hres0
    have Hh := Lib.hid (And.intro hh (And.intro hres0 (And.intro hrow hy1))); clear hh hres0 hy hget
    clear hy1 hrow
    go_wp2_with fail
    refine (contains_b _ _ LL [x.1, x.2] _ _ Hh.out.1 hF7A (hpr.v1 (S := fun _ => True) (fun _ => trivial))).mono ?_
    rintro e' w8 ⟨rfl, hb8⟩
    have hb78 := hbA.trans (hb8.mono hbA.size)
    have hb08 := hb07.trans (hb78.mono hb07.size)
    have hC8 : Chg (fun b => RF RB (.slice ga s.2.length gc) b ∨ b = FB) w1 w8 := ((hC5.then_below hb6).then_below hb7).then_below hb78
    have hz8 := hb78.size
    have hX8 := hX5
    have hF8 := HF7.out.v2.below hb78
    obtain ⟨b4, off4, a4, c4, rfl, hS4, hc4, hr4⟩ := hF8.cell (show LL.length - 1 < LL.length by omega)
    rw [Hh.out.2.2.1] at hc4 hr4
    obtain ⟨b5, off5, rfl, hS5, hc5⟩ := hr4.cell (k := 0) (by simp)
    obtain ⟨b6, off6, e6, _, hc6⟩ := hr4.cell (k := 1) (by simp)
    obtain ⟨rfl, rfl⟩ : b5 = b6 ∧ off5 = off6 := by simpa using e6
    have hb4l := lt_of_cell hc4
    have hb5l := lt_of_cell hc5
    simp only [geti, List.getD_cons_zero, List.getD_cons_succ, List.length_cons, List.length_nil, Nat.add_zero, Nat.zero_add] at hc4 hc5 hc6
    have hye1 : ((fi : Int)) = y.1 := by rw [Hh.out.2.2.2]
    have hye2 : ((fd : Int)) = y.2 := by rw [Hh.out.2.2.2]
    rw [hye1] at hc5
    rw [hye2] at hc6
    have hR6 := H.out.1.below hb08
    have hF6 : w8.heap[FB]? = some (.cells #[.bool fl] 4 (0, 0)) := by rw [hb08.block FB (lt_of_heap H.out.2.1)]; exact H.out.2.1
    have hr6 := hR6.cell
    have c2 : w8.cell? ⟨B2, 0, none⟩ = some (.pointer (some ⟨RB, 0, none⟩)) := cell_keep HB.out.1 (hb08.block _ (hfar B2 f2).2.2)
    have c7 : w8.cell? ⟨RB, 7, none⟩ = some (.int .i64 (s.1 : Int)) := by rw [hr6]; rfl
    have c8 : w8.cell? ⟨RB, 8, none⟩ = some (.slice ga s.2.length gc) := by rw [hr6]; rfl
    have cF : w8.cell? ⟨FB, 0, none⟩ = some (.bool fl) := by rw [cell_of_block hF6]; rfl
    have fF := frozen_of_block hF6 0
    have fR := frozen_of_block hR6.hh 7
    have hn1 : ¬ B2 = FB := (hfar B2 f2).2.1
    have hn2 : ¬ B2 = RB := fun e => (hfar B2 f2).1 (.inl e)
    have hn3 : ¬ RB = FB := fun e => H.out.2.2.1 (.inl e.symm)
    have hn4 : ¬ FB = RB := fun e => hn3 e.symm
    have hwr : IntKind.i64.wrap ((s.1 : Int) + 1) = (s.1 : Int) + 1 := IntWalk.i64_in _ (by omega)
    have hwl : IntKind.i64.wrap ((LL.length : Int) - 1) = ((LL.length - 1 : Nat) : Int) := by rw [IntWalk.i64_in _ (by omega)]; omega
    have hli : ((LL.length - 1 : Nat) : Int) < (LL.length : Int) := by omega
    have X0 := hc5
    have X1 := hc6
    have hb5n : ¬ b5 = FB := fun e => by have := lt_of_heap H.out.2.1; omega
    have hb5m : ¬ b5 = RB := fun e => by have := lt_of_heap H.out.1.hh; omega
    have hb4n : ¬ b4 = FB := fun e => by have := lt_of_heap H.out.2.1; omega
    have hb4m : ¬ b4 = RB := fun e => by have := lt_of_heap H.out.1.hh; omega
    have H6 := Lib.hid (And.intro hR6 (And.intro hF6 (And.intro hC8 (And.intro hb08 hX8)))); clear hR6 hF6 hX5 hX8 hC5 hr6 hb6 hb06 hb05 hb7 hb07 hF8 hr4 e6 hpr hF7A hbA Z0 Z1 hC8 hb8 hb78 hb08
    go_wp2_with fail
    obtain ⟨wy, hwy⟩ : ∃ wy, (w8.setCell ⟨FB, 0, none⟩ (.bool true)).setCell ⟨RB, 7, none⟩ (.int .i64 ((s.1 : Int) + 1)) = wy := ⟨_, rfl⟩
    have hC7 : Chg (fun b => b = FB ∨ b = RB) w8 wy := by rw [← hwy]; exact ((Chg.refl _ w8).setCell (p := ⟨FB, 0, none⟩) (.inl (.inl rfl)) _).setCell (p := ⟨RB, 7, none⟩) (.inl (.inr rfl)) _
    have hhy : wy.heap[RB]? = some (.cells (rdCells m (.slice ta t.length tc) (.slice (some ⟨bs, offs, none⟩) steps.length sc) (s.1 + 1) (.slice ga s.2.length gc)) 66 (0, 0)) := by
     rw [← hwy, heap_setCell_self (by rw [heap_setCell_other _ hn3]; exact H6.out.1.hh)]
     simp [rdCells]
    have hFy : wy.heap[FB]? = some (.cells #[.bool true] 4 (0, 0)) := by
     rw [← hwy, heap_setCell_other _ hn4, heap_setCell_self H6.out.2.1]; rfl
    rw [hwy]
    have howny := own_chgz H6.out.1.own hC7 (fun g hg => by
     rintro (e | e)
     ·exact H.out.2.2.1 (.inr (e ▸ hg))
     ·exact H.out.1.ne (e ▸ hg))
    have hCy : Chg (fun b => RF RB (.slice ga s.2.length gc) b ∨ b = FB) w1 wy := H6.out.2.2.1.trans hC7 (fun i hi => .inl (by rcases hi with e | e; exact .inr e; exact .inl (.inl e)))
    have hCwy : Chg (fun b => RF RB (.slice ga s.2.length gc) b ∨ b = FB) w wy := (Chg.of_below hb04).trans hCy (fun _ h => .inl h)
    have hzy := hCwy.size
    have hzy1 := hCy.size
    have hzy6 := hC7.size
    have hzl : s.2.length ≤ 1200 := by have h1 := H.out.2.2.2.2.2.2.1.2; have h2 := H.out.2.2.2.2.2.2.1.1; omega
    have hgB2 : Value.ownBlock (.slice ga s.2.length gc) ≠ some B2 := fun e => (hfar B2 f2).1 (.inr e)
    have hFl : B2 < wy.heap.size ∧ RB < wy.heap.size ∧ b5 < wy.heap.size := ⟨by have := (hfar B2 f2).2.2; omega, lt_of_heap hhy, by omega⟩
    have d2 : ∀ o, (wy.alloc o).cell? ⟨B2, 0, none⟩ = some (.pointer (some ⟨RB, 0, none⟩)) := fun o => cell_keep HB.out.1 (((Below.heap_alloc wy o B2 hFl.1)).trans (hCwy.block _ (hfar B2 f2).2.2 (fun hf => by rcases hf with hf | hf; exact (hfar B2 f2).1 hf; exact hn1 hf)))
    have d2' : wy.cell? ⟨B2, 0, none⟩ = some (.pointer (some ⟨RB, 0, none⟩)) := cell_keep HB.out.1 (hCwy.block _ (hfar B2 f2).2.2 (fun hf => by rcases hf with hf | hf; exact (hfar B2 f2).1 hf; exact hn1 hf))
    have d8' : wy.cell? ⟨RB, 8, none⟩ = some (.slice ga s.2.length gc) := by rw [cell_of_block hhy]; rfl
    have d8 : ∀ o, (wy.alloc o).cell? ⟨RB, 8, none⟩ = some (.slice ga s.2.length gc) := fun o => cell_keep d8' (Below.heap_alloc wy o RB hFl.2.1)
    have hXB1 : ¬ b5 = FB := fun e => by have := lt_of_heap H.out.2.1; omega
    have hXB2 : ¬ b5 = RB := fun e => by have := lt_of_heap H.out.1.hh; omega
    have Y0' : wy.cell? ⟨b5, off5, none⟩ = some (.int .i64 y.1) := cell_keep X0 (hC7.block _ (by omega) (fun h => by rcases h with h | h; exact hXB1 h; exact hXB2 h))
    have Y1' : wy.cell? ⟨b5, off5 + 1, none⟩ = some (.int .i64 y.2) := cell_keep X1 (hC7.block _ (by omega) (fun h => by rcases h with h | h; exact hXB1 h; exact hXB2 h))
    have Y0 : ∀ o, (wy.alloc o).cell? ⟨b5, off5, none⟩ = some (.int .i64 y.1) := fun o => cell_keep Y0' (Below.heap_alloc wy o b5 hFl.2.2)
    have Y1 : ∀ o, (wy.alloc o).cell? ⟨b5, off5 + 1, none⟩ = some (.int .i64 y.2) := fun o => cell_keep Y1' (Below.heap_alloc wy o b5 hFl.2.2)
    have hne := H.out.1.ne
    have hlo : B ≤ wy.heap.size := Nat.le_trans H.out.1.lo hzy
    have HY := Lib.hid (And.intro hhy (And.intro hFy (And.intro hCy (And.intro hCwy (And.intro hC7 hwy))))); clear hFy hCy hC7 hCwy hwy
    have hgX : Value.ownBlock (.slice ga s.2.length gc) ≠ some b5 := fun e => by have := H.out.1.lt (b := b5) (.inr e); omega
    have hS0 := And.intro d2' (And.intro Y0' Y1')
    have hS1 := fun o => And.intro (d2 o) (And.intro (Y0 o) (Y1 o))
    refine wp_region_noPanic ?_
    refine wp_region_held_drew (S := fun w' => w'.cell? ⟨B2, 0, none⟩ = some (.pointer (some ⟨RB, 0, none⟩)) ∧ w'.cell? ⟨b5, off5, none⟩ = some (.int .i64 y.1) ∧ w'.cell? ⟨b5, off5 + 1, none⟩ = some (.int .i64 y.2)) (by kernel_rfl) hS0 (fun hHeld => ?_)
    (refine wpAnyH_take (i := 0) (v := .pointer (some ⟨RB, 0, none⟩)) rfl (by kernel_rfl) (by kernel_rfl) (by kernel_rfl) (fun _ _ _ h => h) (Or.inl ⟨by kernel_rfl, fun w hSw => by (try dsimp only at hSw); go_split_ands; go_simp⟩) (by assumption) ?_; simp only [Act.put, List.setIfInBounds_toArray, List.set_cons_zero, List.set_cons_succ])
    (refine wpAnyH_take (i := 1) (v := .pointer (some ⟨RB, 0, none⟩)) rfl (by kernel_rfl) (by kernel_rfl) (by kernel_rfl) (fun _ _ _ h => h) (Or.inl ⟨by kernel_rfl, fun w hSw => by (try dsimp only at hSw); go_split_ands; go_simp⟩) (by assumption) ?_; simp only [Act.put, List.setIfInBounds_toArray, List.set_cons_zero, List.set_cons_succ])
    (refine wpAnyH_take (i := 2) (v := .pointer (some ⟨RB, 0, none⟩)) rfl (by kernel_rfl) (by kernel_rfl) (by kernel_rfl) (fun _ _ _ h => h) (Or.inl ⟨by kernel_rfl, fun w hSw => by (try dsimp only at hSw); go_split_ands; go_simp⟩) (by assumption) ?_; simp only [Act.put, List.setIfInBounds_toArray, List.set_cons_zero, List.set_cons_succ])
    (refine wpAnyH_take (i := 3) (v := .pointer (some ⟨RB, 8, none⟩)) rfl (by kernel_rfl) (by kernel_rfl) (by kernel_rfl) (fun _ _ _ h => h) (Or.inl ⟨by kernel_rfl, fun w hSw => by (try dsimp only at hSw); go_split_ands; go_simp⟩) (by assumption) ?_; simp only [Act.put, List.setIfInBounds_toArray, List.set_cons_zero, List.set_cons_succ])
    (refine wpAnyH_take (i := 5) (v := .slice (some ⟨b5, off5, none⟩) 2 c4) rfl (by kernel_rfl) (by kernel_rfl) (by kernel_rfl) (fun _ _ _ h => h) (Or.inl ⟨by kernel_rfl, fun w hSw => by (try dsimp only at hSw); go_split_ands; go_simp⟩) (by assumption) ?_; simp only [Act.put, List.setIfInBounds_toArray, List.set_cons_zero, List.set_cons_succ])
    (refine wpAnyH_take (i := 6) (v := .pointer (some ⟨b5, off5, none⟩)) rfl (by kernel_rfl) (by kernel_rfl) (by kernel_rfl) (fun _ _ _ h => h) (Or.inl ⟨by kernel_rfl, fun w hSw => by (try dsimp only at hSw); go_split_ands; go_simp⟩) (by assumption) ?_; simp only [Act.put, List.setIfInBounds_toArray, List.set_cons_zero, List.set_cons_succ])
    (refine wpAnyH_take (i := 7) (v := .int .i64 y.1) rfl (by kernel_rfl) (by kernel_rfl) (by kernel_rfl) (fun _ _ _ h => h) (Or.inl ⟨by kernel_rfl, fun w hSw => by (try dsimp only at hSw); go_split_ands; go_simp⟩) (by assumption) ?_; simp only [Act.put, List.setIfInBounds_toArray, List.set_cons_zero, List.set_cons_succ])
    (refine wpAnyH_take (i := 8) (v := .slice (some ⟨b5, off5, none⟩) 2 c4) rfl (by kernel_rfl) (by kernel_rfl) (by kernel_rfl) (fun _ _ _ h => h) (Or.inl ⟨by kernel_rfl, fun w hSw => by (try dsimp only at hSw); go_split_ands; go_simp⟩) (by assumption) ?_; simp only [Act.put, List.setIfInBounds_toArray, List.set_cons_zero, List.set_cons_succ])
    (refine wpAnyH_take (i := 9) (v := .pointer (some ⟨b5, off5 + 1, none⟩)) rfl (by kernel_rfl) (by kernel_rfl) (by kernel_rfl) (fun _ _ _ h => h) (Or.inl ⟨by kernel_rfl, fun w hSw => by (try dsimp only at hSw); go_split_ands; go_simp⟩) (by assumption) ?_; simp only [Act.put, List.setIfInBounds_toArray, List.set_cons_zero, List.set_cons_succ])
    (refine wpAnyH_take (i := 10) (v := .int .i64 y.2) rfl (by kernel_rfl) (by kernel_rfl) (by kernel_rfl) (fun _ _ _ h => h) (Or.inl ⟨by kernel_rfl, fun w hSw => by (try dsimp only at hSw); go_split_ands; go_simp⟩) (by assumption) ?_; simp only [Act.put, List.setIfInBounds_toArray, List.set_cons_zero, List.set_cons_succ])
    (refine wpAnyH_take (i := 11) (v := .agg #[.int .i64 y.1, .int .i64 y.2]) rfl (by kernel_rfl) (by kernel_rfl) (by kernel_rfl) (fun _ _ _ h => h) (Or.inl ⟨by kernel_rfl, fun w hSw => by (try dsimp only at hSw); go_split_ands; go_simp⟩) (by assumption) ?_; simp only [Act.put, List.setIfInBounds_toArray, List.set_cons_zero, List.set_cons_succ])
    refine wpAnyH_ready (rs := [4, 12]) (by kernel_rfl) (by simp) (AllReadyH.cons rfl (fun K hK => ?_) (AllReadyH.cons rfl (fun K hK => ?_) AllReadyH.nil))
    ·go_simp
     (refine hK.out _ _ hS0 (fun hHeld => ?_); clear hK K; (try simp only [Act.put, List.setIfInBounds_toArray, List.set_cons_zero, List.set_cons_succ]))
     (refine wpAnyH_ready (rs := [12]) (by kernel_rfl) (by simp) (AllReadyH.cons rfl (fun K hK => ?_) AllReadyH.nil); go_simp)
     (refine hK.out _ _ (hS1 _) (fun hHeld => ?_); clear hK K; (try simp only [Act.put, List.setIfInBounds_toArray, List.set_cons_zero, List.set_cons_succ]))
     refine wpAnyH_ready (rs := [13]) (by kernel_rfl) (by simp) (AllReadyH.cons rfl (fun K hK => ?_) AllReadyH.nil)
     refine step_append_lies _ (by rfl) _ _ _ (by rfl) B 48 iS _ 2 16 Tryz.underlying24 hiS hzS0 hzS1 hzS2 rfl (by omega) _ s.2.length _ (by rfl) (howny.alloc _) ⟨_, 0, none⟩ 1 1 [.int .i64 y.1, .int .i64 y.2] (by rfl) (by rfl) (World.news_of_block (heap_alloc_new _ _)) (by simp [Value.oneCell']) (by omega) (by unfold maxLen; omega) (by omega) (by simp; omega) _ rfl ?_
     intro gg cap w8 hown8 hgrow8 hat8 hlt8
     have hh8 := (show w8.heap[RB]? = some (.cells (rdCells m (.slice ta t.length tc) (.slice (some ⟨bs, offs, none⟩) steps.length sc) (s.1 + 1) (.slice ga s.2.length gc)) 66 (0, 0)) from by rw [hgrow8.block RB (by simp; omega) (fun e => hne e.symm)]; exact (Below.heap_alloc wy _ RB hFl.2.1).trans hhy)
     have h88 := (show w8.cell? ⟨RB, 8, none⟩ = some (.slice ga s.2.length gc) from by rw [cell_of_block hh8]; rfl)
     have h8f := frozen_of_block hh8 8
     have h82 := (show w8.cell? ⟨B2, 0, none⟩ = some (.pointer (some ⟨RB, 0, none⟩)) from cell_keep (d2 _) (hgrow8.block B2 (by simp; omega) (fun e => hgB2 e.symm)))
     have h8X0 := cell_keep (Y0 _) (hgrow8.block b5 (by simp; omega) (fun e => hgX e.symm))
     have h8X1 := cell_keep (Y1 _) (hgrow8.block b5 (by simp; omega) (fun e => hgX e.symm))
     have hS8 := And.intro h82 (And.intro h8X0 h8X1)
     (refine hK.out _ _ hS8 (fun hHeld => ?_); clear hK K; (try simp only [Act.put, List.setIfInBounds_toArray, List.set_cons_zero, List.set_cons_succ]))
     (refine wpAnyH_take (i := 14) (v := .pointer (some ⟨RB, 0, none⟩)) rfl (by kernel_rfl) (by kernel_rfl) (by kernel_rfl) (fun _ _ _ h => h) (Or.inl ⟨by kernel_rfl, fun w hSw => by (try dsimp only at hSw); go_split_ands; go_simp⟩) (by assumption) ?_; simp only [Act.put, List.setIfInBounds_toArray, List.set_cons_zero, List.set_cons_succ])
     (refine wpAnyH_take (i := 15) (v := .pointer (some ⟨RB, 8, none⟩)) rfl (by kernel_rfl) (by kernel_rfl) (by kernel_rfl) (fun _ _ _ h => h) (Or.inl ⟨by kernel_rfl, fun w hSw => by (try dsimp only at hSw); go_split_ands; go_simp⟩) (by assumption) ?_; simp only [Act.put, List.setIfInBounds_toArray, List.set_cons_zero, List.set_cons_succ])
     (refine wpAnyH_ready (rs := [16]) (by kernel_rfl) (by simp) (AllReadyH.cons rfl (fun K hK => ?_) AllReadyH.nil); go_simp)
     have hS9 := And.intro (cell_keep h82 (heap_setCell_other (b := RB) (off := 8) (.slice (some ⟨gg, 0, none⟩) (s.2.length + 1) cap) hn2)) (And.intro (cell_keep h8X0 (heap_setCell_other (b := RB) (off := 8) (.slice (some ⟨gg, 0, none⟩) (s.2.length + 1) cap) hXB2)) (cell_keep h8X1 (heap_setCell_other (b := RB) (off := 8) (.slice (some ⟨gg, 0, none⟩) (s.2.length + 1) cap) hXB2)))
     (refine hK.out _ _ hS9 (fun hHeld => ?_); clear hK K; (try simp only [Act.put, List.setIfInBounds_toArray, List.set_cons_zero, List.set_cons_succ]))
     refine wpAnyH_done (by kernel_rfl) (NoPanic.normal ?_) _
     obtain ⟨hP1, hP2, hP3⟩ := rd_push (x := y) hhy howny hne H.out.2.2.2.2.2.2.1 H.out.2.2.2.2.2.2.2.2.2.1 hlo rfl hown8 hgrow8 hat8
     obtain ⟨wz, hwz⟩ : ∃ wz, w8.setCell ⟨RB, 8, none⟩ (.slice (some ⟨gg, 0, none⟩) (s.2.length + 1) cap) = wz := ⟨_, rfl⟩
     rw [hwz] at hP1 hP2 ⊢
     have hsz := hP2.size
     have hCz := HY.out.2.2.1.trans hP2 (fun i hi => .inl (.inl hi))
     have hCwz := HY.out.2.2.2.1.trans hP2 (fun i hi => .inl (.inl hi))
     have hfarz : ∀ b, Far b → ¬ RF RB (.slice (some ⟨gg, 0, none⟩) (s.2.length + 1) cap) b := fun b hb h => by
      rcases hP3 b h with h | h
      ·exact (hfar b hb).1 h
      ·have := (hfar b hb).2.2; omega
     have hkz : Keep Far w wz := hCwz.keep fun b hb h => by
      rcases h with h | h
      ·exact (hfar b hb).1 h
      ·exact (hfar b hb).2.1 h
     have hFl0 := lt_of_heap H.out.2.1
     have hFz : ¬ RF RB (.slice (some ⟨gg, 0, none⟩) (s.2.length + 1) cap) FB := fun h => by
      rcases hP3 FB h with h | h
      ·exact H.out.2.2.1 h
      ·omega
     have hFzh : wz.heap[FB]? = some (.cells #[.bool true] 4 (0, 0)) := by rw [hP2.block FB (by omega) H.out.2.2.1]; exact HY.out.2.1
     have d2z := cell_keep HB.out.1 (hkz B2 f2 (hfar B2 f2).2.2)
     have HP := Lib.hid (And.intro hP1 (And.intro hP2 (And.intro hP3 (And.intro hCz (And.intro hCwz (And.intro hkz (And.intro hfarz (And.intro hFz hFzh))))))))
     clear hP1 hP2 hP3 hCz hCwz hkz hfarz hFz hFzh hhy howny hown8 hgrow8 hat8 hh8 h88 h8f h82 h8X0 h8X1 hS8 hS9 d2 d2' d8 d8' Y0 Y0' Y1 Y1' hS0 hS1 hwz
     have hFq : wz.heap[FB]? = some (.cells #[.bool true] 4 (0, 0)) := HP.out.2.2.2.2.2.2.2.2
     have cFq : wz.cell? ⟨FB, 0, none⟩ = some (.bool true) := by rw [cell_of_block hFq]; rfl
     have hsb : ∀ b, RF RB (.slice (some ⟨gg, 0, none⟩) (s.2.length + 1) cap) b → RF RB (.slice ga s.2.length gc) b ∨ w.heap.size ≤ b := fun b h => by
      rcases HP.out.2.2.1 b h with h | h
      ·exact .inl h
      ·right; omega
     have HQ := Lib.hid (And.intro hFq hsb); clear hFq hsb
     go_wp2_with fail
     go_ret
     (try rw [Hres.out])
     exact ⟨_, rfl, HP.out.1, HQ.out.1, HP.out.2.2.2.2.1, HQ.out.2⟩
    ·go_simp
     (refine hK.out _ _ (hS1 _) (fun hHeld => ?_); clear hK K; (try simp only [Act.put, List.setIfInBounds_toArray, List.set_cons_zero, List.set_cons_succ]))
     (refine wpAnyH_ready (rs := [4]) (by kernel_rfl) (by simp) (AllReadyH.cons rfl (fun K hK => ?_) AllReadyH.nil); go_simp)
     (refine hK.out _ _ (hS1 _) (fun hHeld => ?_); clear hK K; (try simp only [Act.put, List.setIfInBounds_toArray, List.set_cons_zero, List.set_cons_succ]))
     refine wpAnyH_ready (rs := [13]) (by kernel_rfl) (by simp) (AllReadyH.cons rfl (fun K hK => ?_) AllReadyH.nil)
     refine step_append_lies _ (by rfl) _ _ _ (by rfl) B 48 iS _ 2 16 Tryz.underlying24 hiS hzS0 hzS1 hzS2 rfl (by omega) _ s.2.length _ (by rfl) (howny.alloc _) ⟨_, 0, none⟩ 1 1 [.int .i64 y.1, .int .i64 y.2] (by rfl) (by rfl) (World.news_of_block (heap_alloc_new _ _)) (by simp [Value.oneCell']) (by omega) (by unfold maxLen; omega) (by omega) (by simp; omega) _ rfl ?_
     intro gg cap w8 hown8 hgrow8 hat8 hlt8
     have hh8 := (show w8.heap[RB]? = some (.cells (rdCells m (.slice ta t.length tc) (.slice (some ⟨bs, offs, none⟩) steps.length sc) (s.1 + 1) (.slice ga s.2.length gc)) 66 (0, 0)) from by rw [hgrow8.block RB (by simp; omega) (fun e => hne e.symm)]; exact (Below.heap_alloc wy _ RB hFl.2.1).trans hhy)
     have h88 := (show w8.cell? ⟨RB, 8, none⟩ = some (.slice ga s.2.length gc) from by rw [cell_of_block hh8]; rfl)
     have h8f := frozen_of_block hh8 8
     have h82 := (show w8.cell? ⟨B2, 0, none⟩ = some (.pointer (some ⟨RB, 0, none⟩)) from cell_keep (d2 _) (hgrow8.block B2 (by simp; omega) (fun e => hgB2 e.symm)))
     have h8X0 := cell_keep (Y0 _) (hgrow8.block b5 (by simp; omega) (fun e => hgX e.symm))
     have h8X1 := cell_keep (Y1 _) (hgrow8.block b5 (by simp; omega) (fun e => hgX e.symm))
     have hS8 := And.intro h82 (And.intro h8X0 h8X1)
     (refine hK.out _ _ hS8 (fun hHeld => ?_); clear hK K; (try simp only [Act.put, List.setIfInBounds_toArray, List.set_cons_zero, List.set_cons_succ]))
     (refine wpAnyH_take (i := 14) (v := .pointer (some ⟨RB, 0, none⟩)) rfl (by kernel_rfl) (by kernel_rfl) (by kernel_rfl) (fun _ _ _ h => h) (Or.inl ⟨by kernel_rfl, fun w hSw => by (try dsimp only at hSw); go_split_ands; go_simp⟩) (by assumption) ?_; simp only [Act.put, List.setIfInBounds_toArray, List.set_cons_zero, List.set_cons_succ])
     (refine wpAnyH_take (i := 15) (v := .pointer (some ⟨RB, 8, none⟩)) rfl (by kernel_rfl) (by kernel_rfl) (by kernel_rfl) (fun _ _ _ h => h) (Or.inl ⟨by kernel_rfl, fun w hSw => by (try dsimp only at hSw); go_split_ands; go_simp⟩) (by assumption) ?_; simp only [Act.put, List.setIfInBounds_toArray, List.set_cons_zero, List.set_cons_succ])
     (refine wpAnyH_ready (rs := [16]) (by kernel_rfl) (by simp) (AllReadyH.cons rfl (fun K hK => ?_) AllReadyH.nil); go_simp)
     have hS9 := And.intro (cell_keep h82 (heap_setCell_other (b := RB) (off := 8) (.slice (some ⟨gg, 0, none⟩) (s.2.length + 1) cap) hn2)) (And.intro (cell_keep h8X0 (heap_setCell_other (b := RB) (off := 8) (.slice (some ⟨gg, 0, none⟩) (s.2.length + 1) cap) hXB2)) (cell_keep h8X1 (heap_setCell_other (b := RB) (off := 8) (.slice (some ⟨gg, 0, none⟩) (s.2.length + 1) cap) hXB2)))
     (refine hK.out _ _ hS9 (fun hHeld => ?_); clear hK K; (try simp only [Act.put, List.setIfInBounds_toArray, List.set_cons_zero, List.set_cons_succ]))
     refine wpAnyH_done (by kernel_rfl) (NoPanic.normal ?_) _
     obtain ⟨hP1, hP2, hP3⟩ := rd_push (x := y) hhy howny hne H.out.2.2.2.2.2.2.1 H.out.2.2.2.2.2.2.2.2.2.1 hlo rfl hown8 hgrow8 hat8
     obtain ⟨wz, hwz⟩ : ∃ wz, w8.setCell ⟨RB, 8, none⟩ (.slice (some ⟨gg, 0, none⟩) (s.2.length + 1) cap) = wz := ⟨_, rfl⟩
     rw [hwz] at hP1 hP2 ⊢
     have hsz := hP2.size
     have hCz := HY.out.2.2.1.trans hP2 (fun i hi => .inl (.inl hi))
     have hCwz := HY.out.2.2.2.1.trans hP2 (fun i hi => .inl (.inl hi))
     have hfarz : ∀ b, Far b → ¬ RF RB (.slice (some ⟨gg, 0, none⟩) (s.2.length + 1) cap) b := fun b hb h => by
      rcases hP3 b h with h | h
      ·exact (hfar b hb).1 h
      ·have := (hfar b hb).2.2; omega
     have hkz : Keep Far w wz := hCwz.keep fun b hb h => by
      rcases h with h | h
      ·exact (hfar b hb).1 h
      ·exact (hfar b hb).2.1 h
     have hFl0 := lt_of_heap H.out.2.1
     have hFz : ¬ RF RB (.slice (some ⟨gg, 0, none⟩) (s.2.length + 1) cap) FB := fun h => by
      rcases hP3 FB h with h | h
      ·exact H.out.2.2.1 h
      ·omega
     have hFzh : wz.heap[FB]? = some (.cells #[.bool true] 4 (0, 0)) := by rw [hP2.block FB (by omega) H.out.2.2.1]; exact HY.out.2.1
     have d2z := cell_keep HB.out.1 (hkz B2 f2 (hfar B2 f2).2.2)
     have HP := Lib.hid (And.intro hP1 (And.intro hP2 (And.intro hP3 (And.intro hCz (And.intro hCwz (And.intro hkz (And.intro hfarz (And.intro hFz hFzh))))))))
     clear hP1 hP2 hP3 hCz hCwz hkz hfarz hFz hFzh hhy howny hown8 hgrow8 hat8 hh8 h88 h8f h82 h8X0 h8X1 hS8 hS9 d2 d2' d8 d8' Y0 Y0' Y1 Y1' hS0 hS1 hwz
     have hFq : wz.heap[FB]? = some (.cells #[.bool true] 4 (0, 0)) := HP.out.2.2.2.2.2.2.2.2
     have cFq : wz.cell? ⟨FB, 0, none⟩ = some (.bool true) := by rw [cell_of_block hFq]; rfl
     have hsb : ∀ b, RF RB (.slice (some ⟨gg, 0, none⟩) (s.2.length + 1) cap) b → RF RB (.slice ga s.2.length gc) b ∨ w.heap.size ≤ b := fun b h => by
      rcases HP.out.2.2.1 b h with h | h
      ·exact .inl h
      ·right; omega
     have HQ := Lib.hid (And.intro hFq hsb); clear hFq hsb
     go_wp2_with fail
     go_ret
     (try rw [Hres.out])
     exact ⟨_, rfl, HP.out.1, HQ.out.1, HP.out.2.2.2.2.1, HQ.out.2⟩
  ·have Ho := Lib.hid ho; clear ho
   go_wp2_with fail
   refine (isOpenStep_b _ _ _ Ho.out).mono ?_
   rintro e' w6 ⟨rfl, hb6⟩
   have hb06 := hb05.trans (hb6.mono hb05.size)
   have hC6 := hC5.then_below hb6
   have hz6 := hb6.size
   have hR6 := H.out.1.below hb06
   have hF6 : w6.heap[FB]? = some (.cells #[.bool fl] 4 (0, 0)) := by rw [hb06.block FB (lt_of_heap H.out.2.1)]; exact H.out.2.1
   have hr6 := hR6.cell
   have c2 : w6.cell? ⟨B2, 0, none⟩ = some (.pointer (some ⟨RB, 0, none⟩)) := cell_keep HB.out.1 (hb06.block _ (hfar B2 f2).2.2)
   have c7 : w6.cell? ⟨RB, 7, none⟩ = some (.int .i64 (s.1 : Int)) := by rw [hr6]; rfl
   have c8 : w6.cell? ⟨RB, 8, none⟩ = some (.slice ga s.2.length gc) := by rw [hr6]; rfl
   have cF : w6.cell? ⟨FB, 0, none⟩ = some (.bool fl) := by rw [cell_of_block hF6]; rfl
   have fF := frozen_of_block hF6 0
   have fR := frozen_of_block hR6.hh 7
   have hn1 : ¬ B2 = FB := (hfar B2 f2).2.1
   have hn2 : ¬ B2 = RB := fun e => (hfar B2 f2).1 (.inl e)
   have hn3 : ¬ RB = FB := fun e => H.out.2.2.1 (.inl e.symm)
   have hn4 : ¬ FB = RB := fun e => hn3 e.symm
   have c5 : w6.cell? ⟨RB, 6 - 1, none⟩ = some (.slice ta t.length tc) := by rw [hr6]; rfl
   have X0 : w6.cell? ⟨XB, 0, none⟩ = some (.int .i64 x.1) := cell_keep (hX5 0) (hb6.block _ (by omega))
   have X1 : w6.cell? ⟨XB, 1, none⟩ = some (.int .i64 x.2) := cell_keep (hX5 1) (hb6.block _ (by omega))
   simp only [Nat.reduceSub] at c5
   by_cases hmo : cuts.length + 1 < t.length
   ·have e2 : decide (((cuts ++ [key]).length : Int) < (t.length : Int)) = true := by simp; omega
    have hwr : IntKind.i64.wrap ((s.1 : Int) + 1) = (s.1 : Int) + 1 := IntWalk.i64_in _ (by omega)
    have H6 := Lib.hid (And.intro hR6 (And.intro hF6 (And.intro hC6 (And.intro hb06 hX5)))); clear hR6 hF6 hC6 hX5 hC5 hr6 hb6 hb06 hb05
    go_wp2_with fail
    obtain ⟨wy, hwy⟩ : ∃ wy, (w6.setCell ⟨FB, 0, none⟩ (.bool true)).setCell ⟨RB, 7, none⟩ (.int .i64 ((s.1 : Int) + 1)) = wy := ⟨_, rfl⟩
    have hC7 : Chg (fun b => b = FB ∨ b = RB) w6 wy := by rw [← hwy]; exact ((Chg.refl _ w6).setCell (p := ⟨FB, 0, none⟩) (.inl (.inl rfl)) _).setCell (p := ⟨RB, 7, none⟩) (.inl (.inr rfl)) _
    have hhy : wy.heap[RB]? = some (.cells (rdCells m (.slice ta t.length tc) (.slice (some ⟨bs, offs, none⟩) steps.length sc) (s.1 + 1) (.slice ga s.2.length gc)) 66 (0, 0)) := by
     rw [← hwy, heap_setCell_self (by rw [heap_setCell_other _ hn3]; exact H6.out.1.hh)]
     simp [rdCells]
    have hFy : wy.heap[FB]? = some (.cells #[.bool true] 4 (0, 0)) := by
     rw [← hwy, heap_setCell_other _ hn4, heap_setCell_self H6.out.2.1]; rfl
    rw [hwy]
    have howny := own_chgz H6.out.1.own hC7 (fun g hg => by
     rintro (e | e)
     ·exact H.out.2.2.1 (.inr (e ▸ hg))
     ·exact H.out.1.ne (e ▸ hg))
    have hCy : Chg (fun b => RF RB (.slice ga s.2.length gc) b ∨ b = FB) w1 wy := H6.out.2.2.1.trans hC7 (fun i hi => .inl (by rcases hi with e | e; exact .inr e; exact .inl (.inl e)))
    have hCwy : Chg (fun b => RF RB (.slice ga s.2.length gc) b ∨ b = FB) w wy := (Chg.of_below hb04).trans hCy (fun _ h => .inl h)
    have hzy := hCwy.size
    have hzy1 := hCy.size
    have hzy6 := hC7.size
    have hzl : s.2.length ≤ 1200 := by have h1 := H.out.2.2.2.2.2.2.1.2; have h2 := H.out.2.2.2.2.2.2.1.1; omega
    have hgB2 : Value.ownBlock (.slice ga s.2.length gc) ≠ some B2 := fun e => (hfar B2 f2).1 (.inr e)
    have hFl : B2 < wy.heap.size ∧ RB < wy.heap.size ∧ XB < wy.heap.size := ⟨by have := (hfar B2 f2).2.2; omega, lt_of_heap hhy, by omega⟩
    have d2 : ∀ o, (wy.alloc o).cell? ⟨B2, 0, none⟩ = some (.pointer (some ⟨RB, 0, none⟩)) := fun o => cell_keep HB.out.1 (((Below.heap_alloc wy o B2 hFl.1)).trans (hCwy.block _ (hfar B2 f2).2.2 (fun hf => by rcases hf with hf | hf; exact (hfar B2 f2).1 hf; exact hn1 hf)))
    have d2' : wy.cell? ⟨B2, 0, none⟩ = some (.pointer (some ⟨RB, 0, none⟩)) := cell_keep HB.out.1 (hCwy.block _ (hfar B2 f2).2.2 (fun hf => by rcases hf with hf | hf; exact (hfar B2 f2).1 hf; exact hn1 hf))
    have d8' : wy.cell? ⟨RB, 8, none⟩ = some (.slice ga s.2.length gc) := by rw [cell_of_block hhy]; rfl
    have d8 : ∀ o, (wy.alloc o).cell? ⟨RB, 8, none⟩ = some (.slice ga s.2.length gc) := fun o => cell_keep d8' (Below.heap_alloc wy o RB hFl.2.1)
    have hXB1 : ¬ XB = FB := fun e => by have := lt_of_heap H.out.2.1; omega
    have hXB2 : ¬ XB = RB := fun e => by have := lt_of_heap H.out.1.hh; omega
    have Y0' : wy.cell? ⟨XB, 0, none⟩ = some (.int .i64 x.1) := cell_keep X0 (hC7.block _ (by omega) (fun h => by rcases h with h | h; exact hXB1 h; exact hXB2 h))
    have Y1' : wy.cell? ⟨XB, 1, none⟩ = some (.int .i64 x.2) := cell_keep X1 (hC7.block _ (by omega) (fun h => by rcases h with h | h; exact hXB1 h; exact hXB2 h))
    have Y0 : ∀ o, (wy.alloc o).cell? ⟨XB, 0, none⟩ = some (.int .i64 x.1) := fun o => cell_keep Y0' (Below.heap_alloc wy o XB hFl.2.2)
    have Y1 : ∀ o, (wy.alloc o).cell? ⟨XB, 1, none⟩ = some (.int .i64 x.2) := fun o => cell_keep Y1' (Below.heap_alloc wy o XB hFl.2.2)
    have hne := H.out.1.ne
    have hlo : B ≤ wy.heap.size := Nat.le_trans H.out.1.lo hzy
    have HY := Lib.hid (And.intro hhy (And.intro hFy (And.intro hCy (And.intro hCwy (And.intro hC7 hwy))))); clear hFy hCy hC7 hCwy hwy
    have hgX : Value.ownBlock (.slice ga s.2.length gc) ≠ some XB := fun e => by have := H.out.1.lt (b := XB) (.inr e); omega
    have hS0 := And.intro d2' (And.intro Y0' Y1')
    have hS1 := fun o => And.intro (d2 o) (And.intro (Y0 o) (Y1 o))
    refine wp_region_noPanic ?_
    refine wp_region_held_drew (S := fun w' => w'.cell? ⟨B2, 0, none⟩ = some (.pointer (some ⟨RB, 0, none⟩)) ∧ w'.cell? ⟨XB, 0, none⟩ = some (.int .i64 x.1) ∧ w'.cell? ⟨XB, 1, none⟩ = some (.int .i64 x.2)) (by kernel_rfl) hS0 (fun hHeld => ?_)
    (refine wpAnyH_take (i := 0) (v := .pointer (some ⟨RB, 0, none⟩)) rfl (by kernel_rfl) (by kernel_rfl) (by kernel_rfl) (fun _ _ _ h => h) (Or.inl ⟨by kernel_rfl, fun w hSw => by (try dsimp only at hSw); go_split_ands; go_simp⟩) (by assumption) ?_; simp only [Act.put, List.setIfInBounds_toArray, List.set_cons_zero, List.set_cons_succ])
    (refine wpAnyH_take (i := 1) (v := .pointer (some ⟨RB, 0, none⟩)) rfl (by kernel_rfl) (by kernel_rfl) (by kernel_rfl) (fun _ _ _ h => h) (Or.inl ⟨by kernel_rfl, fun w hSw => by (try dsimp only at hSw); go_split_ands; go_simp⟩) (by assumption) ?_; simp only [Act.put, List.setIfInBounds_toArray, List.set_cons_zero, List.set_cons_succ])
    (refine wpAnyH_take (i := 2) (v := .pointer (some ⟨RB, 0, none⟩)) rfl (by kernel_rfl) (by kernel_rfl) (by kernel_rfl) (fun _ _ _ h => h) (Or.inl ⟨by kernel_rfl, fun w hSw => by (try dsimp only at hSw); go_split_ands; go_simp⟩) (by assumption) ?_; simp only [Act.put, List.setIfInBounds_toArray, List.set_cons_zero, List.set_cons_succ])
    (refine wpAnyH_take (i := 3) (v := .pointer (some ⟨RB, 8, none⟩)) rfl (by kernel_rfl) (by kernel_rfl) (by kernel_rfl) (fun _ _ _ h => h) (Or.inl ⟨by kernel_rfl, fun w hSw => by (try dsimp only at hSw); go_split_ands; go_simp⟩) (by assumption) ?_; simp only [Act.put, List.setIfInBounds_toArray, List.set_cons_zero, List.set_cons_succ])
    (refine wpAnyH_take (i := 5) (v := .agg #[.int .i64 x.1, .int .i64 x.2]) rfl (by kernel_rfl) (by kernel_rfl) (by kernel_rfl) (fun _ _ _ h => h) (Or.inl ⟨by kernel_rfl, fun w hSw => by (try dsimp only at hSw); go_split_ands; go_simp⟩) (by assumption) ?_; simp only [Act.put, List.setIfInBounds_toArray, List.set_cons_zero, List.set_cons_succ])
    refine wpAnyH_ready (rs := [4, 6]) (by kernel_rfl) (by simp) (AllReadyH.cons rfl (fun K hK => ?_) (AllReadyH.cons rfl (fun K hK => ?_) AllReadyH.nil))
    ·go_simp
     (refine hK.out _ _ hS0 (fun hHeld => ?_); clear hK K; (try simp only [Act.put, List.setIfInBounds_toArray, List.set_cons_zero, List.set_cons_succ]))
     (refine wpAnyH_ready (rs := [6]) (by kernel_rfl) (by simp) (AllReadyH.cons rfl (fun K hK => ?_) AllReadyH.nil); go_simp)
     (refine hK.out _ _ (hS1 _) (fun hHeld => ?_); clear hK K; (try simp only [Act.put, List.setIfInBounds_toArray, List.set_cons_zero, List.set_cons_succ]))
     refine wpAnyH_ready (rs := [7]) (by kernel_rfl) (by simp) (AllReadyH.cons rfl (fun K hK => ?_) AllReadyH.nil)
     refine step_append_lies _ (by rfl) _ _ _ (by rfl) B 48 iS _ 2 16 Tryz.underlying24 hiS hzS0 hzS1 hzS2 rfl (by omega) _ s.2.length _ (by rfl) (howny.alloc _) ⟨_, 0, none⟩ 1 1 [.int .i64 x.1, .int .i64 x.2] (by rfl) (by rfl) (World.news_of_block (heap_alloc_new _ _)) (by simp [Value.oneCell']) (by omega) (by unfold maxLen; omega) (by omega) (by simp; omega) _ rfl ?_
     intro gg cap w8 hown8 hgrow8 hat8 hlt8
     have hh8 := (show w8.heap[RB]? = some (.cells (rdCells m (.slice ta t.length tc) (.slice (some ⟨bs, offs, none⟩) steps.length sc) (s.1 + 1) (.slice ga s.2.length gc)) 66 (0, 0)) from by rw [hgrow8.block RB (by simp; omega) (fun e => hne e.symm)]; exact (Below.heap_alloc wy _ RB hFl.2.1).trans hhy)
     have h88 := (show w8.cell? ⟨RB, 8, none⟩ = some (.slice ga s.2.length gc) from by rw [cell_of_block hh8]; rfl)
     have h8f := frozen_of_block hh8 8
     have h82 := (show w8.cell? ⟨B2, 0, none⟩ = some (.pointer (some ⟨RB, 0, none⟩)) from cell_keep (d2 _) (hgrow8.block B2 (by simp; omega) (fun e => hgB2 e.symm)))
     have h8X0 := cell_keep (Y0 _) (hgrow8.block XB (by simp; omega) (fun e => hgX e.symm))
     have h8X1 := cell_keep (Y1 _) (hgrow8.block XB (by simp; omega) (fun e => hgX e.symm))
     have hS8 := And.intro h82 (And.intro h8X0 h8X1)
     (refine hK.out _ _ hS8 (fun hHeld => ?_); clear hK K; (try simp only [Act.put, List.setIfInBounds_toArray, List.set_cons_zero, List.set_cons_succ]))
     (refine wpAnyH_take (i := 8) (v := .pointer (some ⟨RB, 0, none⟩)) rfl (by kernel_rfl) (by kernel_rfl) (by kernel_rfl) (fun _ _ _ h => h) (Or.inl ⟨by kernel_rfl, fun w hSw => by (try dsimp only at hSw); go_split_ands; go_simp⟩) (by assumption) ?_; simp only [Act.put, List.setIfInBounds_toArray, List.set_cons_zero, List.set_cons_succ])
     (refine wpAnyH_take (i := 9) (v := .pointer (some ⟨RB, 8, none⟩)) rfl (by kernel_rfl) (by kernel_rfl) (by kernel_rfl) (fun _ _ _ h => h) (Or.inl ⟨by kernel_rfl, fun w hSw => by (try dsimp only at hSw); go_split_ands; go_simp⟩) (by assumption) ?_; simp only [Act.put, List.setIfInBounds_toArray, List.set_cons_zero, List.set_cons_succ])
     (refine wpAnyH_ready (rs := [10]) (by kernel_rfl) (by simp) (AllReadyH.cons rfl (fun K hK => ?_) AllReadyH.nil); go_simp)
     have hS9 := And.intro (cell_keep h82 (heap_setCell_other (b := RB) (off := 8) (.slice (some ⟨gg, 0, none⟩) (s.2.length + 1) cap) hn2)) (And.intro (cell_keep h8X0 (heap_setCell_other (b := RB) (off := 8) (.slice (some ⟨gg, 0, none⟩) (s.2.length + 1) cap) hXB2)) (cell_keep h8X1 (heap_setCell_other (b := RB) (off := 8) (.slice (some ⟨gg, 0, none⟩) (s.2.length + 1) cap) hXB2)))
     (refine hK.out _ _ hS9 (fun hHeld => ?_); clear hK K; (try simp only [Act.put, List.setIfInBounds_toArray, List.set_cons_zero, List.set_cons_succ]))
     refine wpAnyH_done (by kernel_rfl) (NoPanic.normal ?_) _
     obtain ⟨hP1, hP2, hP3⟩ := rd_push (x := x) hhy howny hne H.out.2.2.2.2.2.2.1 H.out.2.2.2.2.2.2.2.2.2.1 hlo rfl hown8 hgrow8 hat8
     obtain ⟨wz, hwz⟩ : ∃ wz, w8.setCell ⟨RB, 8, none⟩ (.slice (some ⟨gg, 0, none⟩) (s.2.length + 1) cap) = wz := ⟨_, rfl⟩
     rw [hwz] at hP1 hP2 ⊢
     have hsz := hP2.size
     have hCz := HY.out.2.2.1.trans hP2 (fun i hi => .inl (.inl hi))
     have hCwz := HY.out.2.2.2.1.trans hP2 (fun i hi => .inl (.inl hi))
     have hfarz : ∀ b, Far b → ¬ RF RB (.slice (some ⟨gg, 0, none⟩) (s.2.length + 1) cap) b := fun b hb h => by
      rcases hP3 b h with h | h
      ·exact (hfar b hb).1 h
      ·have := (hfar b hb).2.2; omega
     have hkz : Keep Far w wz := hCwz.keep fun b hb h => by
      rcases h with h | h
      ·exact (hfar b hb).1 h
      ·exact (hfar b hb).2.1 h
     have hFl0 := lt_of_heap H.out.2.1
     have hFz : ¬ RF RB (.slice (some ⟨gg, 0, none⟩) (s.2.length + 1) cap) FB := fun h => by
      rcases hP3 FB h with h | h
      ·exact H.out.2.2.1 h
      ·omega
     have hFzh : wz.heap[FB]? = some (.cells #[.bool true] 4 (0, 0)) := by rw [hP2.block FB (by omega) H.out.2.2.1]; exact HY.out.2.1
     have d2z := cell_keep HB.out.1 (hkz B2 f2 (hfar B2 f2).2.2)
     have HP := Lib.hid (And.intro hP1 (And.intro hP2 (And.intro hP3 (And.intro hCz (And.intro hCwz (And.intro hkz (And.intro hfarz (And.intro hFz hFzh))))))))
     clear hP1 hP2 hP3 hCz hCwz hkz hfarz hFz hFzh hhy howny hown8 hgrow8 hat8 hh8 h88 h8f h82 h8X0 h8X1 hS8 hS9 d2 d2' d8 d8' Y0 Y0' Y1 Y1' hS0 hS1 hwz
     go_wp2_with fail
     refine (IHc.out _ _ _ hzy1 HP.out.1 HP.out.2.2.2.2.2.2.1 HP.out.2.2.2.2.2.1 HP.out.2.2.2.1 HP.out.2.2.1 hmo).mono ?_
     rintro e' wq ⟨gv2, rfl, hRd, hCh, hsub⟩
     have hFq : wq.heap[FB]? = some (.cells #[.bool true] 4 (0, 0)) := by rw [hCh.block FB (by omega) HP.out.2.2.2.2.2.2.2.1]; exact HP.out.2.2.2.2.2.2.2.2
     have cFq : wq.cell? ⟨FB, 0, none⟩ = some (.bool true) := by rw [cell_of_block hFq]; rfl
     have fFq := frozen_of_block hFq 0
     have hzq := hCh.size
     have hF2 : ¬ RF RB gv2 FB := fun h => by
      rcases hsub FB h with h | h
      ·exact HP.out.2.2.2.2.2.2.2.1 h
      ·omega
     have hsb : ∀ b, RF RB gv2 b → RF RB (.slice ga s.2.length gc) b ∨ w.heap.size ≤ b := fun b h => by
      rcases hsub b h with h | h
      ·rcases HP.out.2.2.1 b h with h | h
       ·exact .inl h
       ·right; omega
      ·right; omega
     have hCq : Chg (fun b => RF RB (.slice ga s.2.length gc) b ∨ b = FB) w wq := HP.out.2.2.2.2.1.trans hCh (fun i hi => by
      rcases HP.out.2.2.1 i hi with h | h
      ·exact .inl (.inl h)
      ·right; omega)
     obtain ⟨rb, hrb⟩ : ∃ r, readF n t (keysOf m) steps d (cuts ++ [key]) (s.1 + 1, s.2 ++ [x]) = r := ⟨_, rfl⟩
     rw [hrb] at hRd ⊢
     have hres : rdStep n t steps (readF n t (keysOf m) steps d) cuts s key = rb := by unfold rdStep; rw [if_neg H.out.2.2.2.1, H.out.2.2.2.2.2.2.2.2.2.2.1, if_pos Ho.out, if_pos hmo, hrb]
     rw [hres]
     have HQ := Lib.hid (And.intro hRd (And.intro hFq (And.intro hF2 (And.intro hsb (And.intro hCq (And.intro hrb hres)))))); clear hRd hFq hF2 hsb hCq hrb hres hCh hsub
     go_wp2_with fail
     go_ret
     (try rw [HQ.out.2.2.2.2.2.2])
     exact ⟨gv2, rfl, HQ.out.1.keep (by simp) (fun b hb => heap_setCell_other _ (fun e => HQ.out.2.2.1 (by have e2 : b = FB := e; rw [← e2]; exact hb))), heap_setCell_self HQ.out.2.1 _, HQ.out.2.2.2.2.1.setCell (p := ⟨FB, 0, none⟩) (.inl (.inr rfl)) _, HQ.out.2.2.2.1⟩
    ·go_simp
     (refine hK.out _ _ (hS1 _) (fun hHeld => ?_); clear hK K; (try simp only [Act.put, List.setIfInBounds_toArray, List.set_cons_zero, List.set_cons_succ]))
     (refine wpAnyH_ready (rs := [4]) (by kernel_rfl) (by simp) (AllReadyH.cons rfl (fun K hK => ?_) AllReadyH.nil); go_simp)
     (refine hK.out _ _ (hS1 _) (fun hHeld => ?_); clear hK K; (try simp only [Act.put, List.setIfInBounds_toArray, List.set_cons_zero, List.set_cons_succ]))
     refine wpAnyH_ready (rs := [7]) (by kernel_rfl) (by simp) (AllReadyH.cons rfl (fun K hK => ?_) AllReadyH.nil)
     refine step_append_lies _ (by rfl) _ _ _ (by rfl) B 48 iS _ 2 16 Tryz.underlying24 hiS hzS0 hzS1 hzS2 rfl (by omega) _ s.2.length _ (by rfl) (howny.alloc _) ⟨_, 0, none⟩ 1 1 [.int .i64 x.1, .int .i64 x.2] (by rfl) (by rfl) (World.news_of_block (heap_alloc_new _ _)) (by simp [Value.oneCell']) (by omega) (by unfold maxLen; omega) (by omega) (by simp; omega) _ rfl ?_
     intro gg cap w8 hown8 hgrow8 hat8 hlt8
     have hh8 := (show w8.heap[RB]? = some (.cells (rdCells m (.slice ta t.length tc) (.slice (some ⟨bs, offs, none⟩) steps.length sc) (s.1 + 1) (.slice ga s.2.length gc)) 66 (0, 0)) from by rw [hgrow8.block RB (by simp; omega) (fun e => hne e.symm)]; exact (Below.heap_alloc wy _ RB hFl.2.1).trans hhy)
     have h88 := (show w8.cell? ⟨RB, 8, none⟩ = some (.slice ga s.2.length gc) from by rw [cell_of_block hh8]; rfl)
     have h8f := frozen_of_block hh8 8
     have h82 := (show w8.cell? ⟨B2, 0, none⟩ = some (.pointer (some ⟨RB, 0, none⟩)) from cell_keep (d2 _) (hgrow8.block B2 (by simp; omega) (fun e => hgB2 e.symm)))
     have h8X0 := cell_keep (Y0 _) (hgrow8.block XB (by simp; omega) (fun e => hgX e.symm))
     have h8X1 := cell_keep (Y1 _) (hgrow8.block XB (by simp; omega) (fun e => hgX e.symm))
     have hS8 := And.intro h82 (And.intro h8X0 h8X1)
     (refine hK.out _ _ hS8 (fun hHeld => ?_); clear hK K; (try simp only [Act.put, List.setIfInBounds_toArray, List.set_cons_zero, List.set_cons_succ]))
     (refine wpAnyH_take (i := 8) (v := .pointer (some ⟨RB, 0, none⟩)) rfl (by kernel_rfl) (by kernel_rfl) (by kernel_rfl) (fun _ _ _ h => h) (Or.inl ⟨by kernel_rfl, fun w hSw => by (try dsimp only at hSw); go_split_ands; go_simp⟩) (by assumption) ?_; simp only [Act.put, List.setIfInBounds_toArray, List.set_cons_zero, List.set_cons_succ])
     (refine wpAnyH_take (i := 9) (v := .pointer (some ⟨RB, 8, none⟩)) rfl (by kernel_rfl) (by kernel_rfl) (by kernel_rfl) (fun _ _ _ h => h) (Or.inl ⟨by kernel_rfl, fun w hSw => by (try dsimp only at hSw); go_split_ands; go_simp⟩) (by assumption) ?_; simp only [Act.put, List.setIfInBounds_toArray, List.set_cons_zero, List.set_cons_succ])
     (refine wpAnyH_ready (rs := [10]) (by kernel_rfl) (by simp) (AllReadyH.cons rfl (fun K hK => ?_) AllReadyH.nil); go_simp)
     have hS9 := And.intro (cell_keep h82 (heap_setCell_other (b := RB) (off := 8) (.slice (some ⟨gg, 0, none⟩) (s.2.length + 1) cap) hn2)) (And.intro (cell_keep h8X0 (heap_setCell_other (b := RB) (off := 8) (.slice (some ⟨gg, 0, none⟩) (s.2.length + 1) cap) hXB2)) (cell_keep h8X1 (heap_setCell_other (b := RB) (off := 8) (.slice (some ⟨gg, 0, none⟩) (s.2.length + 1) cap) hXB2)))
     (refine hK.out _ _ hS9 (fun hHeld => ?_); clear hK K; (try simp only [Act.put, List.setIfInBounds_toArray, List.set_cons_zero, List.set_cons_succ]))
     refine wpAnyH_done (by kernel_rfl) (NoPanic.normal ?_) _
     obtain ⟨hP1, hP2, hP3⟩ := rd_push (x := x) hhy howny hne H.out.2.2.2.2.2.2.1 H.out.2.2.2.2.2.2.2.2.2.1 hlo rfl hown8 hgrow8 hat8
     obtain ⟨wz, hwz⟩ : ∃ wz, w8.setCell ⟨RB, 8, none⟩ (.slice (some ⟨gg, 0, none⟩) (s.2.length + 1) cap) = wz := ⟨_, rfl⟩
     rw [hwz] at hP1 hP2 ⊢
     have hsz := hP2.size
     have hCz := HY.out.2.2.1.trans hP2 (fun i hi => .inl (.inl hi))
     have hCwz := HY.out.2.2.2.1.trans hP2 (fun i hi => .inl (.inl hi))
     have hfarz : ∀ b, Far b → ¬ RF RB (.slice (some ⟨gg, 0, none⟩) (s.2.length + 1) cap) b := fun b hb h => by
      rcases hP3 b h with h | h
      ·exact (hfar b hb).1 h
      ·have := (hfar b hb).2.2; omega
     have hkz : Keep Far w wz := hCwz.keep fun b hb h => by
      rcases h with h | h
      ·exact (hfar b hb).1 h
      ·exact (hfar b hb).2.1 h
     have hFl0 := lt_of_heap H.out.2.1
     have hFz : ¬ RF RB (.slice (some ⟨gg, 0, none⟩) (s.2.length + 1) cap) FB := fun h => by
      rcases hP3 FB h with h | h
      ·exact H.out.2.2.1 h
      ·omega
     have hFzh : wz.heap[FB]? = some (.cells #[.bool true] 4 (0, 0)) := by rw [hP2.block FB (by omega) H.out.2.2.1]; exact HY.out.2.1
     have d2z := cell_keep HB.out.1 (hkz B2 f2 (hfar B2 f2).2.2)
     have HP := Lib.hid (And.intro hP1 (And.intro hP2 (And.intro hP3 (And.intro hCz (And.intro hCwz (And.intro hkz (And.intro hfarz (And.intro hFz hFzh))))))))
     clear hP1 hP2 hP3 hCz hCwz hkz hfarz hFz hFzh hhy howny hown8 hgrow8 hat8 hh8 h88 h8f h82 h8X0 h8X1 hS8 hS9 d2 d2' d8 d8' Y0 Y0' Y1 Y1' hS0 hS1 hwz
     go_wp2_with fail
     refine (IHc.out _ _ _ hzy1 HP.out.1 HP.out.2.2.2.2.2.2.1 HP.out.2.2.2.2.2.1 HP.out.2.2.2.1 HP.out.2.2.1 hmo).mono ?_
     rintro e' wq ⟨gv2, rfl, hRd, hCh, hsub⟩
     have hFq : wq.heap[FB]? = some (.cells #[.bool true] 4 (0, 0)) := by rw [hCh.block FB (by omega) HP.out.2.2.2.2.2.2.2.1]; exact HP.out.2.2.2.2.2.2.2.2
     have cFq : wq.cell? ⟨FB, 0, none⟩ = some (.bool true) := by rw [cell_of_block hFq]; rfl
     have fFq := frozen_of_block hFq 0
     have hzq := hCh.size
     have hF2 : ¬ RF RB gv2 FB := fun h => by
      rcases hsub FB h with h | h
      ·exact HP.out.2.2.2.2.2.2.2.1 h
      ·omega
     have hsb : ∀ b, RF RB gv2 b → RF RB (.slice ga s.2.length gc) b ∨ w.heap.size ≤ b := fun b h => by
      rcases hsub b h with h | h
      ·rcases HP.out.2.2.1 b h with h | h
       ·exact .inl h
       ·right; omega
      ·right; omega
     have hCq : Chg (fun b => RF RB (.slice ga s.2.length gc) b ∨ b = FB) w wq := HP.out.2.2.2.2.1.trans hCh (fun i hi => by
      rcases HP.out.2.2.1 i hi with h | h
      ·exact .inl (.inl h)
      ·right; omega)
     obtain ⟨rb, hrb⟩ : ∃ r, readF n t (keysOf m) steps d (cuts ++ [key]) (s.1 + 1, s.2 ++ [x]) = r := ⟨_, rfl⟩
     rw [hrb] at hRd ⊢
     have hres : rdStep n t steps (readF n t (keysOf m) steps d) cuts s key = rb := by unfold rdStep; rw [if_neg H.out.2.2.2.1, H.out.2.2.2.2.2.2.2.2.2.2.1, if_pos Ho.out, if_pos hmo, hrb]
     rw [hres]
     have HQ := Lib.hid (And.intro hRd (And.intro hFq (And.intro hF2 (And.intro hsb (And.intro hCq (And.intro hrb hres)))))); clear hRd hFq hF2 hsb hCq hrb hres hCh hsub
     go_wp2_with fail
     go_ret
     (try rw [HQ.out.2.2.2.2.2.2])
     exact ⟨gv2, rfl, HQ.out.1.keep (by simp) (fun b hb => heap_setCell_other _ (fun e => HQ.out.2.2.1 (by have e2 : b = FB := e; rw [← e2]; exact hb))), heap_setCell_self HQ.out.2.1 _, HQ.out.2.2.2.2.1.setCell (p := ⟨FB, 0, none⟩) (.inl (.inr rfl)) _, HQ.out.2.2.2.1⟩
   ·have e2 : decide (((cuts ++ [key]).length : Int) < (t.length : Int)) = false := by simp; omega
    have e3 : decide ((cuts.length : Int) + 1 < (t.length : Int)) = false := by simp; omega
    have hres : rdStep n t steps (readF n t (keysOf m) steps d) cuts s key = (s, false) := by unfold rdStep; rw [if_neg H.out.2.2.2.1, H.out.2.2.2.2.2.2.2.2.2.2.1, if_pos Ho.out, if_neg hmo]
    have Hb6 := Lib.hid (And.intro hb06 hres); clear hb06 hres hR6 hF6 hC6 hr6 hb05
    go_wp2_with fail
    go_ret
    (try rw [Hb6.out.2])
    exact ⟨_, rfl, (H.out.1.below Hb6.out.1).keep (by simp) (fun b hb => heap_setCell_other _ (fun e => H.out.2.2.1 (by have e2 : b = FB := e; rw [← e2]; exact hb))), heap_setCell_self (by rw [(Hb6.out.1).block FB (lt_of_heap H.out.2.1)]; exact H.out.2.1) _, (Chg.of_below Hb6.out.1).setCell (p := ⟨FB, 0, none⟩) (.inl (.inr rfl)) _, fun b hb => .inl hb⟩
end Go.Proofs.YtbekpololmahoaaGreatDoor
