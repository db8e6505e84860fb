/- The reference's search for designs. No conditions. -/
import Derived.Test.YtikdbjaimcciiaaGreatOpenP
import Derived.Test.YtikdbjaimcciiaaGreatGoF
import Derived.Test.YtikdbjaimcciiaaGreatClone2
import Derived.Test.YtikdbjaimcciiaaGreatRefFirst
namespace Go.Proofs.YtikdbjaimcciiaaGreat
open Go.RowKit
set_option linter.unusedVariables false
set_option linter.unusedSimpArgs false

def RG (RB : Nat) (fv : Value) (b : Nat) : Prop := b = RB ∨ fv.ownBlock = some b
def sgCells (m : Mk) (tv fv : Value) (limit : Nat) (most : Int) (s : DSt) : Array Value := #[.int .i64 m.c, .int .i64 m.d, .int .i64 m.s, .int .i64 m.e, .int .i64 m.l, tv, .int .i64 (limit : Int), .int .i64 most, .int .i64 (s.1 : Int), .bool s.2.1, fv]
structure Sg (m : Mk) (tv : Value) (limit : Nat) (most : Int) (RB B : Nat) (s : DSt) (fv : Value) (w : World) : Prop where
  hh : w.heap[RB]? = some (.cells (sgCells m tv fv limit most s) 119 (0, 0))
  own : ∃ vs, w.ownsRow B 26 1 fv s.2.2.length vs ∧ ∀ k, k < s.2.2.length → ∃ rv, vs[k]? = some rv ∧ V2 (fun b => ¬ RG RB fv b) w rv (getll s.2.2 k)
  ne : fv.ownBlock ≠ some RB
  le : s.1 ≤ limit ∧ limit ≤ 4000
  lo : B ≤ w.heap.size
section
variable {m : Mk} {tv fv : Value} {limit : Nat} {most : Int} {RB B : Nat} {s : DSt} {w w' : World}
theorem Sg.below (h : Sg m tv limit most RB B s fv w) (hb : Below w.heap.size w w') : Sg m tv limit most RB B s fv w' := by
  obtain ⟨vs, h1, h2⟩ := h.own
  exact ⟨heap_below h.hh hb (lt_of_heap h.hh), ⟨vs, own_keep h1 hb, fun k hk => by obtain ⟨rv, g1, g2⟩ := h2 k hk; exact ⟨rv, g1, g2.below hb⟩⟩, h.ne, h.le, Nat.le_trans h.lo hb.size⟩
theorem Sg.lt (h : Sg m tv limit most RB B s fv w) {b : Nat} (hb : RG RB fv b) : b < w.heap.size := by
  rcases hb with rfl | hb
  · exact lt_of_heap h.hh
  · obtain ⟨vs, h1, _⟩ := h.own; exact (h1.lt _ hb).2
theorem Sg.cell (h : Sg m tv limit most RB B s fv w) (o : Nat) : w.cell? ⟨RB, o, none⟩ = (sgCells m tv fv limit most s)[o]? := by rw [cell_of_block h.hh]
theorem Sg.form (h : Sg m tv limit most RB B s fv w) : ∃ a c, fv = .slice a s.2.2.length c ∧ s.2.2.length ≤ c ∧ c ≤ maxLen := by
  obtain ⟨vs, h1, _⟩ := h.own; exact own_form h1
/-- A number or a mark in the state's own block. -/
theorem Sg.put {s' : DSt} {o : Nat} {v : Value} (h : Sg m tv limit most RB B s fv w) (hc : (sgCells m tv fv limit most s).setIfInBounds o v = sgCells m tv fv limit most s') (hs : s'.2.2 = s.2.2) (hle : s'.1 ≤ limit) : Sg m tv limit most RB B s' fv (w.setCell ⟨RB, o, none⟩ v) ∧ Chg (RG RB fv) w (w.setCell ⟨RB, o, none⟩ v) := by
  obtain ⟨vs, h1, h2⟩ := h.own
  have hC : Chg (fun b => b = RB) w (w.setCell ⟨RB, o, none⟩ v) := (Chg.refl (fun b => b = RB) _).setCell (p := ⟨RB, o, none⟩) (.inl rfl) _
  refine ⟨⟨by rw [heap_setCell_self h.hh]; rw [hc], ⟨vs, by rw [hs]; exact own_chg h1 hC (fun g hg e => h.ne (e ▸ hg)), fun k hk => ?_⟩, h.ne, ⟨hle, h.le.2⟩, by simpa using h.lo⟩, hC.mono (fun b hb => .inl hb)⟩
  obtain ⟨rv, g1, g2⟩ := h2 k (by rw [hs] at hk; exact hk)
  rw [hs]
  exact ⟨rv, g1, g2.mono (fun _ h _ => h) (hC.keep fun b hb e => hb (.inl e))⟩
end
/-- A design more. -/
theorem sg_push {S : Nat → Prop} {m : Mk} {tv fv v8 cv : Value} {limit : Nat} {most : Int} {RB B : Nat} {s : DSt} {cuts : List (List Int)} {wy w8 : World} {vs : List Value} (h : Sg m tv limit most RB B s fv wy) (hc : V2 (fun b => ¬ RG RB fv b) wy cv cuts)
    (hvs : wy.ownsRow B 26 1 fv s.2.2.length vs) (hvs2 : ∀ k, k < s.2.2.length → ∃ rv, vs[k]? = some rv ∧ V2 (fun b => ¬ RG RB fv b) wy rv (getll s.2.2 k))
    (hown8 : w8.ownsRow B 26 1 v8 (s.2.2.length + 1) (vs ++ [cv])) (hg : wy.grownBy w8 fv.ownBlock) (hblk : v8.ownBlock = fv.ownBlock ∨ ∃ g, v8.ownBlock = some g ∧ wy.heap.size ≤ g) :
    Sg m tv limit most RB B (s.1, s.2.1, s.2.2 ++ [cuts]) v8 (w8.setCell ⟨RB, 10, none⟩ v8) ∧ Chg (RG RB fv) wy (w8.setCell ⟨RB, 10, none⟩ v8) ∧ ∀ b, RG RB v8 b → RG RB fv b ∨ wy.heap.size ≤ b := by
  have hRl := lt_of_heap h.hh
  have hgR : v8.ownBlock ≠ some RB := fun e => by
    rcases hblk with e1 | ⟨g, e1, h1⟩
    · exact h.ne (e1.symm.trans e)
    · rw [e] at e1; cases e1; omega
  have hh8 : w8.heap[RB]? = some (.cells (sgCells m tv fv limit most s) 119 (0, 0)) := (hg.block RB hRl (fun e => h.ne e.symm)).trans h.hh
  have hC9 : Chg (fun b => b = RB) w8 (w8.setCell ⟨RB, 10, none⟩ v8) := (Chg.refl (fun b => b = RB) _).setCell (p := ⟨RB, 10, none⟩) (.inl rfl) _
  have hC : Chg (RG RB fv) wy (w8.setCell ⟨RB, 10, none⟩ v8) := ((Chg.refl _ wy).grown hg (fun k hk => .inl (.inr hk))).setCell (.inl (.inl rfl)) _
  have hsub : ∀ b, RG RB v8 b → RG RB fv b ∨ wy.heap.size ≤ b := fun b hb => by
    rcases hb with hb | hb
    · exact .inl (.inl hb)
    · rcases hblk with e1 | ⟨g, e1, h1⟩
      · exact .inl (.inr (e1.symm.trans hb))
      · rw [hb] at e1; cases e1; exact .inr h1
  have hV : ∀ {rv : Value} {ls : List (List Int)}, V2 (fun b => ¬ RG RB fv b) wy rv ls → V2 (fun b => ¬ RG RB v8 b) (w8.setCell ⟨RB, 10, none⟩ v8) rv ls := fun hv => hv.mono (fun b h1 h2 h3 => by
    rcases hsub b h3 with h4 | h4
    · exact h1 h4
    · omega) (hC.keep fun b h1 => h1)
  have hvl := hvs.1
  refine ⟨⟨?_, ⟨vs ++ [cv], by simpa using own_chg hown8 hC9 (fun g hg e => hgR (e ▸ hg)), fun k hk => ?_⟩, hgR, h.le, by have := hg.size; have := h.lo; simp; omega⟩, hC, hsub⟩
  · rw [heap_setCell_self hh8]; simp [sgCells]
  · by_cases hkl : k < s.2.2.length
    · obtain ⟨rv, g1, g2⟩ := hvs2 k hkl
      exact ⟨rv, by rw [List.getElem?_append_left (by omega)]; exact g1, by show V2 _ _ rv (getll (s.2.2 ++ [cuts]) k); rw [getll_app1 hkl]; exact hV g2⟩
    · have e : k = s.2.2.length := by simp at hk; omega
      subst e
      exact ⟨cv, by rw [List.getElem?_append_right (by omega)]; simp [show s.2.2.length - vs.length = 0 by omega], by show V2 _ _ cv (getll (s.2.2 ++ [cuts]) s.2.2.length); rw [getll_app2]; exact hV hc⟩
def SgPost (m : Mk) (tv : Value) (limit : Nat) (most : Int) (RB B : Nat) (fv : Value) (W : World) (r : DSt × Bool) (e : Ending) (w' : World) : Prop :=
  ∃ fv', e = .returned (.bool (!r.2)) ∧ Sg m tv limit most RB B r.1 fv' w' ∧ Chg (RG RB fv) W w' ∧ ∀ b, RG RB fv' b → RG RB fv b ∨ W.heap.size ≤ b
structure SgAsk (m : Mk) (t : List (List Int)) (tv : Value) (limit : Nat) (most : Int) (RB B : Nat) (cuts : List (List Int)) (cv : Value) (s : DSt) (fv : Value) (W : World) : Prop where
  sg : Sg m tv limit most RB B s fv W
  ht : V2 (fun b => ¬ RG RB fv b) W tv t
  hc : V2 (fun b => ¬ RG RB fv b) W cv cuts
  hp : cuts = [] → PV cv
  ok : PartOk m t cuts
  ac : (s.2.2.length : Int) < most
def FromG (m : Mk) (t : List (List Int)) (tv : Value) (limit : Nat) (most : Int) (RB B d n : Nat) : Prop :=
  ∀ (cuts : List (List Int)) (cv : Value) (s : DSt) (fv : Value) (W : World), cuts.length + d = t.length → SgAsk m t tv limit most RB B cuts cv s fv W →
    Calls Tryz.prog 122 #[.pointer (some ⟨RB, 0, none⟩), cv, .slice none 0 0] W (SgPost m tv limit most RB B fv W (goF limit (stayP n t) (visK most) (keysOf m) d cuts s))
theorem visK_still {most : Int} : ∀ (s : List (List (List Int))) (design : List (List Int)), (s.length : Int) < most → (visK most s design).2 = true → (((visK most s design).1.length : Nat) : Int) < most := fun s design h1 h2 => by
  have h3 : decide ((s.length : Int) + 1 < most) = true := h2
  have := of_decide_eq_true h3
  show ((s ++ [design]).length : Int) < most
  simp; omega
theorem toCome_nextG {m : Mk} {w : World} {kv : Value} {S : Nat → Prop} {L r : List (List Int)} (hc : 0 ≤ m.c) (h : (nextAns r).2 = true → V1 S w kv (nextAns r).1) (hL : keysOf m = L ++ r) : toCome m w kv (.bool (nextAns r).2) ≤ r.length := by
  cases r with
  | nil => rw [show (nextAns []).2 = false from rfl, toCome_last]; exact Nat.zero_le _
  | cons k r =>
    have h1 : V1 S w kv k := h rfl
    rw [show (nextAns (k :: r)).2 = true from rfl, toCome_more h1, keys_behind hc hL]
    exact Nat.le_refl _
theorem runL_stopat2 {σ α : Type} {f : σ → α → σ × Bool} {s st st' : σ} {L1 r : List α} {k : α} (h : runL f s L1 = (st, true)) (hk : f st k = (st', false)) : runL f s (L1 ++ k :: r) = (st', false) := by
  rw [runL_go f (by rw [h]), h]
  unfold runL
  rw [hk]; rfl
set_option maxRecDepth 100000 in
set_option maxHeartbeats 1000000 in
theorem l17End_any (m : Mk) (t : List (List Int)) (n : Nat) (hn : (n : Int) = m.c) (tv : Value) (limit : Nat) (most : Int) (hmo : most ≤ 1000000) (RB B : Nat) : FromG m t tv limit most RB B 0 n := by
  intro cuts cv s fv W hcd ask
  obtain ⟨hsg, ht, hc, hcp, hok, hac⟩ := ask
  obtain ⟨ta, tc, rfl, htm⟩ := ht.form
  obtain ⟨ca, cc, rfl, hcm⟩ := hc.form
  obtain ⟨fa, fc, rfl, hf1, hf2⟩ := hsg.form
  obtain ⟨vs, hvs, hvs2⟩ := hsg.own
  have e1 : ((cuts.length : Int) == (t.length : Int)) = true := by rw [beq_iff_eq]; omega
  have hx0 : ∀ o, W.cell? ⟨RB, o, none⟩ = (#[.int .i64 m.c, .int .i64 m.d, .int .i64 m.s, .int .i64 m.e, .int .i64 m.l, .slice ta t.length tc, .int .i64 (limit : Int), .int .i64 most, .int .i64 (s.1 : Int), .bool s.2.1, .slice fa s.2.2.length fc] : Array Value)[o]? := fun o => by rw [hsg.cell]; rfl
  have hRl := lt_of_heap hsg.hh
  have hne := hsg.ne
  have hlo := hsg.lo
  have hres : goF limit (stayP n t) (visK most) (keysOf m) 0 cuts s = ((s.1, s.2.1, s.2.2 ++ [cuts]), decide ((s.2.2.length : Int) + 1 < most)) := rfl
  rw [hres]
  obtain ⟨s1, s2, sl⟩ := s
  dsimp only at *
  obtain ⟨r, hr⟩ : ∃ r, decide ((sl.length : Int) + 1 < most) = r := ⟨_, rfl⟩
  rw [hr]
  have hr2 : decide (most ≤ (sl.length : Int) + 1) = !r := by rw [← hr]; by_cases h : (sl.length : Int) + 1 < most <;> simp [h] <;> omega
  have HS := Lib.hid (And.intro hsg (And.intro hc (And.intro hvs2 hr))); clear hsg hc hvs2 hr hres ht hok hcp
  go_enter Tryz.func122, Tryz.ntmps122
  go_wp2_with ((at_builtin; refine wp_app1 _ rfl _ _ 54 rfl B 26 (.slice none 0 0) 24 Tryz.underlying54 inf_intss rfl _ _ _ rfl hvs (.slice ca cuts.length cc) _ rfl rfl (by omega) (by omega) (by omega) ?_; intro v1 w1 hown1 hgrow1 hblk1 hB1); obtain ⟨gg, cap, rfl, hcap⟩ := own_some hown1 (by omega); have hh1 : w1.heap[RB]? = some (.cells (sgCells m (.slice ta t.length tc) (.slice fa sl.length fc) limit most (s1, s2, sl)) 119 (0, 0)) := (hgrow1.block RB hRl (fun e => hne e.symm)).trans HS.out.1.hh; have h1c : w1.cell? ⟨RB, 10, none⟩ = some (.slice fa sl.length fc) := (by rw [cell_of_block hh1]; rfl); have f1c := frozen_of_block hh1 10)
  obtain ⟨hP1, hP2, hP3⟩ := sg_push (S := fun _ => True) HS.out.1 HS.out.2.1 hvs HS.out.2.2.1 hown1 hgrow1 hblk1
  have hx9 : ∀ o, (w1.setCell ⟨RB, 10, none⟩ (.slice (some ⟨gg, 0, none⟩) (sl.length + 1) cap)).cell? ⟨RB, o, none⟩ = (#[.int .i64 m.c, .int .i64 m.d, .int .i64 m.s, .int .i64 m.e, .int .i64 m.l, .slice ta t.length tc, .int .i64 (limit : Int), .int .i64 most, .int .i64 (s1 : Int), .bool s2, .slice (some ⟨gg, 0, none⟩) (sl.length + 1) cap] : Array Value)[o]? := fun o => by rw [hP1.cell]; rfl
  obtain ⟨wz, hwz⟩ : ∃ wz, w1.setCell ⟨RB, 10, none⟩ (.slice (some ⟨gg, 0, none⟩) (sl.length + 1) cap) = wz := ⟨_, rfl⟩
  rw [hwz] at hP1 hP2 hx9 ⊢
  have HP := Lib.hid (And.intro hP1 (And.intro hP2 hP3)); clear hP1 hP2 hP3 hwz hh1 h1c f1c hx0 hown1 hgrow1 hblk1 hB1
  go_wp2_with fail
  go_region
  all_goals
    go_wp2_with fail
    go_ret
    exact ⟨_, rfl, HP.out.1.below ((Below.refl _ _).drew), HP.out.2.1.drew, HP.out.2.2⟩
end Go.Proofs.YtikdbjaimcciiaaGreat

namespace Go.Proofs.YtikdbjaimcciiaaGreat
open Go.RowKit
set_option linter.unusedVariables false
set_option linter.unusedSimpArgs false

set_option maxRecDepth 100000 in
set_option maxHeartbeats 4000000 in
theorem l17From_any (m : Mk) (t : List (List Int)) (n : Nat) (hn : (n : Int) = m.c) (tv : Value) (limit : Nat) (most : Int) (hmo : most ≤ 1000000) (RB B : Nat) : ∀ d, FromG m t tv limit most RB B d n := by
  intro d
  induction d with
  | zero => exact l17End_any m t n hn tv limit most hmo RB B
  | succ d ih =>
    intro cuts cv s fv0 W hcd ask
    obtain ⟨hsg, ht, hc, hcp, hok, hac⟩ := ask
    have hok' := hok.fits.ok
    have hmk := Mk.ok_iff.1 hok'
    have hc0 : 0 ≤ m.c := by omega
    have hlt : cuts.length < t.length := by omega
    obtain ⟨ta, tc, rfl, htm⟩ := ht.form
    obtain ⟨ca, cc, rfl, hcm⟩ := hc.form
    have hkey : ∀ k, k ∈ keysOf m → isKeyB m k = true ∧ (k.length : Int) = m.c ∧ ∀ i, i < k.length → 0 ≤ geti k i ∧ geti k i ≤ 7 := fun k hk => by
      have h0 := (mem_keysOf hc0).1 hk
      have h1 := isKey_iff.1 h0
      refine ⟨h0, by omega, fun i hi => ?_⟩
      have := h1.2.1 _ (geti_mem hi)
      omega
    have e0 : ((cuts.length : Int) == (t.length : Int)) = false := by rw [beq_eq_false_iff_ne]; omega
    have hRl := lt_of_heap hsg.hh
    have htN := ht.mono (S' := fun b => ¬ RG RB fv0 b ∧ b < W.heap.size) (fun b h1 h2 => ⟨h1, h2⟩) (fun _ _ _ => rfl)
    have hcN := hc.mono (S' := fun b => ¬ RG RB fv0 b ∧ b < W.heap.size) (fun b h1 h2 => ⟨h1, h2⟩) (fun _ _ _ => rfl)
    obtain ⟨f, hf⟩ : ∃ f, f = goStep limit (stayP n t) (goF limit (stayP n t) (visK most) (keysOf m) d) cuts := ⟨_, rfl⟩
    obtain ⟨K, hK⟩ : ∃ K, K = keysOf m := ⟨_, rfl⟩
    obtain ⟨L0, hL0⟩ : ∃ L0 : List (List Int), L0 = [] := ⟨_, rfl⟩
    have hL0K : keysOf m = L0 ++ K := by rw [hL0, hK]; rfl
    have hgo : goF limit (stayP n t) (visK most) (keysOf m) (d + 1) cuts s = runL f s K := by rw [hf, hK]; rfl
    rw [hgo]
    have hx0 : ∀ o, W.cell? ⟨RB, o, none⟩ = (#[.int .i64 m.c, .int .i64 m.d, .int .i64 m.s, .int .i64 m.e, .int .i64 m.l, .slice ta t.length tc, .int .i64 (limit : Int), .int .i64 most, .int .i64 (s.1 : Int), .bool s.2.1, fv0] : Array Value)[o]? := fun o => by rw [hsg.cell]; rfl
    have hfirst := l02First_any m hok' m.c.toNat (fun _ => False) (.slice none 0 0) []
    rw [genB_nil, ← hK] at hfirst
    have hcc : ((m.c.toNat : Nat) : Int) = m.c := by omega
    have Hfirst := Lib.hid (And.intro hfirst hcc); clear hfirst hcc
    have Hkey := Lib.hid hkey; clear hkey
    have HL := Lib.hid hL0K; clear hL0K hL0 hK hgo
    have Hf := Lib.hid hf; clear hf
    have HA := Lib.hid (And.intro hsg (And.intro htN (And.intro hcN (And.intro hcp (And.intro hok (And.intro ih (And.intro hok' (And.intro hc0 (And.intro hlt hac))))))))); clear hsg htN hcN ht hc hcp hok ih hok' hc0 hmk hlt hac
    go_enter Tryz.func122, Tryz.ntmps122
    go_wp2_with fail
    refine (Hfirst.out.1 _ ⟨none, 0, rfl, Nat.le_refl _, Nat.zero_le _, fun k hk => by simp at hk⟩ (fun _ => .inl rfl) (by have := Hfirst.out.2; simp; omega) (fun k hk => by simp at hk)).mono ?_
    rintro e' wF ⟨kv, rfl, hkv, hbF⟩
    have hkv0 : (nextAns K).2 = true → V1 (fun b => ¬ RG RB fv0 b) wF kv (nextAns K).1 := fun hh => (hkv hh).mono (fun b h1 h2 hf => by
      have := HA.out.1.lt hf
      rcases h1 with h1 | h1
      · exact h1.elim
      · omega) (fun _ _ _ => rfl)
    have hzF := hbF.size
    have HI := Lib.hid (And.intro hkv0 (And.intro (HA.out.1.below hbF) hbF)); clear hkv0 hkv hbF hx0
    go_wp2_with fail
    go_loopw [7, 8, 9] (fun kv okv _ wr => ∃ (L1 L2 : List (List Int)) (st : DSt) (fv : Value), K = L1 ++ L2 ∧ runL f s L1 = (st, true) ∧ okv = .bool (nextAns L2).2 ∧ ((nextAns L2).2 = true → V1 (fun b => ¬ RG RB fv b) wr kv (nextAns L2).1) ∧ Sg m (.slice ta t.length tc) limit most RB B st fv wr ∧ Chg (RG RB fv0) W wr ∧ (∀ b, RG RB fv b → RG RB fv0 b ∨ W.heap.size ≤ b) ∧ (st.2.2.length : Int) < most) (fun kv okv _ wr => toCome m wr kv okv)
    case atStart => exact ⟨[], K, s, fv0, rfl, rfl, rfl, HI.out.1, HI.out.2.1, Chg.of_below HI.out.2.2, fun b hb => .inl hb, HA.out.2.2.2.2.2.2.2.2.2⟩
    case round =>
      obtain ⟨L1, L2, st, fv, hL, hrun, hokv, hkv, hsg, hch, hsub, hact⟩ := hrel
      have hzr := hch.size
      have hr := hsg.cell
      have hfin : ∀ q, runL f s (L1 ++ L2) = q → runL f s K = q := fun q h => by rw [hL, h]
      cases L2 with
      | nil =>
        rw [List.append_nil] at hfin
        have hokv' : _ = Value.bool false := hokv
        subst hokv'
        have hres := hfin _ hrun
        have HZ := Lib.hid (And.intro hres (And.intro hsg (And.intro hch hsub))); clear hres hsg hkv hch hrun hL hfin hr hsub
        go_wp2_with fail
        go_ret
        rw [HZ.out.1]
        exact ⟨fv, rfl, HZ.out.2.1, HZ.out.2.2.1, HZ.out.2.2.2⟩
      | cons k r =>
        have hokv' : _ = Value.bool true := hokv
        subst hokv'
        have hrun' : runL f s L1 = (st, true) := hrun
        have hk1 := hkv rfl
        have hk1' : V1 (fun b => ¬ RG RB fv b) wr _ k := hk1
        have hLk : keysOf m = (L0 ++ L1) ++ k :: r := by rw [HL.out, hL]; simp
        obtain ⟨hkk, hkc, hkr⟩ := Hkey.out k (by rw [hLk]; simp)
        have hbeh := keys_behind HA.out.2.2.2.2.2.2.2.1 hLk
        obtain ⟨ka, kc, rfl, hkm⟩ := hk1'.form
        obtain ⟨fa, fc, rfl, hf1, hf2⟩ := hsg.form
        obtain ⟨s1, s2, sl⟩ := st
        dsimp only at *
        have hx : ∀ o, wr.cell? ⟨RB, o, none⟩ = (#[.int .i64 m.c, .int .i64 m.d, .int .i64 m.s, .int .i64 m.e, .int .i64 m.l, .slice ta t.length tc, .int .i64 (limit : Int), .int .i64 most, .int .i64 (s1 : Int), .bool s2, .slice fa sl.length fc] : Array Value)[o]? := fun o => by rw [hr]; rfl
        have hLk' : keysOf m = (L0 ++ L1 ++ [k]) ++ r := by rw [hLk]; simp
        have hL' : K = (L1 ++ [k]) ++ r := by rw [hL]; simp
        have HK := Lib.hid (And.intro hk1' (And.intro hkc (And.intro hkr (And.intro hbeh (And.intro hLk' hL'))))); clear hkv hk1 hk1' hkc hkr hbeh hLk' hL' hLk
        have HC := Lib.hid (And.intro hch (And.intro hsub hact))
        have hok := HA.out.2.2.2.2.1
        have hle := hsg.le
        have fR8 := frozen_of_block hsg.hh 8
        have fR9 := frozen_of_block hsg.hh 9
        clear hr
        by_cases hA : s1 = limit
        · have e1 : ((s1 : Int) == (limit : Int)) = true := by rw [beq_iff_eq]; omega
          have hst : f (s1, s2, sl) k = ((s1, true, sl), false) := by rw [Hf.out]; unfold goStep; rw [if_pos hA]
          have hres := hfin _ (runL_stopat2 hrun' hst)
          obtain ⟨hP1, hP2⟩ := hsg.put (s' := (s1, true, sl)) (o := 9) (v := .bool true) (by simp [sgCells]) rfl hle.1
          have hCs := (hch.trans hP2 (fun i hi => hsub i hi))
          have HZ := Lib.hid (And.intro hres (And.intro hP1 (And.intro hCs hsub))); clear hres hsg hch hrun hrun' hL hfin hsub hP1 hP2 hst hCs
          go_wp2_with fail
          go_region
          all_goals
            go_wp2_with fail
            go_ret
            rw [HZ.out.1]
            exact ⟨_, rfl, HZ.out.2.1.below ((Below.refl _ _).drew), HZ.out.2.2.1.drew, HZ.out.2.2.2⟩
        · have e1 : ((s1 : Int) == (limit : Int)) = false := by rw [beq_eq_false_iff_ne]; omega
          obtain ⟨w5, hw5⟩ : ∃ w5, w5 = (wr.setCell ⟨RB, 8, none⟩ (.int .i64 ((s1 : Int) + 1))).drew := ⟨_, rfl⟩
          obtain ⟨hP1, hP2⟩ := hsg.put (s' := (s1 + 1, s2, sl)) (o := 8) (v := .int .i64 ((s1 : Int) + 1)) (by simp [sgCells]) rfl (by show s1 + 1 ≤ limit; have := hle.1; have h1 : s1 ≤ limit := this; omega)
          have hS5 : Sg m (.slice ta t.length tc) limit most RB B (s1 + 1, s2, sl) (.slice fa sl.length fc) w5 := by rw [hw5]; exact hP1.below ((Below.refl _ _).drew)
          have hC5 : Chg (RG RB (.slice fa sl.length fc)) wr w5 := by rw [hw5]; exact hP2.drew
          have hfar : ∀ b, (¬ RG RB fv0 b ∧ b < W.heap.size) → ¬ RG RB (.slice fa sl.length fc) b := fun b hb h => by
            rcases HC.out.2.1 b h with h | h
            · exact hb.1 h
            · omega
          have hkpr : Keep (fun b => ¬ RG RB fv0 b ∧ b < W.heap.size) W w5 := (HC.out.1.trans hC5 (fun i hi => HC.out.2.1 i hi)).keep fun b hb => hb.1
          have ht5 : V2 (fun b => ¬ RG RB (.slice fa sl.length fc) b) w5 (.slice ta t.length tc) t := HA.out.2.1.mono (fun b hb _ => hfar b hb) hkpr
          have hc5 : V2 (fun b => ¬ RG RB (.slice fa sl.length fc) b) w5 (.slice ca cuts.length cc) cuts := HA.out.2.2.1.mono (fun b hb _ => hfar b hb) hkpr
          have hk5 : V1 (fun b => ¬ RG RB (.slice fa sl.length fc) b) w5 (.slice ka k.length kc) k := HK.out.1.mono (fun _ h _ => h) (hC5.keep fun b h => h)
          have hx5 : ∀ o, w5.cell? ⟨RB, o, none⟩ = (#[.int .i64 m.c, .int .i64 m.d, .int .i64 m.s, .int .i64 m.e, .int .i64 m.l, .slice ta t.length tc, .int .i64 (limit : Int), .int .i64 most, .int .i64 ((s1 : Int) + 1), .bool s2, .slice fa sl.length fc] : Array Value)[o]? := fun o => by rw [hS5.cell]; rfl
          have hcl : cuts.length ≤ 1000000 := by have := hok.fits.rows; have := hok.few; omega
          have hz5 := hC5.size
          obtain ⟨sb, hsb⟩ : ∃ sb, stayP n t cuts k = sb := ⟨_, rfl⟩
          have hstep : f (s1, s2, sl) k = if sb = true then goF limit (stayP n t) (visK most) (keysOf m) d (cuts ++ [k]) (s1 + 1, s2, sl) else ((s1 + 1, s2, sl), true) := by
            rw [Hf.out]; unfold goStep; rw [if_neg hA, hsb]
          have hlt := HA.out.2.2.2.2.2.2.2.2.1
          have hmore := hok.more hlt hkk
          have Hrun := Lib.hid (And.intro hrun' (And.intro hfin hL))
          have HS := Lib.hid (And.intro hS5 (And.intro hC5 (And.intro ht5 (And.intro hstep (And.intro hsb hmore))))); clear hS5 hC5 ht5 hsg hP1 hP2 hfar hkpr hstep hsb hA hrun hrun' hfin hL hch hsub hmore hok
          go_wp2_with fail
          go_region
          all_goals
            go_wp2_with fail
            rw [← hw5]
            clear hx
            refine (l16With_any _ _ cuts k _ hc5 HA.out.2.2.2.1 hk5 hcl).mono ?_
            rintro e' w6 ⟨nv, nvs, rfl, hown, hrv, hb6⟩
            have hN := own_V2S hown hrv
            obtain ⟨na, nc, rfl, hnm⟩ := hN.form
            have hz6 := hb6.size
            have hRl5 := lt_of_heap HS.out.1.hh
            have hx6 : ∀ o, w6.cell? ⟨RB, o, none⟩ = (#[.int .i64 m.c, .int .i64 m.d, .int .i64 m.s, .int .i64 m.e, .int .i64 m.l, .slice ta t.length tc, .int .i64 (limit : Int), .int .i64 most, .int .i64 ((s1 : Int) + 1), .bool s2, .slice fa sl.length fc] : Array Value)[o]? := fun o => by rw [(bcell hb6).1 _ _ hRl5, hx5]
            have hnl : (cuts ++ [k]).length = cuts.length + 1 := by simp
            rw [hnl] at hN
            have hopn := l16Open_b m (.slice ta t.length tc) (.slice na (cuts.length + 1) nc) t (cuts ++ [k]) n w6 sb HS.out.2.2.2.2.1 HS.out.2.2.2.2.2.fits hn (HS.out.2.2.1.below hb6) hN
            have HN := Lib.hid (And.intro hopn (And.intro hN hb6)); clear hopn hN hb6 hnl hown hrv hc5 hk5 hx5
            go_wp2_with fail
            refine HN.out.1.mono ?_
            rintro e' w7 ⟨rfl, hb7⟩
            have hb57 := HN.out.2.2.trans (hb7.mono hz6)
            have hz7 := hb57.size
            have hSg7 := HS.out.1.below hb57
            have hRl6 : RB < w6.heap.size := by omega
            have hx7 : ∀ o, w7.cell? ⟨RB, o, none⟩ = (#[.int .i64 m.c, .int .i64 m.d, .int .i64 m.s, .int .i64 m.e, .int .i64 m.l, .slice ta t.length tc, .int .i64 (limit : Int), .int .i64 most, .int .i64 ((s1 : Int) + 1), .bool s2, .slice fa sl.length fc] : Array Value)[o]? := fun o => by rw [(bcell hb7).1 _ _ hRl6, hx6]
            have hCz := HS.out.2.1.then_below hb57
            clear hx6
            cases sb
            · have hst : f (s1, s2, sl) k = ((s1 + 1, s2, sl), true) := by rw [HS.out.2.2.2.1]; rfl
              have hrun' := Hrun.out.1
              have hSub : ∀ b, RG RB (.slice fa sl.length fc) b → RG RB (.slice fa sl.length fc) b ∨ wr.heap.size ≤ b := fun b hb => .inl hb
              have Hb := Lib.hid hb57; clear hb57 hb7
              have hkz : V1 (fun b => ¬ RG RB (.slice fa sl.length fc) b) w7 (.slice ka k.length kc) k := HK.out.1.mono (fun b h1 h2 h3 => by
                rcases hSub b h3 with h | h
                · exact h1 h
                · omega) (hCz.keep fun b h => h)
              have hrz := hSg7.cell
              obtain ⟨z1, z2, zl, hz⟩ : ∃ z1 z2 zl, (s1 + 1, s2, sl) = ((z1, z2, zl) : DSt) := ⟨_, _, _, rfl⟩
              have hxz : ∀ o, w7.cell? ⟨RB, o, none⟩ = (#[.int .i64 m.c, .int .i64 m.d, .int .i64 m.s, .int .i64 m.e, .int .i64 m.l, .slice ta t.length tc, .int .i64 (limit : Int), .int .i64 most, .int .i64 (z1 : Int), .bool z2, (.slice fa sl.length fc)] : Array Value)[o]? := fun o => by rw [hrz, hz]; rfl
              have hzz := hCz.size
              have hrn : runL f s (L1 ++ [k]) = ((s1 + 1, s2, sl), true) := by rw [runL_go f (by rw [hrun']), hrun', runL_one, hst]
              have hacz : (((s1 + 1, s2, sl) : DSt).2.2.length : Int) < most := HC.out.2.2
              have HZ := Lib.hid (And.intro hSg7 (And.intro hCz (And.intro hSub (And.intro hrn hacz)))); clear hrn hrz hz hacz hSg7 hCz hSub hst hrun' hx7
              go_wp2_with fail
              refine (l02Next_any m HA.out.2.2.2.2.2.2.1 _ k _ hkz HK.out.2.1 HK.out.2.2.1).mono ?_
              rintro e' wM ⟨kv', he', hkv', hbM⟩
              rw [HK.out.2.2.2.1] at he' hkv'
              subst he'
              have hkv2 : (nextAns r).2 = true → V1 (fun b => ¬ RG RB (.slice fa sl.length fc) b) wM kv' (nextAns r).1 := fun hh => (hkv' hh).mono (fun b h1 h2 hf => by
                have := HZ.out.1.lt hf
                rcases h1 with h1 | h1
                · exact h1.elim
                · omega) (fun _ _ _ => rfl)
              have HM := Lib.hid (And.intro hkv2 (And.intro (toCome_nextG HA.out.2.2.2.2.2.2.2.1 hkv2 HK.out.2.2.2.2.1) (toCome_more (m := m) HK.out.1))); clear hkv' hkv2 hxz
              obtain ⟨qb, hqb⟩ : ∃ qb, (nextAns r).2 = qb := ⟨_, rfl⟩
              rw [hqb]
              have Hqb := Lib.hid hqb; clear hqb
              go_wp2_with fail
              go_roundw
              case rel => exact ⟨L1 ++ [k], r, (s1 + 1, s2, sl), (.slice fa sl.length fc), HK.out.2.2.2.2.2, HZ.out.2.2.2.1, by rw [Hqb.out], HM.out.1, HZ.out.1.below hbM, (HC.out.1.trans HZ.out.2.1 (fun i hi => HC.out.2.1 i hi)).then_below hbM, fun b hb => by
                rcases HZ.out.2.2.1 b hb with h | h
                · exact HC.out.2.1 b h
                · right; omega, HZ.out.2.2.2.2⟩
              case measure => rw [HM.out.2.2, HK.out.2.2.2.1]; have := HM.out.2.1; rw [Hqb.out] at this; omega
            · have hst : f (s1, s2, sl) k = goF limit (stayP n t) (visK most) (keysOf m) d (cuts ++ [k]) (s1 + 1, s2, sl) := by rw [HS.out.2.2.2.1]; rfl
              have hact2 : (goF limit (stayP n t) (visK most) (keysOf m) d (cuts ++ [k]) (s1 + 1, s2, sl)).2 = true → ((goF limit (stayP n t) (visK most) (keysOf m) d (cuts ++ [k]) (s1 + 1, s2, sl)).1.2.2.length : Int) < most := fun h => goF_act (act := fun l : List (List (List Int)) => (l.length : Int) < most) visK_still (s := (s1 + 1, s2, sl)) HC.out.2.2 h
              have IHr := HA.out.2.2.2.2.2.1 (cuts ++ [k]) (.slice na (cuts.length + 1) nc) (s1 + 1, s2, sl) (.slice fa sl.length fc) w7 (by simp; omega)
                ⟨hSg7, (HS.out.2.2.1.below hb57), (HN.out.2.1.below hb7).mono (fun b hb hlt hf => by
                    have h1 := HS.out.1.lt hf
                    rcases hb with (hb | hb) | hb
                    · exact hb hf
                    · exact hb hf
                    · omega) (fun _ _ _ => rfl), fun e => by simp at e, HS.out.2.2.2.2.2, HC.out.2.2⟩
              obtain ⟨rr, hrr⟩ : ∃ q, goF limit (stayP n t) (visK most) (keysOf m) d (cuts ++ [k]) (s1 + 1, s2, sl) = q := ⟨_, rfl⟩
              rw [hrr] at IHr hst hact2
              obtain ⟨rs, rb⟩ := rr
              have HIr := Lib.hid (And.intro IHr (And.intro hst (And.intro hact2 (And.intro hCz hb57)))); clear IHr hst hact2 hrr hCz hSg7 hb57 hb7
              cases rb
              · go_wp2_with fail
                refine HIr.out.1.mono ?_
                rintro e' wq ⟨fv2, rfl, h1, h2, h3⟩
                have hCq := HC.out.1.trans (HIr.out.2.2.2.1.trans h2 (fun i hi => .inl hi)) (fun i hi => HC.out.2.1 i hi)
                have hSq : ∀ b, RG RB fv2 b → RG RB fv0 b ∨ W.heap.size ≤ b := fun b hb => by
                  rcases h3 b hb with h | h
                  · exact HC.out.2.1 b h
                  · right; omega
                have hres := Hrun.out.2.1 _ (runL_stopat2 Hrun.out.1 HIr.out.2.1)
                have HZ := Lib.hid (And.intro h1 (And.intro hCq (And.intro hSq hres))); clear h1 h2 h3 hCq hSq hres hx7
                go_wp2_with fail
                go_ret
                rw [HZ.out.2.2.2]
                exact ⟨fv2, rfl, HZ.out.1, HZ.out.2.1, HZ.out.2.2.1⟩
              · go_wp2_with fail
                refine HIr.out.1.mono ?_
                rintro e' wq ⟨fv2, rfl, h1, h2, h3⟩
                have hCq := HIr.out.2.2.2.1.trans h2 (fun i hi => .inl hi)
                have hSq : ∀ b, RG RB fv2 b → RG RB (.slice fa sl.length fc) b ∨ wr.heap.size ≤ b := fun b hb => by
                  rcases h3 b hb with h | h
                  · exact .inl h
                  · right; omega
                have hrun' := Hrun.out.1
                have hst := HIr.out.2.1
                have hkz : V1 (fun b => ¬ RG RB fv2 b) wq (.slice ka k.length kc) k := HK.out.1.mono (fun b h1 h2 h3 => by
                  rcases hSq b h3 with h | h
                  · exact h1 h
                  · omega) (hCq.keep fun b h => h)
                have hrz := h1.cell
                obtain ⟨z1, z2, zl, hz⟩ : ∃ z1 z2 zl, rs = ((z1, z2, zl) : DSt) := ⟨_, _, _, rfl⟩
                have hxz : ∀ o, wq.cell? ⟨RB, o, none⟩ = (#[.int .i64 m.c, .int .i64 m.d, .int .i64 m.s, .int .i64 m.e, .int .i64 m.l, .slice ta t.length tc, .int .i64 (limit : Int), .int .i64 most, .int .i64 (z1 : Int), .bool z2, fv2] : Array Value)[o]? := fun o => by rw [hrz, hz]; rfl
                have hzz := hCq.size
                have hrn : runL f s (L1 ++ [k]) = (rs, true) := by rw [runL_go f (by rw [hrun']), hrun', runL_one, hst]
                have hacz : ((rs : DSt).2.2.length : Int) < most := (HIr.out.2.2.1 trivial)
                have HZ := Lib.hid (And.intro h1 (And.intro hCq (And.intro hSq (And.intro hrn hacz)))); clear hrn hrz hz hacz h1 h2 h3 hCq hSq hst hrun' hx7
                go_wp2_with fail
                refine (l02Next_any m HA.out.2.2.2.2.2.2.1 _ k _ hkz HK.out.2.1 HK.out.2.2.1).mono ?_
                rintro e' wM ⟨kv', he', hkv', hbM⟩
                rw [HK.out.2.2.2.1] at he' hkv'
                subst he'
                have hkv2 : (nextAns r).2 = true → V1 (fun b => ¬ RG RB fv2 b) wM kv' (nextAns r).1 := fun hh => (hkv' hh).mono (fun b h1 h2 hf => by
                  have := HZ.out.1.lt hf
                  rcases h1 with h1 | h1
                  · exact h1.elim
                  · omega) (fun _ _ _ => rfl)
                have HM := Lib.hid (And.intro hkv2 (And.intro (toCome_nextG HA.out.2.2.2.2.2.2.2.1 hkv2 HK.out.2.2.2.2.1) (toCome_more (m := m) HK.out.1))); clear hkv' hkv2 hxz
                obtain ⟨qb, hqb⟩ : ∃ qb, (nextAns r).2 = qb := ⟨_, rfl⟩
                rw [hqb]
                have Hqb := Lib.hid hqb; clear hqb
                go_wp2_with fail
                go_roundw
                case rel => exact ⟨L1 ++ [k], r, rs, fv2, HK.out.2.2.2.2.2, HZ.out.2.2.2.1, by rw [Hqb.out], HM.out.1, HZ.out.1.below hbM, (HC.out.1.trans HZ.out.2.1 (fun i hi => HC.out.2.1 i hi)).then_below hbM, fun b hb => by
                  rcases HZ.out.2.2.1 b hb with h | h
                  · exact HC.out.2.1 b h
                  · right; omega, HZ.out.2.2.2.2⟩
                case measure => rw [HM.out.2.2, HK.out.2.2.2.1]; have := HM.out.2.1; rw [Hqb.out] at this; omega
end Go.Proofs.YtikdbjaimcciiaaGreat
