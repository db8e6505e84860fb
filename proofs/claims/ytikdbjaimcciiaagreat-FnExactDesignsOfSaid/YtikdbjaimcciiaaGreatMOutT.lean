/- Copies of lists: the program's and the reference's. No conditions. -/
import Derived.Test.YtikdbjaimcciiaaGreatClone2
import Derived.Test.YtikdbjaimcciiaaGreatMSort
import Derived.Test.YtikdbjaimcciiaaGreatOut
namespace Go.Proofs.YtikdbjaimcciiaaGreat
open Go.RowKit
set_option linter.unusedVariables false
set_option linter.unusedSimpArgs false

set_option maxRecDepth 100000 in
set_option maxHeartbeats 1000000 in
theorem copyLists_any {S : Nat → Prop} (v : Value) (ls : List (List Int)) (W : World) (h : V2 S W v ls) (hl : ls.length ≤ 1000) (hr : ∀ k, k < ls.length → (getl ls k).length ≤ 1000) :
    Calls Tryz.prog 125 #[v] W fun e' w' => ∃ v', e' = .returned v' ∧ F2 W.heap.size w' v' ls ∧ Below W.heap.size W w' := by
  have hV := h
  obtain ⟨a, c, rfl, hm⟩ := h.form
  have hO0 := Out2.start W W.heap.size (Nat.le_refl _)
  have HO0 := Lib.hid hO0; clear hO0
  have Hr := Lib.hid hr; clear hr h
  go_enter Tryz.func125, Tryz.ntmps125
  go_wp2_with fail
  go_loopw [3, 5, 9] (fun ou _ i wr => ∃ k : Nat, k ≤ ls.length ∧ i = .int .i64 (k : Int) ∧ Out2 W.heap.size wr ou (ls.take k) ∧ Below W.heap.size W wr) (fun _ _ i _ => ls.length - (intOf i).toNat)
  case atStart => exact ⟨0, Nat.zero_le _, rfl, HO0.out, (Below.refl _ _).alloc (Nat.le_refl _) _⟩
  case round =>
    obtain ⟨k, hk, rfl, hO, hB⟩ := hrel
    have hzr := hB.size
    by_cases hkk : k < ls.length
    · obtain ⟨b1, off1, a1, c1, rfl, _, hc1, hr1⟩ := (hV.below hB).cell hkk
      have hlk := Hr.out k hkk
      have hlt : (ls.take k).length ≤ 1000 := by rw [List.length_take]; omega
      have hst : ls.take (k + 1) = ls.take k ++ [getl ls k] := take_getl hkk
      obtain ⟨pre, hpre⟩ : ∃ p, ls.take k = p := ⟨_, rfl⟩
      rw [hpre] at hO hst hlt
      have Hst := Lib.hid (And.intro hst hpre); clear hst hpre
      obtain ⟨vs, bk, g1, g2, g3⟩ := hO
      have G := Lib.hid (And.intro g1 (And.intro g2 g3)); clear g1 g2 g3
      go_wp2_with fail
      refine (slClone_any _ (getl ls k) _ hr1 (by omega)).mono ?_
      rintro e' w2 ⟨rv, rfl, ⟨bx, hx, hbx⟩, hb2⟩
      obtain ⟨ra, rc, rfl, hrc1, hrc2, _⟩ := id hx
      have hO2 := own_keep G.out.1 hb2
      have hz2 := hb2.size
      have Hx := Lib.hid (And.intro hx hbx); clear hx hbx
      go_wp2_with (at_builtin; refine wp_app1 _ rfl _ _ 26 rfl W.heap.size 35 (.slice none 0 0) 24 Tryz.underlying26 inf_ints rfl _ _ _ rfl hO2 (.slice ra (getl ls k).length rc) _ rfl rfl (by omega) (by omega) (by omega) ?_; intro v1 w1 hown1 hgrow1 hblk1 hB1)
      go_roundw
      case rel => exact ⟨k + 1, by omega, by go_num, by rw [Hst.out.1]; exact Out2.push G.out.1 G.out.2.1 G.out.2.2 hzr hb2 Hx.out.1 (fun hn => Hx.out.2 hn) hown1 hgrow1 hblk1, (hB.trans (hb2.mono hzr)).trans hB1⟩
      case measure => simp [intOf]; omega
    · obtain rfl : k = ls.length := by omega
      rw [List.take_length] at hO
      obtain ⟨oa, oc, rfl, _, _⟩ := hO.form
      have HO := Lib.hid hO.f2; clear hO
      go_wp2_with fail
      go_ret
      exact ⟨_, rfl, HO.out, hB⟩
set_option maxRecDepth 100000 in
set_option maxHeartbeats 1000000 in
theorem l15Lists_any {S : Nat → Prop} (v : Value) (ls : List (List Int)) (W : World) (h : V2 S W v ls) (hl : ls.length ≤ 1000) (hr : ∀ k, k < ls.length → (getl ls k).length ≤ 1000 ∧ getl ls k ≠ []) :
    Calls Tryz.prog 117 #[v] W fun e' w' => ∃ v', e' = .returned v' ∧ (F2 W.heap.size w' v' ls ∧ PV v') ∧ Below W.heap.size W w' := by
  have hV := h
  obtain ⟨a, c, rfl, hm⟩ := h.form
  have hO0 := Out2.start W W.heap.size (Nat.le_refl _)
  have HO0 := Lib.hid hO0; clear hO0
  have Hr := Lib.hid hr; clear hr h
  go_enter Tryz.func117, Tryz.ntmps117
  go_wp2_with fail
  go_loopw [3, 4] (fun ou i wr => ∃ k : Nat, k ≤ ls.length ∧ i = .int .i64 (k : Int) ∧ Out2 W.heap.size wr ou (ls.take k) ∧ Below W.heap.size W wr) (fun _ i _ => ls.length - (intOf i).toNat)
  case atStart => exact ⟨0, Nat.zero_le _, rfl, HO0.out, (Below.refl _ _).alloc (Nat.le_refl _) _⟩
  case round =>
    obtain ⟨k, hk, rfl, hO, hB⟩ := hrel
    have hzr := hB.size
    by_cases hkk : k < ls.length
    · obtain ⟨b1, off1, a1, c1, rfl, _, hc1, hr1⟩ := (hV.below hB).cell hkk
      have hlk := Hr.out k hkk
      have hlt : (ls.take k).length ≤ 1000 := by rw [List.length_take]; omega
      have hst : ls.take (k + 1) = ls.take k ++ [getl ls k] := take_getl hkk
      obtain ⟨pre, hpre⟩ : ∃ p, ls.take k = p := ⟨_, rfl⟩
      rw [hpre] at hO hst hlt
      have Hst := Lib.hid (And.intro hst hpre); clear hst hpre
      obtain ⟨vs, bk, g1, g2, g3⟩ := hO
      have G := Lib.hid (And.intro g1 (And.intro g2 g3)); clear g1 g2 g3
      have Hlk := Lib.hid hlk.2
      have hlk1 := hlk.1
      clear hlk
      go_wp2_with fail
      refine (l01Own_any _ (getl ls k) _ hr1 (fun e => absurd e Hlk.out) (by omega)).mono ?_
      rintro e' w2 ⟨rv, rfl, hown, hb2⟩
      obtain ⟨bx, hx, hbx⟩ := own_F1 hown
      obtain ⟨ra, rc, rfl, hrc1, hrc2, _⟩ := id hx
      have hO2 := own_keep G.out.1 hb2
      have hz2 := hb2.size
      have Hx := Lib.hid (And.intro hx hbx); clear hx hbx hown
      go_wp2_with (at_builtin; refine wp_app1 _ rfl _ _ 26 rfl W.heap.size 35 (.slice none 0 0) 24 Tryz.underlying26 inf_ints rfl _ _ _ rfl hO2 (.slice ra (getl ls k).length rc) _ rfl rfl (by omega) (by omega) (by omega) ?_; intro v1 w1 hown1 hgrow1 hblk1 hB1)
      go_roundw
      case rel => exact ⟨k + 1, by omega, by go_num, by rw [Hst.out.1]; exact Out2.push G.out.1 G.out.2.1 G.out.2.2 hzr hb2 Hx.out.1 (fun hn => Hx.out.2 hn) hown1 hgrow1 hblk1, (hB.trans (hb2.mono hzr)).trans hB1⟩
      case measure => simp [intOf]; omega
    · obtain rfl : k = ls.length := by omega
      rw [List.take_length] at hO
      have hpv : PV _ := own_pv hO.own.choose_spec
      obtain ⟨oa, oc, rfl, _, _⟩ := hO.form
      have HO := Lib.hid (And.intro hO.f2 hpv); clear hO hpv
      go_wp2_with fail
      go_ret
      exact ⟨_, rfl, HO.out, hB⟩
end Go.Proofs.YtikdbjaimcciiaaGreat

namespace Go.Proofs.YtikdbjaimcciiaaGreat
open Go.RowKit
set_option linter.unusedVariables false
set_option linter.unusedSimpArgs false

/-- Design ls lies in blocks from lo on and below hi. -/
def In2 (lo hi : Nat) (w : World) (v : Value) (ls : List (List Int)) : Prop :=
  ∃ ob bk, X2 w v ls ob bk ∧ (ls ≠ [] → lo ≤ ob ∧ ob < hi) ∧ ∀ k, k < ls.length → getl ls k ≠ [] → lo ≤ bk k ∧ bk k < hi
theorem In2.of_F2 {lo : Nat} {w : World} {v : Value} {ls : List (List Int)} (h : F2 lo w v ls) : In2 lo w.heap.size w v ls := by
  obtain ⟨ob, bk, h1, h2, h3⟩ := h
  refine ⟨ob, bk, h1, fun hn => ⟨h2 hn, (h1.lt hn).1⟩, fun k hk hn => ⟨h3 k hk hn, (h1.lt ?_).2 k hk hn⟩⟩
  intro e; subst e; simp at hk
theorem In2.keep {lo hi : Nat} {w w' : World} {v : Value} {ls : List (List Int)} (h : In2 lo hi w v ls) (hk : ∀ b, lo ≤ b → b < hi → w'.heap[b]? = w.heap[b]?) : In2 lo hi w' v ls := by
  obtain ⟨ob, bk, h1, h2, h3⟩ := h
  exact ⟨ob, bk, h1.keep (fun hn => hk _ (h2 hn).1 (h2 hn).2) (fun k hlt hn => hk _ (h3 k hlt hn).1 (h3 k hlt hn).2), h2, h3⟩
theorem In2.f2 {lo hi : Nat} {w : World} {v : Value} {ls : List (List Int)} (h : In2 lo hi w v ls) : F2 lo w v ls := by
  obtain ⟨ob, bk, h1, h2, h3⟩ := h
  exact ⟨ob, bk, h1, fun hn => (h2 hn).1, fun k hk hn => (h3 k hk hn).1⟩
/-- v is a slice of the call's own (from block B on); design k lies in the blocks from L k on and below U k. -/
structure Out3 (B : Nat) (L U : Nat → Nat) (w : World) (v : Value) (vs : List Value) (ds : List (List (List Int))) : Prop where
  own : w.ownsRow B 26 1 v ds.length vs
  each : ∀ k, k < ds.length → ∃ rv, vs[k]? = some rv ∧ In2 (L k) (U k) w rv (getll ds k)
  apart : ∀ k, k < ds.length → B ≤ L k ∧ L k ≤ U k ∧ U k ≤ w.heap.size ∧ (∀ g, v.ownBlock = some g → g < L k ∨ U k ≤ g) ∧ ∀ j, j < k → U j ≤ L k
/-- The blocks in which the designs lie. -/
def T3 (L U : Nat → Nat) (v : Value) (n b : Nat) : Prop := v.ownBlock = some b ∨ ∃ k, k < n ∧ L k ≤ b ∧ b < U k
theorem Out3.keep {B : Nat} {L U : Nat → Nat} {w w' : World} {v : Value} {vs : List Value} {ds : List (List (List Int))} (h : Out3 B L U w v vs ds) (hz : w.heap.size ≤ w'.heap.size) (hk : ∀ b, T3 L U v ds.length b → w'.heap[b]? = w.heap[b]?) : Out3 B L U w' v vs ds := by
  refine ⟨⟨h.own.1, ?_⟩, fun k hlt => ?_, fun k hlt => ?_⟩
  · rcases h.own.2 with h0 | ⟨g, cap, cur, rfl, h1, h2, h3⟩
    · exact .inl h0
    · exact .inr ⟨g, cap, cur, rfl, h1, by rw [hk g (.inl rfl)]; exact h2, h3⟩
  · obtain ⟨rv, h1, h2⟩ := h.each k hlt
    exact ⟨rv, h1, h2.keep fun b hl hu => hk b (.inr ⟨k, hlt, hl, hu⟩)⟩
  · obtain ⟨h1, h2, h3, h4⟩ := h.apart k hlt
    exact ⟨h1, h2, Nat.le_trans h3 hz, h4⟩
theorem Out3.lt {B : Nat} {L U : Nat → Nat} {w : World} {v : Value} {vs : List Value} {ds : List (List (List Int))} (h : Out3 B L U w v vs ds) {b : Nat} (hb : T3 L U v ds.length b) : B ≤ b ∧ b < w.heap.size := by
  rcases hb with hb | ⟨k, hk, hl, hu⟩
  · exact h.own.lt b hb
  · obtain ⟨h1, h2, h3, _⟩ := h.apart k hk
    exact ⟨by omega, by omega⟩
theorem Out3.form {B : Nat} {L U : Nat → Nat} {w : World} {v : Value} {vs : List Value} {ds : List (List (List Int))} (h : Out3 B L U w v vs ds) : ∃ a c, v = .slice a ds.length c ∧ ds.length ≤ c ∧ c ≤ maxLen := own_form h.own
theorem Out3.start (w : World) (B : Nat) (hb : B ≤ w.heap.size) : Out3 B (fun _ => 0) (fun _ => 0) (w.alloc (.cells #[] 26)) (.slice (some ⟨w.heap.size, 0, none⟩) 0 0) [] [] :=
  ⟨own_lit0 w B _ 1 hb, fun k hk => by simp at hk, fun k hk => by simp at hk⟩
theorem getll_app1 {ds : List (List (List Int))} {l : List (List Int)} {k : Nat} (h : k < ds.length) : getll (ds ++ [l]) k = getll ds k := by
  simp [getll, List.getElem?_append_left h]
theorem getll_app2 {ds : List (List (List Int))} {l : List (List Int)} : getll (ds ++ [l]) ds.length = l := by
  unfold getll; simp
/-- One design more. w: before its copy is made; w2: the copy is made; w1: it is appended. -/
theorem Out3.push {B : Nat} {L U : Nat → Nat} {w w2 w1 : World} {v v1 rv : Value} {vs : List Value} {ds : List (List (List Int))} {l : List (List Int)}
    (h : Out3 B L U w v vs ds) (hB : B ≤ w.heap.size) (hb : Below w.heap.size w w2) (hx : F2 w.heap.size w2 rv l)
    (hown : w1.ownsRow B 26 1 v1 (ds.length + 1) (vs ++ [rv])) (hg : w2.grownBy w1 v.ownBlock) (hblk : v1.ownBlock = v.ownBlock ∨ ∃ g, v1.ownBlock = some g ∧ w2.heap.size ≤ g) :
    Out3 B (fun k => if k < ds.length then L k else w.heap.size) (fun k => if k < ds.length then U k else w2.heap.size) w1 v1 (vs ++ [rv]) (ds ++ [l]) ∧
    (∀ b, T3 (fun k => if k < ds.length then L k else w.heap.size) (fun k => if k < ds.length then U k else w2.heap.size) v1 (ds ++ [l]).length b → T3 L U v ds.length b ∨ w.heap.size ≤ b) := by
  have hvl1 := h.own.1
  have hz := hb.size
  have hz1 := hg.size
  refine ⟨⟨by simpa using hown, fun k hk => ?_, fun k hk => ?_⟩, fun b hb' => ?_⟩
  · by_cases hkl : k < ds.length
    · obtain ⟨rv', h4, h5⟩ := h.each k hkl
      obtain ⟨a1, a2, a3, a4, a5⟩ := h.apart k hkl
      refine ⟨rv', by rw [List.getElem?_append_left (by omega)]; exact h4, ?_⟩
      rw [getll_app1 hkl]
      simp only [hkl, if_true]
      refine h5.keep fun b hl hu => ?_
      rw [hg.block b (by omega) (fun e => by have := a4 b e.symm; omega), hb.block b (by omega)]
    · have e : k = ds.length := by simp at hk; omega
      subst e
      refine ⟨rv, by rw [List.getElem?_append_right (by omega)]; simp [show ds.length - vs.length = 0 by omega], ?_⟩
      rw [getll_app2]
      simp only [Nat.lt_irrefl, if_false]
      exact (In2.of_F2 hx).keep fun b hl hu => hg.block b hu (fun e => by have := (h.own.lt b e.symm).2; omega)
  · by_cases hkl : k < ds.length
    · simp only [hkl, if_true]
      obtain ⟨a1, a2, a3, a4, a5⟩ := h.apart k hkl
      refine ⟨a1, a2, by omega, fun g hgg => ?_, fun j hj => ?_⟩
      · rcases hblk with e | ⟨g', e, hge⟩
        · exact a4 g (e ▸ hgg)
        · rw [hgg] at e; cases e; omega
      · simp only [show j < ds.length by omega, if_true]; exact a5 j hj
    · have e : k = ds.length := by simp at hk; omega
      subst e
      simp only [Nat.lt_irrefl, if_false]
      refine ⟨hB, hz, hz1, fun g hgg => ?_, fun j hj => ?_⟩
      · rcases hblk with e | ⟨g', e, hge⟩
        · have := (h.own.lt g (e ▸ hgg)).2; omega
        · rw [hgg] at e; cases e; omega
      · simp only [hj, if_true]; exact (h.apart j hj).2.2.1
  · rcases hb' with hb' | ⟨k, hk, hl, hu⟩
    · rcases hblk with e | ⟨g', e, hge⟩
      · exact .inl (.inl (e ▸ hb'))
      · rw [hb'] at e; cases e; right; omega
    · by_cases hkl : k < ds.length
      · simp only [hkl, if_true] at hl hu
        exact .inl (.inr ⟨k, hkl, hl, hu⟩)
      · simp only [hkl, if_false] at hl
        exact .inr hl
end Go.Proofs.YtikdbjaimcciiaaGreat
