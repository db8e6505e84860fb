/- slices.Clone over rows, and the reference's own one with a row more. No conditions. -/
import Derived.Test.YtikdbjaimcciiaaGreatRowv
import Derived.Test.YtikdbjaimcciiaaGreatMBegins
import Derived.Test.YtikdbjaimcciiaaGreatMLocks
namespace Go.Proofs.YtikdbjaimcciiaaGreat
open Go.RowKit
set_option linter.unusedVariables false
set_option linter.unusedSimpArgs false

theorem rows_of {S : Nat → Prop} {w : World} {a : Option Addr} {n c : Nat} {ls : List (List Int)} (h : V2 S w (.slice a n c) ls) (hn : ls ≠ []) : ∃ b off vs, a = some ⟨b, off, none⟩ ∧ RowVs S w vs ls ∧ ∀ j u, vs[j]? = some u → w.cell? ((⟨b, off, none⟩ : Addr).add j) = some u := by
  have h2 := h
  obtain ⟨a', c', e, hm⟩ := h.form
  simp only [Value.slice.injEq] at e
  obtain ⟨rfl, rfl, rfl⟩ := e
  obtain ⟨b, off, a0, c0, rfl, _, _, _⟩ := h2.cell (k := 0) (List.length_pos_iff.2 hn)
  refine ⟨b, off, (List.range ls.length).map fun j => (w.cell? ⟨b, off + j, none⟩).getD undef, rfl, ⟨by simp, fun k hk => ?_⟩, fun j u hj => ?_⟩
  · obtain ⟨b1, off1, a1, c1, e, _, hc, hr⟩ := h2.cell hk
    simp only [Option.some.injEq, Addr.mk.injEq, and_true] at e
    obtain ⟨rfl, rfl⟩ := e
    refine ⟨_, by rw [List.getElem?_map, List.getElem?_range hk]; rfl, ?_⟩
    show V1 S w ((w.cell? ⟨b, off + k, none⟩).getD undef) _
    rw [hc]; exact hr
  · have hjl : j < ls.length := by
      have := (List.getElem?_eq_some_iff.1 hj).1
      simpa using this
    obtain ⟨b1, off1, a1, c1, e, _, hc, hr⟩ := h2.cell hjl
    simp only [Option.some.injEq, Addr.mk.injEq, and_true] at e
    obtain ⟨rfl, rfl⟩ := e
    rw [List.getElem?_map, List.getElem?_range hjl] at hj
    have hadd : (⟨b, off, none⟩ : Addr).add j = ⟨b, off + j, none⟩ := by unfold Addr.add; split <;> simp_all
    rw [hadd]
    simp only [Option.map_some, hc, Option.getD_some] at hj
    rw [hc, hj]
theorem RowVs.ones {S : Nat → Prop} {w : World} {vs : List Value} {ls : List (List Int)} (h : RowVs S w vs ls) : ∀ u ∈ vs, u.oneCell' = true := by
  intro u hu
  obtain ⟨k, hk, e⟩ := List.getElem_of_mem hu
  obtain ⟨ev, h1, h2⟩ := h.2 k (by rw [← h.1]; exact hk)
  obtain ⟨a, c, rfl, _⟩ := h2.form
  rw [List.getElem?_eq_getElem hk, e] at h1
  cases h1
  rfl
def CloneR (W : World) (S : Nat → Prop) (ls : List (List Int)) (e' : Ending) (w' : World) : Prop :=
  ∃ v' vs, e' = .returned v' ∧ w'.ownsRow W.heap.size 35 1 v' ls.length vs ∧ RowVs S w' vs ls ∧ Below W.heap.size W w'
theorem eqlNilR (w : World) : Sem.run Tryz.prog (binOp .eql 26 (.slice none 0 0) (.slice none 0 0)) w = .ok (.bool true) w := by kernel_rfl
theorem eqlSomeR (w : World) (ad : Addr) (n c : Nat) : Sem.run Tryz.prog (binOp .eql 26 (.slice (some ad) n c) (.slice none 0 0)) w = .ok (.bool false) w := by kernel_rfl
set_option maxRecDepth 100000 in
theorem slClone2_any {S : Nat → Prop} (v : Value) (ls : List (List Int)) (W : World) (h : V2 S W v ls) (hp : ls = [] → PV v) (hlen : ls.length ≤ 1000000) :
    Calls Tryz.prog 191 #[v] W (CloneR W S ls) := by
  have hV := h
  obtain ⟨a, c, rfl, hm⟩ := h.form
  have hE1 := eqlNilR
  have hE2 := eqlSomeR
  have hbb : Below W.heap.size W (W.alloc (.cells #[] 35)) := (Below.refl _ _).alloc (Nat.le_refl _) _
  by_cases hn : ls = []
  · subst hn
    rcases hp rfl with e | ⟨b, off, n, c', e⟩
    · simp only [List.length_nil, Value.slice.injEq] at e
      obtain ⟨rfl, _, rfl⟩ := e
      go_enter Tryz.func191, Tryz.ntmps191
      go_wp2_with fail
      go_ret
      exact ⟨_, [], rfl, ⟨rfl, .inl ⟨rfl, rfl⟩⟩, RowVs.nil, Below.refl _ _⟩
    · simp only [List.length_nil, Value.slice.injEq] at e
      obtain ⟨rfl, rfl, rfl⟩ := e
      have hown0 := own_lit0 W W.heap.size 35 1 (Nat.le_refl _)
      go_enter Tryz.func191, Tryz.ntmps191
      go_wp2_with (at_builtin; refine wp_app rfl _ _ 26 rfl W.heap.size 35 (.slice none 0 0) 1 24 Tryz.underlying26 inf_ints rfl (by omega) _ _ _ rfl hown0 _ _ _ [] rfl rfl (fun j u hj => by simp at hj) (by simp) (by unfold maxLen; omega) (by omega) (by simp) ?_; intro v1 w1 hown1 hgrow1 hblk1)
      go_ret
      exact ⟨_, [], rfl, hown1, RowVs.nil, hbb.grown hgrow1 (by simp) (fun k hk => by have := hown0.lt k hk; exact this.1)⟩
  · obtain ⟨b, off, vs, rfl, hvs, hnews0⟩ := rows_of hV hn
    have hnews : ∀ j u, vs[j]? = some u → (W.alloc (.cells #[] 35)).cell? ((⟨b, off, none⟩ : Addr).add j) = some u := fun j u hj => (by rw [World.cell?_alloc_some _ _ _ (by rw [hnews0 j u hj]; rfl)]; exact hnews0 j u hj)
    have hown0 := own_lit0 W W.heap.size 35 1 (Nat.le_refl _)
    have hvl := hvs.1
    have Hnews := Lib.hid (And.intro hnews hvs); clear hnews hvs
    have Hn := Lib.hid hn; clear hn hp h hV
    go_enter Tryz.func191, Tryz.ntmps191
    go_wp2_with (at_builtin; refine wp_app rfl _ _ 26 rfl W.heap.size 35 (.slice none 0 0) 1 24 Tryz.underlying26 inf_ints rfl (by omega) _ _ _ rfl hown0 _ _ _ vs rfl (by omega) Hnews.out.1 Hnews.out.2.ones (by unfold maxLen; omega) (by omega) (by simp) ?_; intro v1 w1 hown1 hgrow1 hblk1)
    go_ret
    have hlt : ∀ k, (Value.slice (some ⟨W.heap.size, 0, none⟩) 0 0).ownBlock = some k → W.heap.size ≤ k := fun k hk => by have := hown0.lt k hk; exact this.1
    have hB := hbb.grown hgrow1 (by simp) hlt
    refine ⟨_, vs, rfl, ?_, ?_, hB⟩
    · simpa using hown1
    · exact Hnews.out.2.below hB
def WithR (W : World) (S S' : Nat → Prop) (ls : List (List Int)) (e' : Ending) (w' : World) : Prop :=
  ∃ v' vs, e' = .returned v' ∧ w'.ownsRow W.heap.size 35 1 v' ls.length vs ∧ RowVs (fun b => S b ∨ S' b) w' vs ls ∧ Below W.heap.size W w'
set_option maxRecDepth 100000 in
theorem l16With_any {S S' : Nat → Prop} (v kv : Value) (ls : List (List Int)) (k : List Int) (W : World) (h : V2 S W v ls) (hp : ls = [] → PV v) (hk : V1 S' W kv k) (hlen : ls.length ≤ 1000000) :
    Calls Tryz.prog 188 #[v, kv] W (WithR W S S' (ls ++ [k])) := by
  obtain ⟨i0, hi, hz0, hz1, hz2⟩ := info_parts inf_ints
  have hV := h
  have hK := hk
  obtain ⟨a, c, rfl, hm⟩ := h.form
  obtain ⟨ka, kc, rfl, hkm⟩ := hk.form
  have hbb : Below W.heap.size W (W.alloc (.cells #[] 35)) := (Below.refl _ _).alloc (Nat.le_refl _) _
  have hzA := hbb.size
  have hown0 := own_lit0 W W.heap.size 35 1 (Nat.le_refl _)
  have fin : ∀ (w2 : World) (vs : List Value) (v' : Value) (w' : World), RowVs S W vs ls → Below W.heap.size W w' → w'.ownsRow W.heap.size 35 1 v' (ls.length + 1) (vs ++ [.slice ka k.length kc]) → WithR W S S' (ls ++ [k]) (.returned v') w' := fun w2 vs v' w' h1 h2 h3 =>
    ⟨v', _, rfl, by simpa using h3, (RowVs.snoc (h := (show RowVs (fun b => S b ∨ S' b) w' vs ls from ⟨h1.1, fun j hj => by obtain ⟨ev, g1, g2⟩ := h1.2 j hj; exact ⟨ev, g1, (g2.below h2).mono (fun b hb _ => .inl hb) (fun _ _ _ => rfl)⟩⟩)) ((hK.below h2).mono (fun b hb _ => .inr hb) (fun _ _ _ => rfl))), h2⟩
  have Fin := Lib.hid fin; clear fin hk h
  by_cases hn : ls = []
  · subst hn
    rcases hp rfl with e | ⟨b, off, n, c', e⟩
    · simp only [List.length_nil, Value.slice.injEq] at e
      obtain ⟨rfl, _, rfl⟩ := e
      go_enter Tryz.func188, Tryz.ntmps188
      go_wp2_with (first | (at_builtin; refine wpList_append_own_none rfl _ _ 26 rfl W.heap.size 35 i0 1 Tryz.underlying26 hi _ _ _ rfl hown0 rfl ?_) | ((at_builtin; refine wp_app1h (W.alloc (.cells #[] 35)) (W.heap.size + 1) (by simp) rfl _ _ 26 rfl W.heap.size 35 (.slice none 0 0) 24 Tryz.underlying26 inf_ints rfl (.slice (some ⟨W.heap.size, 0, none⟩) 0 0) 0 [] rfl hown0 (.slice ka k.length kc) _ rfl rfl (by omega) (by omega) (by first | (simp; done) | (simp; omega)) ?_; intro v1 w1 hown1 hgrow1 hblk1 hB1)))
      go_ret
      exact Fin.out w1 [] _ _ RowVs.nil (hbb.trans (hB1.mono (by simp))) hown1
    · simp only [List.length_nil, Value.slice.injEq] at e
      obtain ⟨rfl, rfl, rfl⟩ := e
      go_enter Tryz.func188, Tryz.ntmps188
      go_wp2_with (first | (at_builtin; refine wp_app rfl _ _ 26 rfl W.heap.size 35 (.slice none 0 0) 1 24 Tryz.underlying26 inf_ints rfl (by omega) _ _ _ rfl hown0 _ _ _ [] rfl rfl (fun j u hj => by simp at hj) (by simp) (by unfold maxLen; omega) (by omega) (by simp) ?_; intro v2 w2 hown2 hgrow2 hblk2; have hB2 := hbb.grown hgrow2 (by simp) (fun k hk => by have := hown0.lt k hk; exact this.1); have hz2' := hB2.size) | (at_builtin; refine wp_app1 _ rfl _ _ 26 rfl W.heap.size 35 (.slice none 0 0) 24 Tryz.underlying26 inf_ints rfl _ _ _ rfl hown2 (.slice ka k.length kc) _ rfl rfl (by omega) (by omega) (by omega) ?_; intro v1 w1 hown1 hgrow1 hblk1 hB1))
      go_ret
      exact Fin.out w1 [] _ _ RowVs.nil (hB2.trans (hB1.mono (by omega))) hown1
  · obtain ⟨b, off, vs, rfl, hvs, hnews0⟩ := rows_of hV hn
    have hnews : ∀ j u, vs[j]? = some u → (W.alloc (.cells #[] 35)).cell? ((⟨b, off, none⟩ : Addr).add j) = some u := fun j u hj => (by rw [World.cell?_alloc_some _ _ _ (by rw [hnews0 j u hj]; rfl)]; exact hnews0 j u hj)
    have hvl := hvs.1
    have Hnews := Lib.hid (And.intro hnews hvs); clear hnews hvs hnews0
    have Hn := Lib.hid hn; clear hn hp hV
    go_enter Tryz.func188, Tryz.ntmps188
    go_wp2_with (first | (at_builtin; refine wp_app rfl _ _ 26 rfl W.heap.size 35 (.slice none 0 0) 1 24 Tryz.underlying26 inf_ints rfl (by omega) _ _ _ rfl hown0 _ _ _ vs rfl (by omega) Hnews.out.1 Hnews.out.2.ones (by unfold maxLen; omega) (by omega) (by simp) ?_; intro v2 w2 hown2' hgrow2 hblk2; have hB2 := hbb.grown hgrow2 (by simp) (fun k hk => by have := hown0.lt k hk; exact this.1); have hz2' := hB2.size; have hown2 : w2.ownsRow W.heap.size 35 1 v2 ls.length vs := by simpa using hown2') | (at_builtin; refine wp_app1 _ rfl _ _ 26 rfl W.heap.size 35 (.slice none 0 0) 24 Tryz.underlying26 inf_ints rfl _ _ _ rfl hown2 (.slice ka k.length kc) _ rfl rfl (by omega) (by omega) (by omega) ?_; intro v1 w1 hown1 hgrow1 hblk1 hB1))
    go_ret
    exact Fin.out w1 vs _ _ Hnews.out.2 (hB2.trans (hB1.mono (by omega))) hown1
end Go.Proofs.YtikdbjaimcciiaaGreat
