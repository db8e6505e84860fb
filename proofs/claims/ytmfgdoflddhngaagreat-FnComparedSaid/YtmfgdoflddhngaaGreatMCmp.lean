/- Lists of numbers, turned round and compared. No conditions. -/
import Derived.Test.YtmfgdoflddhngaaGreatMSys2
import Derived.Test.YtmfgdoflddhngaaGreatMProfR
namespace Go.Proofs.YtmfgdoflddhngaaGreat
open Go.RowKit
set_option linter.unusedVariables false
set_option linter.unusedSimpArgs false

def cmpI (x y : Int) : Int := if x < y then -1 else if y < x then 1 else 0
def lexC : List Int → List Int → Int
  | x :: xs, y :: ys => if cmpI x y = 0 then lexC xs ys else cmpI x y
  | _, _ => 0
theorem lexC_step {a b : List Int} {k : Nat} (h1 : k < a.length) (h2 : k < b.length) : lexC (a.drop k) (b.drop k) = if cmpI (geti a k) (geti b k) = 0 then lexC (a.drop (k + 1)) (b.drop (k + 1)) else cmpI (geti a k) (geti b k) := by
  rw [List.drop_eq_getElem_cons h1, List.drop_eq_getElem_cons h2, lexC, geti_eq h1, geti_eq h2]
/-- Two lists compared from their k-th number down. -/
def cmpTop (x y : List Int) : Nat → Int
  | 0 => 0
  | k + 1 => if cmpI (geti x k) (geti y k) = 0 then cmpTop x y k else cmpI (geti x k) (geti y k)
theorem lex_top {x y : List Int} : ∀ k, k ≤ x.length → k ≤ y.length → lexC (x.take k).reverse (y.take k).reverse = cmpTop x y k
  | 0, _, _ => by simp [lexC, cmpTop]
  | k + 1, h1, h2 => by
    rw [take_geti h1, take_geti h2, List.reverse_append, List.reverse_append]
    show lexC (geti x k :: (x.take k).reverse) (geti y k :: (y.take k).reverse) = _
    rw [lexC, lex_top k (by omega) (by omega)]; rfl
theorem lex_rev {x y : List Int} (h : x.length = y.length) : lexC x.reverse y.reverse = cmpTop x y x.length := by
  have := lex_top (x := x) (y := y) x.length (Nat.le_refl _) (by omega)
  rw [List.take_length, h, List.take_length] at this
  rw [this, h]
def swapL (l : List Int) (i j : Nat) : List Int := (l.set i (geti l j)).set j (geti l i)
def revTo (l : List Int) : Nat → List Int
  | 0 => l
  | k + 1 => swapL (revTo l k) k (l.length - 1 - k)
theorem revTo_len (l : List Int) : ∀ k, (revTo l k).length = l.length
  | 0 => rfl
  | k + 1 => by unfold revTo swapL; simp [revTo_len l k]
theorem geti_put {l : List Int} {p j : Nat} {x : Int} (hp : p < l.length) : geti (l.set p x) j = if p = j then x else geti l j := by
  unfold geti
  rw [List.getD_eq_getElem?_getD, List.getD_eq_getElem?_getD, List.getElem?_set]
  by_cases e : p = j
  · simp [e, e ▸ hp]
  · simp [e]
theorem revTo_get {l : List Int} {i : Nat} (hi : i < l.length) : ∀ k, 2 * k ≤ l.length → geti (revTo l k) i = if i < k ∨ l.length - k ≤ i then geti l (l.length - 1 - i) else geti l i
  | 0, _ => by rw [if_neg (by omega)]; rfl
  | k + 1, h => by
    have e1 := revTo_get (l := l) (i := k) (by omega) k (by omega)
    have e2 := revTo_get (l := l) (i := l.length - 1 - k) (by omega) k (by omega)
    have e3 := revTo_get hi k (by omega)
    have hl := revTo_len l k
    rw [if_neg (by omega)] at e1 e2
    unfold revTo swapL
    rw [geti_put (by simp [hl]; omega), geti_put (by rw [hl]; omega), e1, e2, e3]
    by_cases h1 : l.length - 1 - k = i
    · rw [if_pos h1, if_pos (by omega)]; congr 1; omega
    · rw [if_neg h1]
      by_cases h2 : k = i
      · rw [if_pos h2, if_pos (by omega)]; congr 1; omega
      · rw [if_neg h2]
        by_cases h3 : i < k ∨ l.length - k ≤ i
        · rw [if_pos h3, if_pos (by omega)]
        · rw [if_neg h3, if_neg (by omega)]
theorem revTo_end {l : List Int} {k : Nat} (h : 2 * k ≤ l.length) (h2 : l.length ≤ 2 * k + 1) : revTo l k = l.reverse := by
  apply List.ext_getElem (by rw [revTo_len, List.length_reverse])
  intro i h1 h3
  have hi : i < l.length := by rw [revTo_len] at h1; exact h1
  have e := revTo_get hi k h
  rw [geti_eq h1] at e
  rw [e, List.getElem_reverse]
  split
  · rw [geti_eq (by omega)]
  · rw [geti_eq hi]; congr 1; omega

theorem X1.get {w : World} {b off n c k : Nat} {l : List Int} (h : X1 w (.slice (some ⟨b, off, none⟩) n c) l b) (hk : k < l.length) : w.cell? ⟨b, off + k, none⟩ = some (.int .i64 (geti l k)) ∧ w.frozen? ⟨b, off + k, none⟩ = false := by
  obtain ⟨a', c', e, h1, h2, h3⟩ := h
  simp only [Value.slice.injEq] at e
  obtain ⟨rfl, rfl, rfl⟩ := e
  obtain ⟨off', cs, T, e, h4, h5⟩ := h3 (by intro e; subst e; simp at hk)
  cases e
  exact ⟨by rw [cell_of_block h4, h5 k hk], frozen_of_block h4 _⟩
theorem X1.put {w : World} {b off n c k : Nat} {l : List Int} (h : X1 w (.slice (some ⟨b, off, none⟩) n c) l b) (hk : k < l.length) (x : Int) : X1 (w.setCell ⟨b, off + k, none⟩ (.int .i64 x)) (.slice (some ⟨b, off, none⟩) n c) (l.set k x) b := by
  obtain ⟨a', c', e, h1, h2, h3⟩ := h
  simp only [Value.slice.injEq] at e
  obtain ⟨rfl, rfl, rfl⟩ := e
  obtain ⟨off', cs, T, e, h4, h5⟩ := h3 (by intro e; subst e; simp at hk)
  cases e
  refine ⟨_, c, by rw [List.length_set], by rw [List.length_set]; exact h1, h2, fun _ => ⟨off, _, T, rfl, heap_setCell_self h4 _, fun j hj => ?_⟩⟩
  rw [List.length_set] at hj
  rw [Array.getElem?_setIfInBounds]
  have hlt : off + k < cs.size := (Array.getElem?_eq_some_iff.1 (h5 k hk)).1
  by_cases e : k = j
  · subst e; rw [if_pos rfl, if_pos hlt, geti_put hk, if_pos rfl]
  · rw [if_neg (by omega), h5 j hj, geti_put hk, if_neg e]

theorem isNaN_any (x : Int) (W : World) : Calls Tryz.prog 288 #[.int .i64 x] W fun e w' => e = .returned (.bool false) ∧ W = w' := by
  go_enter Tryz.func288, Tryz.ntmps288
  go_wp2_with fail
  go_ret
  exact ⟨rfl, rfl⟩
theorem cmpCompare_any (x y : Int) (W : World) : Calls Tryz.prog 232 #[.int .i64 x, .int .i64 y] W fun e w' => e = .returned (.int .i64 (cmpI x y)) ∧ W = w' := by
  obtain ⟨r, hr⟩ : ∃ r, cmpI x y = r := ⟨_, rfl⟩
  rw [hr]
  unfold cmpI at hr
  by_cases h1 : x < y
  · rw [if_pos h1] at hr
    subst hr
    go_enter Tryz.func232, Tryz.ntmps232
    go_wp2_with (go_at_call 288; refine (isNaN_any _ _).mono ?_; rintro e' w' ⟨rfl, rfl⟩)
    go_ret
    exact ⟨rfl, rfl⟩
  · rw [if_neg h1] at hr
    by_cases h2 : y < x
    · rw [if_pos h2] at hr
      subst hr
      go_enter Tryz.func232, Tryz.ntmps232
      go_wp2_with (go_at_call 288; refine (isNaN_any _ _).mono ?_; rintro e' w' ⟨rfl, rfl⟩)
      go_ret
      exact ⟨rfl, rfl⟩
    · rw [if_neg h2] at hr
      subst hr
      go_enter Tryz.func232, Tryz.ntmps232
      go_wp2_with (go_at_call 288; refine (isNaN_any _ _).mono ?_; rintro e' w' ⟨rfl, rfl⟩)
      go_ret
      exact ⟨rfl, rfl⟩
theorem slCompare_any {S S' : Nat → Prop} (u v : Value) (a b : List Int) (W : World) (h1 : V1 S W u a) (h2 : V1 S' W v b) (hl : a.length = b.length) :
    Calls Tryz.prog 117 #[u, v] W fun e w' => e = .returned (.int .i64 (lexC a b)) ∧ W = w' := by
  have hA := h1
  have hB := h2
  obtain ⟨ua, uc, rfl, hu⟩ := h1.form
  obtain ⟨va, vc, rfl, hv⟩ := h2.form
  obtain ⟨r, hr⟩ : ∃ r, lexC a b = r := ⟨_, rfl⟩
  rw [hr]
  have Hr := Lib.hid (show lexC (a.drop 0) (b.drop 0) = r from hr); clear hr
  rw [← hl]
  have Hl := Lib.hid hl; clear hl
  go_enter Tryz.func117, Tryz.ntmps117
  go_wp2_with fail
  go_loop [5, 6, 7, 8, 11] (fun _ _ _ _ i => ∃ k : Nat, k ≤ a.length ∧ i = .int .i64 (k : Int) ∧ lexC (a.drop k) (b.drop k) = r) (fun _ _ _ _ i => a.length - (intOf i).toNat)
  case atStart => exact ⟨0, Nat.zero_le _, rfl, Hr.out⟩
  case round =>
    obtain ⟨k, hk, rfl, hrem⟩ := hrel
    have Hrem := Lib.hid hrem; clear hrem
    by_cases hkk : k < a.length
    · have hkb : k < b.length := by rw [← Hl.out]; exact hkk
      obtain ⟨b1, off1, rfl, _, hc1⟩ := hA.cell hkk
      obtain ⟨b2, off2, rfl, _, hc2⟩ := hB.cell hkb
      have hst := lexC_step hkk hkb
      rw [Hrem.out] at hst
      obtain ⟨x, hx⟩ : ∃ x, geti a k = x := ⟨_, rfl⟩
      obtain ⟨y, hy⟩ : ∃ y, geti b k = y := ⟨_, rfl⟩
      rw [hx] at hc1 hst
      rw [hy] at hc2 hst
      obtain ⟨q, hq⟩ : ∃ q, cmpI x y = q := ⟨_, rfl⟩
      rw [hq] at hst
      have hk0 : (0 : Int) ≤ (k : Int) := by omega
      have hkl : (k : Int) < (a.length : Int) := by omega
      by_cases hq0 : q = 0
      · subst hq0
        rw [if_pos rfl] at hst
        have Hst := Lib.hid (And.intro hst hq); clear hst hq hx hy
        go_wp2_with (go_at_call 232; refine (cmpCompare_any _ _ _).mono ?_; rintro e' w' ⟨rfl, rfl⟩; rw [Hst.out.2])
        go_round
        case rel => exact ⟨k + 1, by omega, by go_num, Hst.out.1.symm⟩
        case measure => simp [intOf]; omega
      · rw [if_neg hq0] at hst
        have hne : (q != 0) = true := by simp [hq0]
        have Hst := Lib.hid (And.intro hst hq); clear hst hq hx hy
        go_wp2_with (go_at_call 232; refine (cmpCompare_any _ _ _).mono ?_; rintro e' w' ⟨rfl, rfl⟩; rw [Hst.out.2])
        go_ret
        exact ⟨ret_int (by rw [Hst.out.1]), rfl⟩
    · obtain rfl : k = a.length := by omega
      have hfin : (0 : Int) = r := by
        rw [← Hrem.out, List.drop_length, Hl.out, List.drop_length]; rfl
      subst hfin
      go_wp2_with fail
      go_ret
      exact ⟨rfl, rfl⟩
set_option maxRecDepth 100000 in
theorem slReverse_any (v : Value) (l : List Int) (b : Nat) (W : World) (h : X1 W v l b) (hn : 1 ≤ l.length) (hl : l.length ≤ 1000) :
    Calls Tryz.prog 116 #[v] W fun e w' => e = .returned undef ∧ X1 w' v l.reverse b ∧ Chg (fun x => x = b) W w' := by
  have hX := h
  obtain ⟨a', c, rfl, h1, h2, h3⟩ := h
  obtain ⟨off, cs, T, rfl, h4, h5⟩ := h3 (by intro e; subst e; simp at hn)
  clear h3 h4 h5
  obtain ⟨n, hN⟩ : ∃ n, l.length = n := ⟨_, rfl⟩
  rw [hN] at hX hn hl ⊢
  have HN := Lib.hid hN; clear hN
  have hw1 : IntKind.i64.wrap ((n : Int) - 1) = (n : Int) - 1 := IntWalk.i64_in _ (by omega)
  have hblt := hX.lt (by intro e; have := HN.out; rw [e] at this; simp at this; omega)
  have HX := Lib.hid hX; clear hX
  go_enter Tryz.func116, Tryz.ntmps116
  go_wp2_with fail
  go_loopw [2, 3] (fun i j wr => ∃ k q : Nat, k + q + 1 = n ∧ 2 * k ≤ n ∧ i = .int .i64 (k : Int) ∧ j = .int .i64 (q : Int) ∧ X1 wr (.slice (some ⟨b, off, none⟩) n c) (revTo l k) b ∧ Chg (fun x => x = b) W wr) (fun i _ _ => n - (intOf i).toNat)
  case atStart => exact ⟨0, n - 1, by omega, by omega, rfl, by congr 1; omega, HX.out, Chg.refl _ _⟩
  case round =>
    obtain ⟨k, q, hkq, hk2, rfl, rfl, hXr, hch⟩ := hrel
    have hzr := hch.size
    have hrl := revTo_len l k
    rw [HN.out] at hrl
    by_cases hkk : k < q
    · have hst : revTo l (k + 1) = ((revTo l k).set k (geti (revTo l k) q)).set q (geti (revTo l k) k) := by
        show swapL (revTo l k) k (l.length - 1 - k) = _
        rw [show l.length - 1 - k = q from by rw [HN.out]; omega]; rfl
      obtain ⟨hck, hfk⟩ := hXr.get (k := k) (by omega)
      obtain ⟨hcq, hfq⟩ := hXr.get (k := q) (by omega)
      obtain ⟨x, hx⟩ : ∃ x, geti (revTo l k) k = x := ⟨_, rfl⟩
      obtain ⟨y, hy⟩ : ∃ y, geti (revTo l k) q = y := ⟨_, rfl⟩
      rw [hx] at hck hst
      rw [hy] at hcq hst
      have hX2 := (hXr.put (k := k) (by omega) y).put (k := q) (by simp; omega) x
      rw [← hst] at hX2
      have Hst := Lib.hid (And.intro hX2 (And.intro hst (And.intro hx hy))); clear hX2 hst hx hy hXr
      have hk0 : (0 : Int) ≤ (k : Int) := by omega
      have hq0 : (0 : Int) ≤ (q : Int) := by omega
      have hkn : (k : Int) < (n : Int) := by omega
      have hqn : (q : Int) < (n : Int) := by omega
      have hkq3 : (k : Int) < (q : Int) := by omega
      go_wp2_with fail
      go_region
      all_goals
        go_wp2_with fail
        go_roundw
        case rel => exact ⟨k + 1, q - 1, by omega, by omega, by go_num, by congr 1; omega, Hst.out.1.keep (fun _ => rfl), (Chg.setCell (F := fun x => x = b) (Chg.setCell (F := fun x => x = b) hch (p := ⟨b, off + k, none⟩) (.inl rfl) _) (p := ⟨b, off + q, none⟩) (.inl rfl) _).drew⟩
        case measure => simp [intOf]; omega
    · have hfin : revTo l k = l.reverse := revTo_end (by rw [HN.out]; omega) (by rw [HN.out]; omega)
      rw [hfin] at hXr
      have Hfin := Lib.hid (And.intro hXr hch); clear hXr
      go_wp2_with fail
      go_end0
      exact ⟨rfl, Hfin.out.1, Hfin.out.2⟩
end Go.Proofs.YtmfgdoflddhngaaGreat

namespace Go.Proofs.YtmfgdoflddhngaaGreat
open Go.RowKit
set_option linter.unusedVariables false
set_option linter.unusedSimpArgs false

theorem prof_code (m : Mk) (t cuts : List (List Int)) : (profAns m t cuts).2 = designC m t cuts := by
  unfold profAns
  by_cases h : designC m t cuts = 0
  · rw [if_neg (by rw [h]; decide), h]
  · rw [if_pos h]
theorem prof_len {m : Mk} {t cuts : List (List Int)} (h : designC m t cuts = 0) : (profAns m t cuts).1.length = (getl t 0).length := by
  unfold profAns
  rw [if_neg (by rw [h]; decide)]
  exact cntL_len _ _ _ _
def cmpAns (m : Mk) (t a b : List (List Int)) : Int × Int :=
  if designC m t a ≠ 0 then (0, designC m t a) else if designC m t b ≠ 0 then (0, designC m t b) else (cmpTop (profAns m t a).1 (profAns m t b).1 (getl t 0).length, 0)
set_option maxRecDepth 100000 in
set_option maxHeartbeats 1000000 in
theorem CompareDesigns_any {S S' S2 : Nat → Prop} (m : Mk) (u va vb : Value) (t la lb : List (List Int)) (W : World) (h : V2 S W u t) (ha : V2 S' W va la) (hb : V2 S2 W vb lb) :
    Calls Tryz.prog 22 #[.agg #[.int .i64 m.c, .int .i64 m.d, .int .i64 m.s, .int .i64 m.e, .int .i64 m.l, u], va, vb] W fun e' w' => e' = .returned (.tuple #[.int .i64 (cmpAns m t la lb).1, .int .i64 (cmpAns m t la lb).2]) ∧ Below W.heap.size W w' := by
  obtain ⟨a, c, rfl, hmx⟩ := h.form
  obtain ⟨aa, ca, rfl, hmxa⟩ := ha.form
  obtain ⟨ab, cb, rfl, hmxb⟩ := hb.form
  obtain ⟨W1, hW1, hB01, hz01, HZ01, hc01, hh01⟩ := box_facts W #[.int .i64 m.c, .int .i64 m.d, .int .i64 m.s, .int .i64 m.e, .int .i64 m.l, .slice a t.length c] 28
  have hV1 := (h.below hB01).any
  have hA1 := (ha.below hB01).any
  have hB1 := (hb.below hB01).any
  have hp1 := ProfileOf_any m _ _ t la W1 hV1 hA1
  rw [prof_code] at hp1
  by_cases hpa : designC m t la = 0
  · have hp2 := fun w (hbw : Below W1.heap.size W1 w) => ProfileOf_any m _ _ t lb w (hV1.below hbw) (hB1.below hbw)
    have hd := (design_fits hpa).1.doors
    have hXl := prof_len hpa
    simp only [prof_code] at hp2
    obtain ⟨X, hX⟩ : ∃ X, (profAns m t la).1 = X := ⟨_, rfl⟩
    obtain ⟨Y, hY⟩ : ∃ Y, (profAns m t lb).1 = Y := ⟨_, rfl⟩
    rw [hX] at hp1 hXl
    simp only [hY] at hp2
    rw [hpa] at hp1
    by_cases hpb : designC m t lb = 0
    · have hYl := prof_len hpb
      rw [hY] at hYl
      simp only [hpb] at hp2
      have hlex := lex_rev (x := X) (y := Y) (by omega)
      have hfin : cmpAns m t la lb = (lexC X.reverse Y.reverse, 0) := by
        unfold cmpAns; rw [if_neg (by rw [hpa]; decide), if_neg (by rw [hpb]; decide), hX, hY, hlex, hXl]
      rw [hfin]
      have H := Lib.hid (And.intro hp1 (And.intro hp2 (And.intro hlex (And.intro hX (And.intro hY (And.intro hpa (And.intro hpb hfin))))))); clear hp1 hp2 hlex hX hY hpa hpb hfin
      have hX1 : 1 ≤ X.length ∧ X.length ≤ 1000 := by omega
      have hY1 : 1 ≤ Y.length ∧ Y.length ≤ 1000 := by omega
      have hXY : X.length = Y.length := by omega
      have Hl := Lib.hid (And.intro hXl (And.intro hYl hXY)); clear hXl hYl hXY hd
      go_enter Tryz.func22, Tryz.ntmps22
      go_wp2_with fail
      rw [← hW1]
      refine H.out.1.mono ?_
      rintro e' w2 ⟨vx, rfl, ⟨bx, hx1, hbx⟩, hb2⟩
      obtain ⟨ax, cx, rfl, hcx, hcxm, _⟩ := id hx1
      have hz2 := hb2.size
      have hx2 : ∀ o, w2.cell? ⟨W.heap.size, o, none⟩ = (#[.int .i64 m.c, .int .i64 m.d, .int .i64 m.s, .int .i64 m.e, .int .i64 m.l, .slice a t.length c] : Array Value)[o]? := fun o => by rw [(bcell hb2).1 _ _ hz01, hc01]
      have Hc01 := Lib.hid hc01; clear hc01 hh01
      have hXne : X ≠ [] := by intro e; rw [e] at hX1; simp at hX1
      have hYne : Y ≠ [] := by intro e; rw [e] at hY1; simp at hY1
      go_wp2_with fail
      refine (H.out.2.1 _ hb2).mono ?_
      rintro e' w3 ⟨vy, rfl, ⟨by', hy1, hby⟩, hb3⟩
      obtain ⟨ay, cy, rfl, hcy, hcym, _⟩ := id hy1
      clear hx2
      have hxlt := hx1.lt hXne
      have hbxW := hbx hXne
      have hbyW := hby hYne
      have hylt := hy1.lt hYne
      have hx3 := hx1.keep (fun _ => hb3.block _ hxlt)
      have hb13 := hb2.trans (hb3.mono hz2)
      have Hx := Lib.hid (And.intro hx3 hy1); clear hx3 hy1 hx1
      go_wp2_with fail
      refine (slReverse_any _ X bx w3 Hx.out.1 hX1.1 hX1.2).mono ?_
      rintro e' w4 ⟨rfl, hx4, hc4⟩
      have hy4 := Hx.out.2.keep (fun _ => hc4.block _ hylt (by omega))
      have hzc4 := hc4.size
      have Hx4 := Lib.hid (And.intro hx4 hy4); clear hx4 hy4
      go_wp2_with fail
      refine (slReverse_any _ Y by' w4 Hx4.out.2 hY1.1 hY1.2).mono ?_
      rintro e' w5 ⟨rfl, hy5, hc5⟩
      have hx5 := Hx4.out.1.keep (fun _ => hc5.block _ (by omega) (by omega))
      have Hx5 := Lib.hid (And.intro hx5 hy5); clear hx5 hy5
      go_wp2_with fail
      refine (slCompare_any (S := fun _ => True) (S' := fun _ => True) _ _ X.reverse Y.reverse w5 (Hx5.out.1.v1 (fun _ => trivial)) (Hx5.out.2.v1 (fun _ => trivial)) (by rw [List.length_reverse, List.length_reverse]; exact Hl.out.2.2)).mono ?_
      rintro e' w6 ⟨rfl, rfl⟩
      go_wp2_with fail
      go_ret2
      exact ⟨rfl, hB01.trans ((hb13.trans (((hc4.then_below (Below.refl _ _)).to_below (fun i hi => by omega) hb13.size).trans (hc5.to_below (B := W1.heap.size) (fun i hi => by omega) (by omega)))).mono (by omega))⟩
    · have hfin : cmpAns m t la lb = (0, designC m t lb) := by
        unfold cmpAns; rw [if_neg (by rw [hpa]; decide), if_pos hpb]
      have e1 : (designC m t lb != 0) = true := by simp [hpb]
      rw [hfin]
      have H := Lib.hid (And.intro hpa (And.intro hpb (And.intro hfin (And.intro hX (And.intro hY hXl))))); clear hpa hpb hfin hX hY hXl hd
      generalize designC m t lb = pc at *
      have H2 := Lib.hid (And.intro hp1 hp2); clear hp1 hp2
      go_enter Tryz.func22, Tryz.ntmps22
      go_wp2_with fail
      rw [← hW1]
      refine H2.out.1.mono ?_
      rintro e' w2 ⟨vx, rfl, hF, hb2⟩
      obtain ⟨ax, cx, rfl, _⟩ := hF.v1.form
      have hx2 : ∀ o, w2.cell? ⟨W.heap.size, o, none⟩ = (#[.int .i64 m.c, .int .i64 m.d, .int .i64 m.s, .int .i64 m.e, .int .i64 m.l, .slice a t.length c] : Array Value)[o]? := fun o => by rw [(bcell hb2).1 _ _ hz01, hc01]
      have Hc01 := Lib.hid hc01; clear hc01 hh01 hF
      go_wp2_with fail
      refine (H2.out.2 _ hb2).mono ?_
      rintro e' w3 ⟨vy, rfl, hF3, hb3⟩
      obtain ⟨ay, cy, rfl, _⟩ := hF3.v1.form
      clear hx2 hF3
      go_wp2_with fail
      go_ret2
      exact ⟨rfl, hB01.trans ((hb2.trans (hb3.mono hb2.size)).mono (by omega))⟩
  · have hfin : cmpAns m t la lb = (0, designC m t la) := by
      unfold cmpAns; rw [if_pos hpa]
    have e1 : (designC m t la != 0) = true := by simp [hpa]
    rw [hfin]
    have H := Lib.hid (And.intro hpa hfin); clear hpa hfin
    generalize designC m t la = pc at *
    have H2 := Lib.hid hp1; clear hp1
    go_enter Tryz.func22, Tryz.ntmps22
    go_wp2_with fail
    rw [← hW1]
    refine H2.out.mono ?_
    rintro e' w2 ⟨vx, rfl, hF, hb2⟩
    obtain ⟨ax, cx, rfl, _⟩ := hF.v1.form
    clear hc01 hh01 hF
    go_wp2_with fail
    go_ret2
    exact ⟨rfl, hB01.trans (hb2.mono (by omega))⟩
set_option maxRecDepth 100000 in
set_option maxHeartbeats 2000000 in
theorem CompareDesignsR_any {S S' S2 : Nat → Prop} (m : Mk) (u va vb : Value) (t la lb : List (List Int)) (W : World) (h : V2 S W u t) (ha : V2 S' W va la) (hb : V2 S2 W vb lb) :
    Calls Tryz.prog 23 #[.agg #[.int .i64 m.c, .int .i64 m.d, .int .i64 m.s, .int .i64 m.e, .int .i64 m.l, u], va, vb] W fun e' w' => e' = .returned (.tuple #[.int .i64 (cmpAns m t la lb).1, .int .i64 (cmpAns m t la lb).2]) ∧ Below W.heap.size W w' := by
  obtain ⟨a, c, rfl, hmx⟩ := h.form
  obtain ⟨aa, ca, rfl, hmxa⟩ := ha.form
  obtain ⟨ab, cb, rfl, hmxb⟩ := hb.form
  obtain ⟨W1, hW1, hB01, hz01, HZ01, hc01, hh01⟩ := box_facts W #[.int .i64 m.c, .int .i64 m.d, .int .i64 m.s, .int .i64 m.e, .int .i64 m.l, .slice a t.length c] 28
  have hV1 := (h.below hB01).any
  have hA1 := (ha.below hB01).any
  have hBB1 := (hb.below hB01).any
  have hp1 := l21Code_any m _ _ t la W1 hV1 hA1
  have hp2 := fun w (hbw : Below W1.heap.size W1 w) => l21Code_any m _ _ t lb w (hV1.below hbw) (hBB1.below hbw)
  by_cases hpa : designC m t la = 0
  · rw [hpa] at hp1
    by_cases hpb : designC m t lb = 0
    · simp only [hpb] at hp2
      have hfa := (design_fits hpa).1
      have hfb := (design_fits hpb).1
      have hmc := mc_nat hfa.ok
      have hXl := prof_len hpa
      have hYl := prof_len hpb
      have hpX := fun w (hbw : Below W1.heap.size W1 w) => l22Profile_any m _ _ t la m.c.toNat w hfa hmc (hV1.below hbw) (hA1.below hbw)
      have hpY := fun w (hbw : Below W1.heap.size W1 w) => l22Profile_any m _ _ t lb m.c.toNat w hfb hmc (hV1.below hbw) (hBB1.below hbw)
      have hXe : cntL (locksTo m.c.toNat t la (getl t 0).length) (outsOf la (keysOf m)) 1 (getl t 0).length = (profAns m t la).1 := by unfold profAns; rw [if_neg (by rw [hpa]; decide)]
      have hYe : cntL (locksTo m.c.toNat t lb (getl t 0).length) (outsOf lb (keysOf m)) 1 (getl t 0).length = (profAns m t lb).1 := by unfold profAns; rw [if_neg (by rw [hpb]; decide)]
      simp only [hXe] at hpX
      simp only [hYe] at hpY
      have hfin : cmpAns m t la lb = (cmpTop (profAns m t la).1 (profAns m t lb).1 (getl t 0).length, 0) := by
        unfold cmpAns; rw [if_neg (by rw [hpa]; decide), if_neg (by rw [hpb]; decide)]
      rw [hfin]
      obtain ⟨X, hX⟩ : ∃ X, (profAns m t la).1 = X := ⟨_, rfl⟩
      obtain ⟨Y, hY⟩ : ∃ Y, (profAns m t lb).1 = Y := ⟨_, rfl⟩
      have hdoors := hfa.doors
      obtain ⟨D, hD⟩ : ∃ D, (getl t 0).length = D := ⟨_, rfl⟩
      simp only [hX, hD] at hpX hXl
      simp only [hY, hD] at hpY hYl
      rw [hX, hY, hD]
      rw [hD] at hdoors
      obtain ⟨r, hr⟩ : ∃ r, cmpTop X Y D = r := ⟨_, rfl⟩
      rw [hr]
      have Hr := Lib.hid hr
      have HL := Lib.hid (And.intro hXl hYl)
      have H := Lib.hid (And.intro hp1 (And.intro hp2 (And.intro hpX hpY))); clear hp1 hp2 hpX hpY hX hY hD hpa hpb hfin hr hXl hYl hXe hYe hfa hfb
      go_enter Tryz.func23, Tryz.ntmps23
      go_wp2_with fail
      rw [← hW1]
      refine H.out.1.mono ?_
      rintro e' w2 ⟨rfl, hb2⟩
      have hz2 := hb2.size
      have hx2 : ∀ o, w2.cell? ⟨W.heap.size, o, none⟩ = (#[.int .i64 m.c, .int .i64 m.d, .int .i64 m.s, .int .i64 m.e, .int .i64 m.l, .slice a t.length c] : Array Value)[o]? := fun o => by rw [(bcell hb2).1 _ _ hz01, hc01]
      have Hc01 := Lib.hid hc01; clear hc01 hh01
      go_wp2_with fail
      refine (H.out.2.1 _ hb2).mono ?_
      rintro e' w3 ⟨rfl, hb3⟩
      have hb23 := hb2.trans (hb3.mono hz2)
      have hzw : W.heap.size < w3.heap.size := by have := hb23.size; omega
      have hx3 : ∀ o, w3.cell? ⟨W.heap.size, o, none⟩ = (#[.int .i64 m.c, .int .i64 m.d, .int .i64 m.s, .int .i64 m.e, .int .i64 m.l, .slice a t.length c] : Array Value)[o]? := fun o => by rw [(bcell hb23).1 _ _ hz01, Hc01.out]
      clear hx2
      go_wp2_with fail
      go_region_held3 (fun w' => (∀ o, w'.cell? ⟨W.heap.size, o, none⟩ = (#[.int .i64 m.c, .int .i64 m.d, .int .i64 m.s, .int .i64 m.e, .int .i64 m.l, .slice a t.length c] : Array Value)[o]?) ∧ Below w3.heap.size w3 w') (first | exact one_keep hzw (by assumption) (by assumption) | exact ⟨hx3, (Below.refl _ _).drew⟩) (first | (go_at_call 119; with_reducible refine (H.out.2.2.1 _ (hb23.trans ((one_below (by assumption)).mono hb23.size))).mono ?_; rintro e' wA ⟨GA, rfl, hblkA, hbA⟩) | (go_at_call 119; with_reducible refine (H.out.2.2.2 _ (hb23.trans ((one_below (by assumption)).mono hb23.size))).mono ?_; rintro e' wB ⟨GB, rfl, hblkB, hbB⟩))
      all_goals have hbE := one_below (w0 := w3) (by assumption)
      · have hA2 := hblkA.keep (hbB.block _ hblkA.lt)
        have hB2 := hblkB
        have hcA := fun k (hk : k < X.length) => hA2.cell (k := k) hk
        have hcB := fun k (hk : k < Y.length) => hB2.cell (k := k) hk
        have hzz := hbE.size
        have HA := Lib.hid (And.intro hA2 hB2); clear hA2 hB2
        go_wp2_with fail
        go_loopw [11] (fun i wr => ∃ k : Nat, k ≤ D ∧ i = .int .i64 ((k : Int) - 1) ∧ cmpTop X Y k = r ∧ Below wB.heap.size wB wr) (fun i _ => (intOf i + 1).toNat)
        case atStart => exact ⟨D, Nat.le_refl _, rfl, Hr.out, Below.refl _ _⟩
        case round =>
          obtain ⟨k, hk, rfl, hrem, hB⟩ := hrel
          have Hrem := Lib.hid hrem; clear hrem
          have hzr := hB.size
          cases k with
          | zero =>
            have hr0 : (0 : Int) = r := Hrem.out
            subst hr0
            go_wp2_with fail
            go_ret2
            exact ⟨rfl, hB01.trans ((hb23.trans ((hbE.trans (hB.mono hzz)).mono hb23.size)).mono (by omega))⟩
          | succ k =>
            have hkD : k < D := by omega
            have hst : cmpTop X Y (k + 1) = if cmpI (geti X k) (geti Y k) = 0 then cmpTop X Y k else cmpI (geti X k) (geti Y k) := rfl
            rw [Hrem.out] at hst
            have hcx := cell_keep (hcA k (by rw [HL.out.1]; exact hkD)) (hB.block _ (by have := HA.out.1.lt; exact this))
            have hcy := cell_keep (hcB k (by rw [HL.out.2]; exact hkD)) (hB.block _ (by have := HA.out.2.lt; exact this))
            obtain ⟨x, hx⟩ : ∃ x, geti X k = x := ⟨_, rfl⟩
            obtain ⟨y, hy⟩ : ∃ y, geti Y k = y := ⟨_, rfl⟩
            rw [hx] at hcx hst
            rw [hy] at hcy hst
            rw [show (((k + 1 : Nat) : Int) - 1) = (k : Int) from by omega]
            have hk0 : (0 : Int) ≤ (k : Int) := by omega
            have hkl : (k : Int) < (D : Int) := by omega
            unfold cmpI at hst
            by_cases h1 : x < y
            · rw [if_pos h1] at hst
              rw [if_neg (by decide)] at hst
              subst hst
              clear hx hy
              go_wp2_with fail
              go_region
              all_goals
                go_wp2_with fail
                go_ret2
                exact ⟨rfl, hB01.trans ((hb23.trans ((hbE.trans ((hB.trans ((Below.refl _ _).drew.mono hzr)).mono hzz)).mono hb23.size)).mono (by omega))⟩
            · by_cases h2 : y < x
              · rw [if_neg h1, if_pos h2] at hst
                rw [if_neg (by decide)] at hst
                subst hst
                clear hx hy
                go_wp2_with fail
                go_region
                all_goals
                  go_wp2_with fail
                  go_region
                all_goals
                  go_wp2_with fail
                  go_ret2
                  exact ⟨rfl, hB01.trans ((hb23.trans ((hbE.trans ((hB.trans (((Below.refl _ _).drew.drew).mono hzr)).mono hzz)).mono hb23.size)).mono (by omega))⟩
              · rw [if_neg h1, if_neg h2, if_pos rfl] at hst
                have Hst := Lib.hid hst; clear hst hx hy
                go_wp2_with fail
                go_region
                all_goals
                  go_wp2_with fail
                  go_region
                all_goals
                  go_wp2_with fail
                  go_roundw
                  case rel => exact ⟨k, by omega, by go_num, Hst.out.symm, hB.trans (((Below.refl _ _).drew.drew).mono hzr)⟩
                  case measure => simp [intOf]
    · have hfin : cmpAns m t la lb = (0, designC m t lb) := by
        unfold cmpAns; rw [if_neg (by rw [hpa]; decide), if_pos hpb]
      have e1 : (designC m t lb != 0) = true := by simp [hpb]
      rw [hfin]
      have H := Lib.hid (And.intro hpa (And.intro hpb hfin)); clear hpa hpb hfin
      generalize designC m t lb = pc at *
      have H2 := Lib.hid (And.intro hp1 hp2); clear hp1 hp2
      go_enter Tryz.func23, Tryz.ntmps23
      go_wp2_with fail
      rw [← hW1]
      refine H2.out.1.mono ?_
      rintro e' w2 ⟨rfl, hb2⟩
      have hx2 : ∀ o, w2.cell? ⟨W.heap.size, o, none⟩ = (#[.int .i64 m.c, .int .i64 m.d, .int .i64 m.s, .int .i64 m.e, .int .i64 m.l, .slice a t.length c] : Array Value)[o]? := fun o => by rw [(bcell hb2).1 _ _ hz01, hc01]
      have Hc01 := Lib.hid hc01; clear hc01 hh01
      go_wp2_with fail
      refine (H2.out.2 _ hb2).mono ?_
      rintro e' w3 ⟨rfl, hb3⟩
      clear hx2
      go_wp2_with fail
      go_ret2
      exact ⟨rfl, hB01.trans ((hb2.trans (hb3.mono hb2.size)).mono (by omega))⟩
  · have hfin : cmpAns m t la lb = (0, designC m t la) := by
      unfold cmpAns; rw [if_pos hpa]
    have e1 : (designC m t la != 0) = true := by simp [hpa]
    have e0 : (designC m t la == 0) = false := by simp [hpa]
    rw [hfin]
    have H := Lib.hid (And.intro hpa hfin); clear hpa hfin
    generalize designC m t la = pc at *
    have H2 := Lib.hid hp1; clear hp1
    go_enter Tryz.func23, Tryz.ntmps23
    go_wp2_with fail
    rw [← hW1]
    refine H2.out.mono ?_
    rintro e' w2 ⟨rfl, hb2⟩
    clear hc01 hh01
    go_wp2_with fail
    go_ret2
    exact ⟨rfl, hB01.trans (hb2.mono (by omega))⟩
end Go.Proofs.YtmfgdoflddhngaaGreat

namespace Go.Proofs.YtmfgdoflddhngaaGreat
open Go.RowKit
set_option linter.unusedVariables false
set_option linter.unusedSimpArgs false

def calmAns (m : Mk) (t cuts : List (List Int)) (s : Int) : Bool × Int :=
  if designC m t cuts ≠ 0 then (false, designC m t cuts) else if inB s 0 (getl t 0).length = false then (false, 2) else (decide ((worstAns m t cuts).1 ≤ s), 0)
theorem worst_code (m : Mk) (t cuts : List (List Int)) : (worstAns m t cuts).2 = designC m t cuts := by
  unfold worstAns profAns
  split
  · rfl
  · rename_i h; exact (Classical.not_not.1 h).symm
set_option maxRecDepth 100000 in
theorem IsCalm_any {S S' : Nat → Prop} (m : Mk) (u v : Value) (t cuts : List (List Int)) (s : Int) (W : World) (h : V2 S W u t) (hc : V2 S' W v cuts) :
    Calls Tryz.prog 25 #[.agg #[.int .i64 m.c, .int .i64 m.d, .int .i64 m.s, .int .i64 m.e, .int .i64 m.l, u], v, .int .i64 s] W fun e' w' => e' = .returned (.tuple #[.bool (calmAns m t cuts s).1, .int .i64 (calmAns m t cuts s).2]) ∧ Below W.heap.size W w' := by
  obtain ⟨a, c, rfl, hmx⟩ := h.form
  obtain ⟨a', c', rfl, hmx'⟩ := hc.form
  obtain ⟨W1, hW1, hB01, hz01, HZ01, hc01, hh01⟩ := box_facts W #[.int .i64 m.c, .int .i64 m.d, .int .i64 m.s, .int .i64 m.e, .int .i64 m.l, .slice a t.length c] 28
  have hV1 := (h.below hB01).any
  have hC1 := (hc.below hB01).any
  have hpr := WorstSeverity_any m _ _ t cuts W1 hV1 hC1
  rw [worst_code] at hpr
  by_cases hp : designC m t cuts = 0
  · have hf := (design_fits hp).1
    have hrows := hf.rows
    have hdoors := hf.doors
    obtain ⟨b0, off0, a0, c0, rfl, _, hcc0, hr0⟩ := hV1.cell (k := 0) (by omega)
    simp only [Nat.add_zero] at hcc0
    obtain ⟨D, hD⟩ : ∃ D, (getl t 0).length = D := ⟨_, rfl⟩
    obtain ⟨z, hz⟩ : ∃ x, (worstAns m t cuts).1 = x := ⟨_, rfl⟩
    rw [hp, hz] at hpr
    rw [hD] at hcc0 hdoors
    have h0t : (0 : Int) < (t.length : Int) := by omega
    obtain ⟨i, hi⟩ : ∃ i, inB s 0 D = i := ⟨_, rfl⟩
    have hfin : calmAns m t cuts s = if i = false then (false, 2) else (decide (z ≤ s), 0) := by unfold calmAns; rw [if_neg (by rw [hp]; decide), hD, hi, hz]
    rw [hfin]
    have Hpr := Lib.hid hpr; clear hpr
    have Hp := Lib.hid (And.intro hp (And.intro hf (And.intro hD (And.intro hz hfin)))); clear hp hf hD hz hfin
    have Hi := Lib.hid hi; clear hi
    have Hr0 := Lib.hid hr0; clear hr0
    cases i
    · rw [if_pos rfl]
      go_enter Tryz.func25, Tryz.ntmps25
      go_wp2_with fail
      rw [← hW1]
      refine Hpr.out.mono ?_
      rintro e' w2 ⟨rfl, hb2⟩
      have hx2 : ∀ o, w2.cell? ⟨W.heap.size, o, none⟩ = (#[.int .i64 m.c, .int .i64 m.d, .int .i64 m.s, .int .i64 m.e, .int .i64 m.l, .slice (some ⟨b0, off0, none⟩) t.length c] : Array Value)[o]? := fun o => by rw [(bcell hb2).1 _ _ hz01, hc01]
      have hz2 : W.heap.size < w2.heap.size := by have := hb2.size; omega
      have hcc2 := cell_keep hcc0 (hb2.block _ (lt_of_cell hcc0))
      clear hc01 hh01
      go_wp2_with (go_at_call 120; refine (within_b _ _ _ _ _ Hi.out).mono ?_; rintro e' w' ⟨rfl, rfl⟩)
      go_ret2
      exact ⟨rfl, hB01.trans (hb2.mono (by omega))⟩
    · rw [if_neg (by decide)]
      go_enter Tryz.func25, Tryz.ntmps25
      go_wp2_with fail
      rw [← hW1]
      refine Hpr.out.mono ?_
      rintro e' w2 ⟨rfl, hb2⟩
      have hx2 : ∀ o, w2.cell? ⟨W.heap.size, o, none⟩ = (#[.int .i64 m.c, .int .i64 m.d, .int .i64 m.s, .int .i64 m.e, .int .i64 m.l, .slice (some ⟨b0, off0, none⟩) t.length c] : Array Value)[o]? := fun o => by rw [(bcell hb2).1 _ _ hz01, hc01]
      have hz2 : W.heap.size < w2.heap.size := by have := hb2.size; omega
      have hcc2 := cell_keep hcc0 (hb2.block _ (lt_of_cell hcc0))
      clear hc01 hh01
      go_wp2_with (go_at_call 120; refine (within_b _ _ _ _ _ Hi.out).mono ?_; rintro e' w' ⟨rfl, rfl⟩)
      go_ret2
      exact ⟨rfl, hB01.trans (hb2.mono (by omega))⟩
  · have hfin : calmAns m t cuts s = (false, designC m t cuts) := by unfold calmAns; rw [if_pos hp]
    have e1 : (designC m t cuts != 0) = true := by simp [hp]
    rw [hfin]
    have Hp := Lib.hid (And.intro hp hfin); clear hp hfin
    generalize designC m t cuts = pc at *
    go_enter Tryz.func25, Tryz.ntmps25
    go_wp2_with fail
    rw [← hW1]
    refine hpr.mono ?_
    rintro e' w2 ⟨rfl, hb2⟩
    clear hc01 hh01
    go_wp2_with fail
    go_ret2
    exact ⟨rfl, hB01.trans (hb2.mono (by omega))⟩
set_option maxRecDepth 100000 in
theorem IsCalmR_any {S S' : Nat → Prop} (m : Mk) (u v : Value) (t cuts : List (List Int)) (s : Int) (W : World) (h : V2 S W u t) (hc : V2 S' W v cuts) :
    Calls Tryz.prog 26 #[.agg #[.int .i64 m.c, .int .i64 m.d, .int .i64 m.s, .int .i64 m.e, .int .i64 m.l, u], v, .int .i64 s] W fun e' w' => e' = .returned (.tuple #[.bool (calmAns m t cuts s).1, .int .i64 (calmAns m t cuts s).2]) ∧ Below W.heap.size W w' := by
  obtain ⟨a, c, rfl, hmx⟩ := h.form
  obtain ⟨a', c', rfl, hmx'⟩ := hc.form
  obtain ⟨W1, hW1, hB01, hz01, HZ01, hc01, hh01⟩ := box_facts W #[.int .i64 m.c, .int .i64 m.d, .int .i64 m.s, .int .i64 m.e, .int .i64 m.l, .slice a t.length c] 28
  have hV1 := (h.below hB01).any
  have hC1 := (hc.below hB01).any
  have hcode := l21Code_any m _ _ t cuts W1 hV1 hC1
  by_cases hp : designC m t cuts = 0
  · rw [hp] at hcode
    have hf := (design_fits hp).1
    have hmc := mc_nat hf.ok
    have hdoors := hf.doors
    have hkl := keysOf_length hf.ok
    have hol := outsOf_length cuts (keysOf m)
    obtain ⟨locks, hlocks⟩ : ∃ x, x = locksTo m.c.toNat t cuts (getl t 0).length := ⟨_, rfl⟩
    obtain ⟨D, hD⟩ : ∃ D, (getl t 0).length = D := ⟨_, rfl⟩
    have hll : locks.length = D := by rw [hlocks, locksTo_len, hD]
    have hrows := hf.rows
    obtain ⟨b0, off0, a0, c0, rfl, _, hcc0, hr0⟩ := hV1.cell (k := 0) (by omega)
    simp only [Nat.add_zero] at hcc0
    have h0t : (0 : Int) < (t.length : Int) := by omega
    obtain ⟨i, hi⟩ : ∃ i, inB s 0 D = i := ⟨_, rfl⟩
    obtain ⟨z, hz⟩ : ∃ x, worst (cntL locks (outsOf cuts (keysOf m)) 1 D) D = x := ⟨_, rfl⟩
    have hwz : (worstAns m t cuts).1 = z := by unfold worstAns profAns; rw [if_neg (by rw [hp]; decide), ← hlocks, hD]; show worst _ _ = _; rw [cntL_len]; exact hz
    have hfin : calmAns m t cuts s = if i = false then (false, 2) else (decide (z ≤ s), 0) := by unfold calmAns; rw [if_neg (by rw [hp]; decide), hD, hi, hwz]
    have hpr := l22Profile_any (S := fun _ => True) (S' := fun _ => True) m (.slice (some ⟨b0, off0, none⟩) t.length c) (.slice a' cuts.length c') t cuts m.c.toNat
    rw [← hlocks, hD] at hpr
    rw [hfin]
    rw [hD] at hdoors hcc0
    have Hf := Lib.hid (And.intro hf (And.intro hmc (And.intro hpr hr0))); clear hf hmc hpr hol hkl hr0
    have Hp := Lib.hid (And.intro hp (And.intro hfin (And.intro hlocks (And.intro hD (And.intro hll (And.intro hz hwz)))))); clear hp hfin hlocks hD hll hz hwz
    have Hi := Lib.hid hi; clear hi
    have Hcode := Lib.hid hcode; clear hcode
    cases i
    · rw [if_pos rfl]
      go_enter Tryz.func26, Tryz.ntmps26
      go_wp2_with fail
      rw [← hW1]
      refine Hcode.out.mono ?_
      rintro e' w2 ⟨rfl, hb2⟩
      have hx2 : ∀ o, w2.cell? ⟨W.heap.size, o, none⟩ = (#[.int .i64 m.c, .int .i64 m.d, .int .i64 m.s, .int .i64 m.e, .int .i64 m.l, .slice (some ⟨b0, off0, none⟩) t.length c] : Array Value)[o]? := fun o => by rw [(bcell hb2).1 _ _ hz01, hc01]
      have hz2 : W.heap.size < w2.heap.size := by have := hb2.size; omega
      have hcc2 := cell_keep hcc0 (hb2.block _ (lt_of_cell hcc0))
      clear hc01 hh01
      go_wp2_with (go_at_call 121; refine (l01In_b _ _ _ _ _ Hi.out).mono ?_; rintro e' w' ⟨rfl, rfl⟩)
      go_ret2
      exact ⟨rfl, hB01.trans (hb2.mono (by omega))⟩
    · rw [if_neg (by decide)]
      go_enter Tryz.func26, Tryz.ntmps26
      go_wp2_with fail
      rw [← hW1]
      refine Hcode.out.mono ?_
      rintro e' w2 ⟨rfl, hb2⟩
      have hx2 : ∀ o, w2.cell? ⟨W.heap.size, o, none⟩ = (#[.int .i64 m.c, .int .i64 m.d, .int .i64 m.s, .int .i64 m.e, .int .i64 m.l, .slice (some ⟨b0, off0, none⟩) t.length c] : Array Value)[o]? := fun o => by rw [(bcell hb2).1 _ _ hz01, hc01]
      have hz2 : W.heap.size < w2.heap.size := by have := hb2.size; omega
      have hcc2 := cell_keep hcc0 (hb2.block _ (lt_of_cell hcc0))
      clear hc01 hh01
      go_wp2_with (go_at_call 121; refine (l01In_b _ _ _ _ _ Hi.out).mono ?_; rintro e' w' ⟨rfl, rfl⟩)
      refine (Hf.out.2.2.1 _ Hf.out.1 Hf.out.2.1 (hV1.below hb2) (hC1.below hb2)).mono ?_
      rintro e' w3 ⟨G, rfl, hblk, hb3⟩
      have hx := hblk.x1 (off := 0) (by omega) (by rw [cntL_len]; omega)
      rw [List.drop_zero, cntL_len] at hx
      have Hx := Lib.hid (hx.v1 (S := fun _ => True) (fun _ => trivial)); clear hx hblk hx2
      go_wp2_with fail
      refine (l22Worst_any _ (cntL locks (outsOf cuts (keysOf m)) 1 D) _ z (by rw [cntL_len]; exact Hp.out.2.2.2.2.2.1) Hx.out (by rw [cntL_len]; omega)).mono ?_
      rintro e' w4 ⟨rfl, rfl⟩
      go_wp2_with fail
      go_ret2
      exact ⟨rfl, hB01.trans ((hb2.trans (hb3.mono hb2.size)).mono (by omega))⟩
  · have hfin : calmAns m t cuts s = (false, designC m t cuts) := by unfold calmAns; rw [if_pos hp]; (try rfl)
    have e1 : (designC m t cuts != 0) = true := by simp [hp]
    have e0 : (designC m t cuts == 0) = false := by simp [hp]
    rw [hfin]
    have Hp := Lib.hid (And.intro hp hfin); clear hp hfin
    generalize designC m t cuts = pc at *
    go_enter Tryz.func26, Tryz.ntmps26
    go_wp2_with fail
    rw [← hW1]
    refine hcode.mono ?_
    rintro e' w2 ⟨rfl, hb2⟩
    clear hc01 hh01
    go_wp2_with fail
    go_ret2
    exact ⟨rfl, hB01.trans (hb2.mono (by omega))⟩
end Go.Proofs.YtmfgdoflddhngaaGreat

namespace Go.Proofs.YtmfgdoflddhngaaGreat
open Go.RowKit
set_option linter.unusedVariables false
set_option linter.unusedSimpArgs false

theorem cmpI_neg (x y : Int) : cmpI y x = -cmpI x y := by unfold cmpI; split <;> split <;> omega
theorem cmpI_self (x : Int) : cmpI x x = 0 := by unfold cmpI; simp
theorem cmpTop_neg (x y : List Int) : ∀ k, cmpTop y x k = -cmpTop x y k
  | 0 => rfl
  | k + 1 => by
    unfold cmpTop
    rw [cmpI_neg (geti x k) (geti y k), cmpTop_neg x y k]
    by_cases h : cmpI (geti x k) (geti y k) = 0
    · rw [if_pos h, if_pos (by omega)]
    · rw [if_neg h, if_neg (by omega)]
theorem cmpTop_self (x : List Int) : ∀ k, cmpTop x x k = 0
  | 0 => rfl
  | k + 1 => by unfold cmpTop; rw [cmpI_self, if_pos rfl, cmpTop_self x k]
/-- The laws. -/
theorem cmp_law {m : Mk} {t a b : List (List Int)} (h : (cmpAns m t a b).2 = 0) : cmpAns m t b a = (-(cmpAns m t a b).1, 0) ∧ cmpAns m t a a = (0, 0) := by
  unfold cmpAns at h ⊢
  by_cases ha : designC m t a = 0
  · by_cases hb : designC m t b = 0
    · simp only [ha, hb, ne_eq, not_true_eq_false, if_false]
      exact ⟨by rw [cmpTop_neg], by rw [cmpTop_self]⟩
    · exfalso
      rw [if_neg (by rw [ha]; decide), if_pos hb] at h
      exact hb h
  · exfalso
    rw [if_pos ha] at h
    exact ha h
theorem calm_law {m : Mk} {t cuts : List (List Int)} {s : Int} (h : (calmAns m t cuts s).2 = 0) : (worstAns m t cuts).2 = 0 ∧ (calmAns m t cuts s).1 = decide ((worstAns m t cuts).1 ≤ s) := by
  rw [worst_code]
  unfold calmAns at h ⊢
  by_cases hp : designC m t cuts = 0
  · rw [if_neg (by rw [hp]; decide)] at h ⊢
    cases hi : inB s 0 (getl t 0).length
    · rw [if_pos hi] at h; cases h
    · rw [if_neg (by simp)]
      exact ⟨hp, rfl⟩
  · exfalso
    rw [if_pos hp] at h
    exact hp h
end Go.Proofs.YtmfgdoflddhngaaGreat
