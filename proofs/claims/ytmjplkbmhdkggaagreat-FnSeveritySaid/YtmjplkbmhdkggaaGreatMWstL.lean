/- Several rows put behind a list of lists at once. No program here. No conditions. -/
import Derived.RangeFuncNested
import Derived.RangeFuncBound
import Derived.RangeFuncCalls
import Derived.RangeFuncLeaves
import Derived.Shelf.Abstract
import Derived.Shelf.RegionOpen
import Derived.WalkKit
import Derived.OwnWalkIn
import Derived.TacticsInMore
import Derived.LoopNIn
import Derived.LoopIn
import Derived.Test.YtmjplkbmhdkggaaGreatProg
import Derived.Deep.RegionHeld
import Derived.Test.YtmjplkbmhdkggaaGreatMWorst
import Derived.Test.YtmjplkbmhdkggaaGreatMLib
namespace Go.Proofs.YtmjplkbmhdkggaaGreat
open Go.RowKit
set_option linter.unusedVariables false
set_option linter.unusedSimpArgs false
theorem getl_app3 {ls L2 : List (List Int)} {k : Nat} (h : ls.length ≤ k) : getl (ls ++ L2) k = getl L2 (k - ls.length) := by
 unfold getl
 simp [List.getElem?_append_right h]
theorem getl_app0 {ls L2 : List (List Int)} {k : Nat} (h : k < ls.length) : getl (ls ++ L2) k = getl ls k := by
 unfold getl
 simp [List.getElem?_append_left h]
theorem Out2x.append {B : Nat} {w w1 : World} {v v1 : Value} {ls L2 : List (List Int)} {vs news : List Value} {bk b2 : Nat → Nat} (h : Out2x B w v ls vs bk)
  (hx : ∀ k, k < L2.length → ∃ rv, news[k]? = some rv ∧ X1 w rv (getl L2 k) (b2 k))
  (hb : ∀ k, k < L2.length → getl L2 k ≠ [] → B ≤ b2 k ∧ v.ownBlock ≠ some (b2 k) ∧ (∀ j, j < L2.length → j ≠ k → getl L2 j ≠ [] → b2 j ≠ b2 k) ∧ ∀ j, j < ls.length → getl ls j ≠ [] → bk j ≠ b2 k)
  (hown : w1.ownsRow B 44 1 v1 (ls.length + L2.length) (vs ++ news)) (hg : w.grownBy w1 v.ownBlock) (hblk : v1.ownBlock = v.ownBlock ∨ ∃ g, v1.ownBlock = some g ∧ w.heap.size ≤ g) :
  Out2x B w1 v1 (ls ++ L2) (vs ++ news) (fun k => if k < ls.length then bk k else b2 (k - ls.length)) := by
 obtain ⟨h1, h2, h3⟩ := h
 have hvl := h1.1
 have hne1 : ∀ c, c < w.heap.size → v.ownBlock ≠ some c → v1.ownBlock ≠ some c := fun c hc hn e => by
  rcases hblk with e1 | ⟨g, e1, hge⟩
  ·exact hn (e1.symm.trans e)
  ·rw [e] at e1; cases e1; omega
 have hxl : ∀ k, k < ls.length → getl ls k ≠ [] → bk k < w.heap.size := fun k hk hn => by
  obtain ⟨rv, _, h⟩ := h2 k hk; exact h.lt hn
 have hxl2 : ∀ k, k < L2.length → getl L2 k ≠ [] → b2 k < w.heap.size := fun k hk hn => by
  obtain ⟨rv, _, h⟩ := hx k hk; exact h.lt hn
 refine ⟨by simpa using hown, fun k hk => ?_, fun k hk hn => ?_⟩
 ·rw [List.length_append] at hk
  by_cases hkl : k < ls.length
  ·obtain ⟨rv', h4, h5⟩ := h2 k hkl
   refine ⟨rv', by rw [List.getElem?_append_left (by omega)]; exact h4, ?_⟩
   rw [getl_app0 hkl]
   simp only [hkl, if_true]
   exact h5.keep fun hn => hg.block _ (hxl k hkl hn) (fun e => (h3 k hkl hn).2.1 e.symm)
  ·obtain ⟨rv', h4, h5⟩ := hx (k - ls.length) (by omega)
   refine ⟨rv', by rw [List.getElem?_append_right (by omega), show k - vs.length = k - ls.length by omega]; exact h4, ?_⟩
   rw [getl_app3 (by omega)]
   simp only [hkl, if_false]
   exact h5.keep fun hn => hg.block _ (hxl2 _ (by omega) hn) (fun e => (hb _ (by omega) hn).2.1 e.symm)
 ·rw [List.length_append] at hk
  by_cases hkl : k < ls.length
  ·rw [getl_app0 hkl] at hn
   simp only [hkl, if_true]
   obtain ⟨h4, h5, h6⟩ := h3 k hkl hn
   refine ⟨h4, hne1 _ (hxl k hkl hn) h5, fun j hj hjk hnj => ?_⟩
   rw [List.length_append] at hj
   by_cases hjl : j < ls.length
   ·rw [getl_app0 hjl] at hnj
    simp only [hjl, if_true]
    exact h6 j hjl hjk hnj
   ·rw [getl_app3 (by omega)] at hnj
    simp only [hjl, if_false]
    exact fun e => (hb _ (by omega) hnj).2.2.2 k hkl hn e.symm
  ·rw [getl_app3 (by omega)] at hn
   simp only [hkl, if_false]
   obtain ⟨h4, h5, h6, h7⟩ := hb _ (by omega) hn
   refine ⟨h4, hne1 _ (hxl2 _ (by omega) hn) h5, fun j hj hjk hnj => ?_⟩
   rw [List.length_append] at hj
   by_cases hjl : j < ls.length
   ·rw [getl_app0 hjl] at hnj
    simp only [hjl, if_true]
    exact h7 j hjl hnj
   ·rw [getl_app3 (by omega)] at hnj
    simp only [hjl, if_false]
    exact h6 _ (by omega) (by omega) hnj
theorem getl_takeW {ls : List (List Int)} {n k : Nat} (h : k < n) : getl (ls.take n) k = getl ls k := by
 unfold getl; rw [List.getD_eq_getElem?_getD, List.getD_eq_getElem?_getD, List.getElem?_take, if_pos h]
/-- The table, and what is gathered out of it when j levels are over. -/
structure WgO (B BB TB D OB2 : Nat) (s : Nat → List (List Int)) (cs : Array Value) (vals : Nat → Value) (vss : Nat → List Value) (bks : Nat → Nat → Nat) (out : List (List Int)) (ov : Value) (vs : List Value) (bo : Nat → Nat) (j : Nat) (w : World) : Prop where
 tabl : WgAt B TB D s cs vals vss bks w
 box : w.heap[OB2]? = some (.cells #[ov] 24 (0, 0))
 outs : Out2x B w ov out vs bo
 src : ∀ i, i < out.length → getl out i ≠ [] → ∃ k p, D < k + j ∧ k ≤ D ∧ p < (s k).length ∧ getl (s k) p ≠ [] ∧ bo i = bks k p
 own : ∀ g, ov.ownBlock = some g → BB ≤ g ∧ g ≠ OB2
 low : ∀ b, FamF TB D vals s bks b → b < BB
 high : BB ≤ OB2
theorem WgO.step {B BB TB D OB2 : Nat} {s : Nat → List (List Int)} {cs : Array Value} {vals : Nat → Value} {vss : Nat → List Value} {bks : Nat → Nat → Nat} {out : List (List Int)} {ov v1 : Value} {vs : List Value} {bo : Nat → Nat} {j k n : Nat} {w w1 : World}
  (h : WgO B BB TB D OB2 s cs vals vss bks out ov vs bo j w) (hk : k + j = D) (hn : n ≤ (s k).length)
  (hown : w1.ownsRow B 44 1 v1 (out.length + n) (vs ++ (vss k).take n)) (hg : w.grownBy w1 ov.ownBlock) (hblk : v1.ownBlock = ov.ownBlock ∨ ∃ g, v1.ownBlock = some g ∧ w.heap.size ≤ g) :
  WgO B BB TB D OB2 s cs vals vss bks (out ++ (s k).take n) v1 (vs ++ (vss k).take n) (fun i => if i < out.length then bo i else bks k (i - out.length)) (j + 1) (w1.setCell ⟨OB2, 0, none⟩ v1) := by
 have hkD : k ≤ D := by omega
 have hE := h.tabl.each k hkD
 have hl2 : ((s k).take n).length = n := by rw [List.length_take]; omega
 have hOlt := lt_of_heap h.box
 have hin : ∀ p, p < n → getl (s k) p ≠ [] → FamF TB D vals s bks (bks k p) := fun p hp hne => .inr ⟨k, hkD, .inr ⟨p, by omega, hne, rfl⟩⟩
 have hA := Out2x.append (L2 := (s k).take n) (news := (vss k).take n) (b2 := bks k) h.outs (fun p hp => by
   rw [hl2] at hp
   obtain ⟨rv, h1, h2⟩ := hE.2.1 p (by omega)
   refine ⟨rv, by rw [List.getElem?_take, if_pos hp]; exact h1, by rw [getl_takeW hp]; exact h2⟩) (fun p hp hne => by
   rw [hl2] at hp
   rw [getl_takeW hp] at hne
   obtain ⟨h1, h2, h3⟩ := hE.2.2 p (by omega) hne
   refine ⟨h1, fun e => ?_, fun q hq hqp hnq => ?_, fun i hi hni e => ?_⟩
   ·have := h.low _ (hin p hp hne); have := (h.own _ e).1; omega
   ·rw [hl2] at hq
    rw [getl_takeW hq] at hnq
    exact h3 q (by omega) hqp hnq
   ·obtain ⟨k2, p2, g1, g2, g3, g4, g5⟩ := h.src i hi hni
    exact h.tabl.sep k2 k g2 hkD (by omega) (bks k p) (.inr ⟨p2, g3, g4, by rw [← e, g5]⟩) (.inr ⟨p, by omega, hne, rfl⟩)) (by rw [hl2]; exact hown) hg hblk
 have hsz : w.heap.size ≤ w1.heap.size := hg.size
 have hown1 : ∀ g, v1.ownBlock = some g → BB ≤ g ∧ g ≠ OB2 := fun g hg1 => by
  rcases hblk with e | ⟨g', e, hge⟩
  ·exact h.own g (e ▸ hg1)
  ·rw [hg1] at e
   cases e
   have := h.high
   exact ⟨by omega, by omega⟩
 have hsrc : ∀ i, i < (out ++ (s k).take n).length → getl (out ++ (s k).take n) i ≠ [] → ∃ k2 p, D < k2 + (j + 1) ∧ k2 ≤ D ∧ p < (s k2).length ∧ getl (s k2) p ≠ [] ∧ (if i < out.length then bo i else bks k (i - out.length)) = bks k2 p := fun i hi hne => by
  rw [List.length_append, hl2] at hi
  by_cases hio : i < out.length
  ·rw [getl_app0 hio] at hne
   obtain ⟨k2, p2, g1, g2, g3, g4, g5⟩ := h.src i hio hne
   exact ⟨k2, p2, by omega, g2, g3, g4, by rw [if_pos hio]; exact g5⟩
  ·rw [getl_app3 (by omega), getl_takeW (by omega)] at hne
   exact ⟨k, i - out.length, by omega, hkD, by omega, hne, by rw [if_neg hio]⟩
 have hbx : w1.heap[OB2]? = some (.cells #[ov] 24 (0, 0)) := (hg.block OB2 hOlt (fun e => (h.own OB2 e.symm).2 rfl)).trans h.box
 refine ⟨h.tabl.stay (by simpa [World.setCell] using hsz) fun b hb => ?_, ?_, hA.lo fun b hb => heap_setCell_other _ fun e => ?_, hsrc, hown1, h.low, h.high⟩
 ·have h1 := h.low b hb
  have h2 := h.tabl.lt b hb
  rw [heap_setCell_other _ (by have := h.high; show b ≠ OB2; omega)]
  exact hg.block b h2 (fun e => by have := (h.own b e.symm).1; omega)
 ·have := heap_setCell_self (off := 0) hbx v1
  simpa using this
 ·have e2 : b = OB2 := e
  rcases hb with h1 | ⟨i, h1, h2, h3⟩
  ·exact (hown1 b h1).2 e2
  ·obtain ⟨k2, p2, g1, g2, g3, g4, g5⟩ := hsrc i h1 h2
   have h5 := h.low (bks k2 p2) (.inr ⟨k2, g2, .inr ⟨p2, g3, g4, rfl⟩⟩)
   have := h.high
   have h3' : b = bks k2 p2 := h3.trans g5
   omega
theorem take_join (A R : List (List Int)) (M : Nat) : A.take M ++ (R.take M).take (M - (A.take M).length) = (A ++ R).take M := by
 rw [List.take_append, List.take_take, List.length_take]
 congr 1
 by_cases h : A.length ≤ M
 ·rw [Nat.min_eq_right h]
  congr 1
  omega
 ·rw [show M - min M A.length = 0 by omega, show M - A.length = 0 by omega]
  simp
/-- The rows that the visit leaves: level k of the ghosts, cut off at M; nothing at level 0. -/
def wgRows (locks : List (List (List Int))) (L : List (List Int)) (M k : Nat) : List (List Int) := if k = 0 then [] else (lvlL locks L k).take M
/-- What is gathered when j levels are over. -/
def wgOut (locks : List (List (List Int))) (L : List (List Int)) (D M j : Nat) : List (List Int) := (frontL locks L D (min j D)).take M
theorem wgOut_step (locks : List (List (List Int))) (L : List (List Int)) (D M : Nat) {j : Nat} (hj : j ≤ D) :
  wgOut locks L D M (j + 1) = wgOut locks L D M j ++ (wgRows locks L M (D - j)).take (M - (wgOut locks L D M j).length) := by
 unfold wgOut wgRows
 by_cases e : j = D
 ·subst e
  rw [if_pos (Nat.sub_self _), show min (j + 1) j = j by omega, Nat.min_self]
  simp
 ·rw [if_neg (by omega), show min (j + 1) D = j + 1 by omega, show min j D = j by omega, take_join]
  rfl
theorem wgOut_end (locks : List (List (List Int))) (L : List (List Int)) (D M : Nat) : wgOut locks L D M (D + 1) = (frontL locks L D D).take M := by
 unfold wgOut; rw [show min (D + 1) D = D by omega]
theorem wg_rows (M : Nat) (cuts : List (List Int)) (locks : List (List (List Int))) (l : List (List Int)) (n : Nat) :
  (runL (outStep (wgStep M) cuts locks) (fun _ => []) l).1 n = wgRows locks (selL locks cuts true l) M n := by
 rw [wg_run M cuts locks n l (fun _ => []) (Nat.zero_le _)]
 unfold wgRows
 split
 ·rfl
 ·rw [List.nil_append, List.length_nil, Nat.sub_zero]
end Go.Proofs.YtmjplkbmhdkggaaGreat
namespace Go.Proofs.YtmjplkbmhdkggaaGreat
open Go.RowKit Go.Shelf
set_option linter.unusedVariables false
set_option linter.unusedSimpArgs false
attribute [local go_sem] Oper.semAt_some
/-- What has come when j rounds are over: D, D - 1, .., each an index below D + 1. -/
def downTo (D : Nat) : Nat → List { k : Nat // k ≤ D }
 | 0 => []
 | j + 1 => downTo D j ++ [⟨D - j, Nat.sub_le _ _⟩]
/-- What a round keeps: the box of the list of lists, and the block of its cells. -/
def Kept2 (x y : Nat) (A B : World) : Prop := B.heap[x]? = A.heap[x]? ∧ B.heap[y]? = A.heap[y]?
theorem Kept2.refl (x y : Nat) (A : World) : Kept2 x y A A := ⟨rfl, rfl⟩
theorem Kept2.trans {x y : Nat} {A B C : World} (h : Kept2 x y A B) (k : Kept2 x y B C) : Kept2 x y A C := ⟨k.1.trans h.1, k.2.trans h.2⟩
theorem downTo_length (D : Nat) : ∀ j, (downTo D j).length = j
 | 0 => rfl
 | j + 1 => by simp [downTo, downTo_length D j]
set_option maxRecDepth 100000 in
set_option maxHeartbeats 2000000 in
theorem back1_in (F : Fence) (n : Nat) (hf : F.fn 126) (hro : F.round = none) (hn : 1 ≤ n) (l Bs b D cap : Nat) (vals : Nat → Value) (hD : D ≤ 1000) (J Jx : List { k : Nat // k ≤ D } → World → Prop)
  (hY : ∀ pre (x : { k : Nat // k ≤ D }) W, J pre W → pre.length < D + 1 → YieldAt F (n - 1) Tryz.prog l #[.int .i64 (x.1 : Int), vals x.1] W fun e W' =>
   (e = .returned (.bool true) ∧ J (pre ++ [x]) W' ∧ Kept2 Bs b W W') ∨ (e = .returned (.bool false) ∧ Jx (pre ++ [x]) W'))
  (W : World) (hBs : W.cell? ⟨Bs, 0, none⟩ = some (.slice (some ⟨b, 0, none⟩) (D + 1) cap)) (hc : ∀ j, j ≤ D → W.cell? ⟨b, j, none⟩ = some (vals j)) (h0 : J [] W) :
  CallsIn F n Tryz.prog 126 #[.func (.yield l) #[] #[], .pointer (some ⟨Bs, 0, none⟩)] W fun e W' => (∃ v, e = .returned v) ∧
   ((∃ ys, ys = downTo D (D + 1) ∧ J ys W') ∨ (∃ pre, (∃ k, k ≤ D + 1 ∧ pre = downTo D k) ∧ Jx pre W')) := by
 refine callsIn_of_wp Tryz.func126 rfl hf ?_ hro
 simp only [Tryz.ntmps126, List.size_toArray, List.length_cons, List.length_nil, Nat.reduceAdd, Nat.reduceSub, Array.replicate_succ, Array.replicate_zero, List.push_toArray, List.append_toArray, List.nil_append, List.cons_append]
 gi_wp2
 gi_loopw [3] (fun i wr => ∃ k : Nat, k ≤ D + 1 ∧ i = .int .i64 ((D : Int) - k) ∧ J (downTo D k) wr ∧ Kept2 Bs b W wr)
  (fun i _ => (intOf i + 1).toNat)
 case atStart => exact ⟨0, Nat.zero_le _, by simp, h0, Kept2.refl _ _ _⟩
 case round =>
  obtain ⟨k, hk, rfl, hJs, hnx⟩ := hrel
  have hBw : wr.cell? ⟨Bs, 0, none⟩ = some (.slice (some ⟨b, 0, none⟩) (D + 1) cap) := cell_keep hBs hnx.1
  by_cases hlt : k < D + 1
  ·obtain ⟨i, hi⟩ : ∃ i : Nat, (D : Int) - k = i := ⟨D - k, by omega⟩
   have hiD : i ≤ D := by omega
   have hik : D - k = i := by omega
   rw [hi]
   have hci : wr.cell? ⟨b, i, none⟩ = some (vals i) := cell_keep (hc i hiD) hnx.2
   obtain ⟨fn, tmps, assign, body, hy, hR⟩ := hY _ ⟨i, hiD⟩ wr hJs (by rw [downTo_length]; exact hlt)
   dsimp only at hy
   have hin : ¬ D + 1 ≤ i := by omega
   have hi0 : (0 : Int) ≤ (i : Int) := by omega
   have hi1 : (i : Int) < (D : Int) + 1 := by omega
   gi_wp2
   refine hR.mono ?_
   rintro e W3 (⟨rfl, hJ3, hk3⟩ | ⟨rfl, hJx3⟩)
   ·gi_wp2
    go_roundw
    case rel => exact ⟨k + 1, by omega, by simp <;> omega, by
     have e : downTo D (k + 1) = downTo D k ++ [⟨i, hiD⟩] := by
      show downTo D k ++ [⟨D - k, Nat.sub_le _ _⟩] = _
      simp only [hik]
     rw [e]; exact hJ3, hnx.trans hk3⟩
    case measure => simp [intOf] <;> omega
   ·gi_wp2
    refine bodyPost_ret (results_none rfl _ _ _) rfl ?_
    exact ⟨⟨_, rfl⟩, .inr ⟨_, ⟨k + 1, by omega, by
     show _ = downTo D k ++ [⟨D - k, Nat.sub_le _ _⟩]
     simp only [hik]⟩, hJx3⟩⟩
  ·obtain rfl : k = D + 1 := by omega
   gi_wp2
   go_end0
   exact ⟨⟨_, rfl⟩, .inl ⟨_, rfl, hJs⟩⟩
set_option maxHeartbeats 1000000 in
theorem back_in (F : Fence) (n : Nat) (hf : F.fn 63) (hro : F.round = none) (a : Option Addr) (len cap : Nat) (w : World) :
  CallsIn F n Tryz.prog 63 #[.slice a len cap] w fun e w' => e = .returned (.func (.func 126) #[] #[.pointer (some ⟨w.heap.size, 0, none⟩)]) ∧ w' = w.alloc (.cells #[.slice a len cap] 80) := by
 refine callsIn_of_wp Tryz.func63 rfl hf ?_ hro
 simp only [Tryz.ntmps63, List.size_toArray, List.length_cons, List.length_nil, Nat.reduceAdd, Nat.reduceSub, Array.replicate_succ, Array.replicate_zero, List.push_toArray, List.append_toArray, List.nil_append, List.cons_append]
 gi_wp2
 go_ret
 exact ⟨rfl, rfl⟩
theorem back_stops (F : Fence) (n : Nat) (hf : F.fn 126) (hro : F.round = none) (hn : 1 ≤ n) (Bs b D cap : Nat) (vals : Nat → Value) (hD : D ≤ 1000) (w : World) (hBs : Bs < w.heap.size) (hb : b < w.heap.size)
  (hc : w.cell? ⟨Bs, 0, none⟩ = some (.slice (some ⟨b, 0, none⟩) (D + 1) cap)) (hv : ∀ j, j ≤ D → w.cell? ⟨b, j, none⟩ = some (vals j)) :
  SeqStopsK F n Tryz.prog 126 #[.pointer (some ⟨Bs, 0, none⟩)] (fun x : { k : Nat // k ≤ D } => #[Value.int .i64 (x.1 : Int), vals x.1]) (Kept2 Bs b) (fun ys => ys = downTo D (D + 1))
   (fun pre => ∃ k, k ≤ D + 1 ∧ pre = downTo D k) (D + 1) w := fun l J Jx W hW _ _ hY h0 => by
 exact back1_in F n hf hro hn l Bs b D cap vals hD J Jx hY W ((hW.cell (p := ⟨Bs, 0, none⟩) hBs).trans hc) (fun j hj => (hW.cell (p := ⟨b, j, none⟩) hb).trans (hv j hj)) h0
end Go.Proofs.YtmjplkbmhdkggaaGreat
namespace Go.Proofs.YtmjplkbmhdkggaaGreat
open Go.RowKit
set_option linter.unusedVariables false
set_option linter.unusedSimpArgs false
theorem wpOpsIn_of_wpOps {P : Program} {ops : Array Oper} {Q : Exit → Act → World → Prop} {l n : Nat} (hL : ¬ LetsOut Q) (hnd : ∀ (j : Nat) (o : Oper), ops[j]? = some o → ∀ c, o.op ≠ .defer c) :
  ∀ (li : List Nat) (a : Act) (w : World), wpOps P ops Q li a w → wpOpsIn (Fence.wide.inRound l) n P ops Q li a w
 | [], a, w, h => h
 | i :: rest, a, w, h => by
   have ih := wpOpsIn_of_wpOps (P := P) (n := n) (l := l) hL hnd rest
   unfold wpOps at h
   unfold wpOpsIn
   cases ho : ops[i]? with
   | none => simp only [ho] at h ⊢; exact ih a w h
   | some o =>
     simp only [ho] at h ⊢
     by_cases hw : Region.wanted o (yielded ops a.tmps) = true
     ·simp only [hw, if_true] at h ⊢
      rcases h with h | ⟨_, h⟩
      rotate_left
      ·exact absurd h hL
      refine ⟨fun f _ => trivial, ?_⟩
      unfold Oper.wp at h
      rw [show (Fence.wide.inRound l).round = some l from rfl, Oper.semAt_some l _ _ (hnd i o ho)]
      revert h
      generalize (execOp a.eval o).run P w = r
      intro h
      cases r with
      | ok x w' =>
        cases x with
        | value u => exact ih _ _ h
        | skip => exact ih _ _ h
        | defer d => exact ih _ _ h
        | enter f args =>
          refine ⟨fun hh => (by cases hh), CallsIn.inRound l (callsIn_wide.2 (Calls.mono h fun e w'' he => ?_))⟩
          cases e with
          | returned v => exact ih _ _ he
          | panicked c => exact he
          | outgrown => exact he
        | row row args =>
          refine ⟨fun hh => (by cases hh), fun c cs _ => ?_⟩
          obtain ⟨v, w'', he, hst⟩ := h c cs
          exact ⟨v, w'', ih _ _ he, stepsIn_wide.2 hst⟩
        | _ => exact h.elim
      | halt x w' => cases x <;> exact h
     ·simp only [hw, Bool.false_eq_true, if_false] at h ⊢
      exact ⟨fun f _ => trivial, ih _ _ h⟩
theorem wpIn_region_round {P : Program} {id : Nat} {ops : Array Oper} {Q : Exit → Act → World → Prop} {S : World → Prop} {l n : Nat} {a : Act} {w : World} (hm : P.follows .mixedOrders = true) (hL : ¬ LetsOut Q)
  (hnd : ∀ (j : Nat) (o : Oper), ops[j]? = some o → ∀ c, o.op ≠ .defer c) (hS : S w.drew)
  (h : S w.drew → wpAnyH P .any ops Q S ops.size (Array.replicate ops.size false) a w.drew) : (Code.region id ops true).wpIn (Fence.wide.inRound l) n P Q a w :=
 wpIn_region_draw fun t => by
  simp only [Region.schedule, hm, Bool.true_or, if_true]
  exact wpOpsIn_of_wpOps hL hnd _ _ _ (wpAny_sound ops.size t _ a _ (wpAny_of_held _ _ _ _ (h hS)))
def noDef (o : Oper) : Bool := match o.op with | .defer _ => false | _ => true
theorem noDef_of {ops : Array Oper} (h : ops.all noDef = true) : ∀ (j : Nat) (o : Oper), ops[j]? = some o → ∀ c, o.op ≠ .defer c := by
 intro j o ho c hc
 rw [Array.all_eq_true] at h
 obtain ⟨hj, rfl⟩ := Array.getElem?_eq_some_iff.1 ho
 have h1 := h j hj
 unfold noDef at h1
 rw [hc] at h1
 cases h1
/-- Nothing is put behind a list of its own. -/
theorem run_app_none {P : Program} {w : World} (base : Nat) (t ty e : TypeId) (i : TypeInfo) (size : Nat) (ht : P.underlying t = some (.slice e)) (hi : P.info? e = some i)
  (v : Value) (n : Nat) (xs : List Value) (hown : w.ownsRow base e size v n xs) (ad : Option Addr) (c : Nat) :
  (Builtin.append_ #[t, t] ty #[v, .slice ad 0 c]).run P w = .ok v w := by
 rcases hown.2 with ⟨rfl, rfl⟩ | ⟨g, cap, cur, rfl, _, _, hnc, _⟩
 ·cases ad <;> simp [Builtin.append_, run_underlying ht, sizeOf, typeInfo, hi, Builtin.lenOf, Builtin.firstCells, loadCells, loadCellsFrom]
 ·cases ad <;> simp [Builtin.append_, run_underlying ht, sizeOf, typeInfo, hi, Builtin.lenOf, Builtin.firstCells, loadCells, loadCellsFrom, hnc, storeCells]
theorem step_append_none {P : Program} {w : World} {ops : Array Oper} {o : Oper} {a : Act} {K : Act → World → Prop} {Q : Exit → Act → World → Prop} {E : Prop} (hgd : o.guard = none) (s x : Operand) (t : TypeId)
  (ho : o.op = .call { callee := .builtin .append, args := #[s, x], argTypes := #[t, t] })
  (base : Nat) (e : TypeId) (i : TypeInfo) (size : Nat) (ht : P.underlying t = some (.slice e)) (hi : P.info? e = some i)
  (v : Value) (n : Nat) (xs : List Value) (hs : a.eval s = v) (hown : w.ownsRow base e size v n xs) (ad : Option Addr) (c : Nat) (hx : a.eval x = .slice ad 0 c)
  (h : K (a.put o.dst v) w) : if Region.wanted o (yielded ops a.tmps) = true then Oper.wp P o a w K Q else E := by
 have hw : Region.wanted o (yielded ops a.tmps) = true := by simp [Region.wanted, hgd]
 rw [if_pos hw]
 have hrun := run_app_none (P := P) (w := w) base t o.type e i size ht hi v n xs hown ad c
 unfold Oper.wp execOp
 simp only [ho, resolve, invoke, builtin, Sem.run_bind, Sem.run_pure, Result.andThen_ok, List.map_toArray, List.map_cons, List.map_nil, hs, hx, hrun]
 exact h
theorem Out2x.cellsG {B : Nat} {w : World} {v : Value} {ls : List (List Int)} {vs : List Value} {bk : Nat → Nat} (h : Out2x B w v ls vs bk) {b : Nat} (hb : OutG v ls bk b) : ∃ cs e f, w.heap[b]? = some (.cells cs e f) := by
 rcases hb with h1 | ⟨k, h1, h2, rfl⟩
 ·rcases h.1.2 with ⟨rfl, _⟩ | ⟨g, cap, cur, rfl, _, hh, _⟩
  ·cases h1
  ·cases h1
   exact ⟨_, _, _, hh⟩
 ·obtain ⟨rv, _, h5⟩ := h.2.1 k h1
  obtain ⟨a, c, rfl, _, _, h⟩ := h5
  obtain ⟨off, cs, e, _, hh, _⟩ := h h2
  exact ⟨_, _, _, hh⟩
theorem WgAt.cellsG {B TB D : Nat} {s : Nat → List (List Int)} {cs : Array Value} {vals : Nat → Value} {vss : Nat → List Value} {bks : Nat → Nat → Nat} {w : World} (h : WgAt B TB D s cs vals vss bks w) {b : Nat} (hb : FamF TB D vals s bks b) : ∃ cs e f, w.heap[b]? = some (.cells cs e f) := by
 rcases hb with rfl | ⟨k, hk, hb⟩
 ·exact ⟨_, _, _, h.tab⟩
 ·exact (h.each k hk).cellsG hb
theorem Out2x.ones {B : Nat} {w : World} {v : Value} {ls : List (List Int)} {vs : List Value} {bk : Nat → Nat} (h : Out2x B w v ls vs bk) : ∀ u ∈ vs, u.oneCell' = true := by
 intro u hu
 obtain ⟨i, hi, rfl⟩ := List.getElem_of_mem hu
 have hl := h.1.1
 obtain ⟨rv, h1, h2⟩ := h.2.1 i (by omega)
 rw [List.getElem?_eq_getElem hi] at h1
 cases h1
 obtain ⟨a, c, e, _⟩ := h2
 rw [e]; rfl
theorem news_cur {w : World} {g q n : Nat} {cur : Array Value} {T : TypeId} {vs : List Value} (hh : w.heap[g]? = some (.cells cur T (0, 0))) (hct : cur.toList.take (q * 1) = vs) :
  ∀ j u, (vs.take n)[j]? = some u → w.cell? ((⟨g, 0, none⟩ : Addr).add j) = some u := by
 intro j u hj
 have hadd : (⟨g, 0, none⟩ : Addr).add j = ⟨g, 0 + j, none⟩ := by unfold Addr.add; split <;> simp_all
 rw [hadd, cell_of_block hh, Nat.zero_add, ← Array.getElem?_toList]
 rw [List.getElem?_take] at hj
 split at hj
 ·rw [← hct, List.getElem?_take] at hj
  split at hj
  ·exact hj
  ·cases hj
 ·cases hj
theorem fin_drew {W wd w' : World} {x y : Nat} (hwd : wd = W.drew) (h1 : ∀ Bk, KeepsFrom Bk wd w') (h2 : Kept2 x y wd w') : (∀ Bk, KeepsFrom Bk W w') ∧ Kept2 x y W w' := by
 subst hwd
 exact ⟨fun Bk => ⟨(h1 Bk).size, (h1 Bk).same⟩, h2.1, h2.2⟩
/-- The values that stand in the list when the levels of pre are over. -/
def gvs {D : Nat} (vss : Nat → List Value) (M : Nat) (pre : List { k : Nat // k ≤ D }) : List Value := pre.foldl (fun acc x => acc ++ (vss x.1).take (M - acc.length)) []
theorem gvs_snoc {D : Nat} (vss : Nat → List Value) (M : Nat) (pre : List { k : Nat // k ≤ D }) (x : { k : Nat // k ≤ D }) : gvs vss M (pre ++ [x]) = gvs vss M pre ++ (vss x.1).take (M - (gvs vss M pre).length) := by
 unfold gvs; rw [List.foldl_append]; rfl
theorem gvs_le {D : Nat} (vss : Nat → List Value) (M : Nat) (pre : List { k : Nat // k ≤ D }) : (gvs vss M pre).length ≤ M := by
 have h : ∀ (l : List { k : Nat // k ≤ D }) (acc : List Value), acc.length ≤ M → (l.foldl (fun acc x => acc ++ (vss x.1).take (M - acc.length)) acc).length ≤ M := by
  intro l
  induction l with
  | nil => intro acc h; exact h
  | cons x l ih =>
    intro acc h
    rw [List.foldl_cons]
    refine ih _ ?_
    rw [List.length_append, List.length_take]
    omega
 exact h pre [] (Nat.zero_le _)
/-- The table as it stands, the box of the gathered list, and the list's own memory. -/
structure WgR (B BB TB D OB2 : Nat) (s : Nat → List (List Int)) (cs : Array Value) (vals : Nat → Value) (vss : Nat → List Value) (bks : Nat → Nat → Nat) (M : Nat) (pre : List { k : Nat // k ≤ D }) (ov : Value) (w : World) : Prop where
 tabl : WgAt B TB D s cs vals vss bks w
 box : w.heap[OB2]? = some (.cells #[ov] 24 (0, 0))
 own : w.ownsRow BB 44 1 ov (gvs vss M pre).length (gvs vss M pre)
 ne : ov.ownBlock ≠ some OB2 ∧ ov.ownBlock ≠ some (OB2 + 1)
 lt2 : OB2 + 1 < w.heap.size
 low : ∀ b, FamF TB D vals s bks b → b < BB
 high : BB ≤ OB2
section
variable {B BB TB D OB2 : Nat} {s : Nat → List (List Int)} {cs : Array Value} {vals : Nat → Value} {vss : Nat → List Value} {bks : Nat → Nat → Nat} {M : Nat} {pre : List { k : Nat // k ≤ D }} {ov v1 : Value} {w w1 : World}
theorem WgR.keep (h : WgR B BB TB D OB2 s cs vals vss bks M pre ov w) (hz : w.heap.size ≤ w1.heap.size) (hc : ∀ (b : Nat) (c : Array Value) (e : TypeId) (f : Nat × Nat), w.heap[b]? = some (Obj.cells c e f) → w1.heap[b]? = w.heap[b]?) : WgR B BB TB D OB2 s cs vals vss bks M pre ov w1 := by
 refine ⟨h.tabl.stay hz fun b hb => ?_, (hc _ _ _ _ h.box).trans h.box, ⟨h.own.1, ?_⟩, h.ne, Nat.lt_of_lt_of_le h.lt2 hz, h.low, h.high⟩
 ·obtain ⟨c, e, f, hh⟩ := h.tabl.cellsG hb
  exact hc _ _ _ _ hh
 ·rcases h.own.2 with h0 | ⟨g, cap, cur, rfl, h4, h5, h6⟩
  ·exact .inl h0
  ·exact .inr ⟨g, cap, cur, rfl, h4, by rw [hc _ _ _ _ h5]; exact h5, h6⟩
theorem WgR.turn {row : Option Nat} (h : WgR B BB TB D OB2 s cs vals vss bks M pre ov w) (hg : w.grownBy w1 row) (hr : ∀ r, row = some r → ∃ o : Obj, w.heap[r]? = some o ∧ o.isCells = false) : WgR B BB TB D OB2 s cs vals vss bks M pre ov w1 :=
 h.keep hg.size fun b c e f hb => hg.block b (lt_of_heap hb) (fun e' => by
  obtain ⟨o, ho, hn⟩ := hr b e'.symm
  rw [hb] at ho; cases ho; cases hn)
theorem WgR.step (h : WgR B BB TB D OB2 s cs vals vss bks M pre ov w) (x : { k : Nat // k ≤ D }) {n : Nat} (hn : n = ((vss x.1).take (M - (gvs vss M pre).length)).length)
  (hown : w1.ownsRow BB 44 1 v1 ((gvs vss M pre).length + n) (gvs vss M pre ++ (vss x.1).take (M - (gvs vss M pre).length))) (hg : w.grownBy w1 ov.ownBlock) (hblk : v1.ownBlock = ov.ownBlock ∨ ∃ g, v1.ownBlock = some g ∧ w.heap.size ≤ g) :
  WgR B BB TB D OB2 s cs vals vss bks M (pre ++ [x]) v1 (w1.setCell ⟨OB2, 0, none⟩ v1) ∧ (∀ Bk, KeepsFrom Bk w (w1.setCell ⟨OB2, 0, none⟩ v1)) ∧ Kept2 (OB2 + 1) TB w (w1.setCell ⟨OB2, 0, none⟩ v1) ∧
   (∀ B0 W0, B0 ≤ BB → B0 ≤ w.heap.size → Below B0 W0 w → Below B0 W0 (w1.setCell ⟨OB2, 0, none⟩ v1)) ∧ ∀ b, b < BB → b < w.heap.size → (w1.setCell ⟨OB2, 0, none⟩ v1).heap[b]? = w.heap[b]? := by
 have hO := lt_of_heap h.box
 have hO2 := h.lt2
 have hne : ∀ b, b < w.heap.size → ov.ownBlock ≠ some b → v1.ownBlock ≠ some b := fun b hb hn1 e => by
  rcases hblk with e1 | ⟨g, e1, hge⟩
  ·exact hn1 (e1.symm.trans e)
  ·rw [e] at e1; cases e1; omega
 have hbx : w1.heap[OB2]? = some (.cells #[ov] 24 (0, 0)) := (hg.block OB2 hO (fun e => h.ne.1 e.symm)).trans h.box
 have hh := h.high
 have hsz := hg.size
 have hsz2 : (w1.setCell ⟨OB2, 0, none⟩ v1).heap.size = w1.heap.size := by simp [World.setCell]
 have hlo : ∀ b, b < BB → b < w.heap.size → (w1.setCell ⟨OB2, 0, none⟩ v1).heap[b]? = w.heap[b]? := fun b h1 h2 => by
  rw [heap_setCell_other _ (by show b ≠ OB2; omega)]
  exact hg.block b h2 (fun e => by have := (h.own.lt b e.symm).1; omega)
 have hTB := h.tabl.lt TB (.inl rfl)
 refine ⟨⟨h.tabl.stay (by omega) fun b hb => hlo b (h.low b hb) (h.tabl.lt b hb), ?_, ?_, ⟨hne _ hO h.ne.1, hne _ hO2 h.ne.2⟩, by omega, h.low, h.high⟩, fun Bk => ⟨by omega, fun k o hk h0 hc => ?_⟩, ⟨?_, hlo TB (h.low TB (.inl rfl)) hTB⟩, fun B0 W0 h0 h1 hB => ?_, hlo⟩
 ·have := heap_setCell_self (off := 0) hbx v1
  simpa using this
 ·rw [gvs_snoc]
  rw [hn, ← List.length_append] at hown
  refine ⟨hown.1, ?_⟩
  rcases hown.2 with h0 | ⟨g, cap, cur, rfl, h4, h5, h6⟩
  ·exact .inl h0
  ·refine .inr ⟨g, cap, cur, rfl, h4, ?_, h6⟩
   rw [heap_setCell_other _ (fun e => hne OB2 hO h.ne.1 (by rw [← e]; rfl))]
   exact h5
 ·have hk2 := lt_of_heap h0
  have e1 : k ≠ OB2 := fun e => by rw [e, h.box] at h0; cases h0; cases hc
  rw [heap_setCell_other _ e1]
  refine (hg.block k hk2 (fun e => ?_)).trans h0
  rcases h.own.2 with ⟨e2, _⟩ | ⟨g, cap, cur, e2, _, h5, _⟩
  ·rw [e2] at e; cases e
  ·rw [e2] at e
   cases e
   rw [h5] at h0; cases h0; cases hc
 ·rw [heap_setCell_other _ (by show OB2 + 1 ≠ OB2; omega)]
  exact hg.block _ hO2 (fun e => h.ne.2 e.symm)
 ·exact (hB.grown hg h1 (fun k e => by have := (h.own.lt k e).1; omega)).setCell (p := ⟨OB2, 0, none⟩) (by show B0 ≤ OB2; omega) _
/-- What is gathered, row by row, and whence each row comes. -/
theorem gat (T : WgAt B TB D s cs vals vss bks w) (locks : List (List (List Int))) (L : List (List Int)) (hs : ∀ k, k ≤ D → s k = wgRows locks L M k) : ∀ j, j ≤ D + 1 → ∃ bo : Nat → Nat,
  (gvs vss M (downTo D j)).length = (wgOut locks L D M j).length ∧
  (∀ i, i < (wgOut locks L D M j).length → ∃ rv, (gvs vss M (downTo D j))[i]? = some rv ∧ X1 w rv (getl (wgOut locks L D M j) i) (bo i)) ∧
  (∀ i, i < (wgOut locks L D M j).length → getl (wgOut locks L D M j) i ≠ [] → (∃ k p, D < k + j ∧ k ≤ D ∧ p < (s k).length ∧ getl (s k) p ≠ [] ∧ bo i = bks k p) ∧
   ∀ i2, i2 < (wgOut locks L D M j).length → i2 ≠ i → getl (wgOut locks L D M j) i2 ≠ [] → bo i2 ≠ bo i)
 | 0, _ => by
   have e : wgOut locks L D M 0 = [] := by unfold wgOut; rw [Nat.zero_min]; unfold frontL; simp
   refine ⟨fun _ => 0, by rw [e]; rfl, fun i hi => by rw [e] at hi; simp at hi, fun i hi => by rw [e] at hi; simp at hi⟩
 | j + 1, hj => by
   obtain ⟨bo, h1, h2, h3⟩ := gat T locks L hs j (by omega)
   have hk : D - j ≤ D := Nat.sub_le _ _
   have hE := T.each (D - j) hk
   have hvl : (vss (D - j)).length = (s (D - j)).length := by have := hE.1.1; simpa using this
   have e1 : gvs vss M (downTo D (j + 1)) = gvs vss M (downTo D j) ++ (vss (D - j)).take (M - (wgOut locks L D M j).length) := by
    rw [show downTo D (j + 1) = downTo D j ++ [⟨D - j, hk⟩] from rfl, gvs_snoc, h1]
   have e2 : wgOut locks L D M (j + 1) = wgOut locks L D M j ++ (s (D - j)).take (M - (wgOut locks L D M j).length) := by
    rw [wgOut_step locks L D M (by omega), hs _ hk]
   obtain ⟨A, hA⟩ : ∃ A, A = wgOut locks L D M j := ⟨_, rfl⟩
   obtain ⟨G, hG⟩ : ∃ G, G = gvs vss M (downTo D j) := ⟨_, rfl⟩
   rw [e1, e2]
   rw [← hA] at h1 h2 h3 ⊢
   rw [← hG] at h1 h2 ⊢
   obtain ⟨q, hq⟩ : ∃ q, q = M - A.length := ⟨_, rfl⟩
   rw [← hq]
   refine ⟨fun i => if i < A.length then bo i else bks (D - j) (i - A.length), by simp only [List.length_append, List.length_take, hvl, h1], fun i hi => ?_, fun i hi hne => ?_⟩
   ·rw [List.length_append, List.length_take] at hi
    by_cases hiA : i < A.length
    ·obtain ⟨rv, g1, g2⟩ := h2 i hiA
     refine ⟨rv, by rw [List.getElem?_append_left (by omega)]; exact g1, ?_⟩
     rw [getl_app0 hiA]
     simp only [hiA, if_true]
     exact g2
    ·obtain ⟨rv, g1, g2⟩ := hE.2.1 (i - A.length) (by omega)
     refine ⟨rv, by rw [List.getElem?_append_right (by omega), h1, List.getElem?_take, if_pos (by omega)]; exact g1, ?_⟩
     rw [getl_app3 (by omega), getl_takeW (by omega)]
     simp only [hiA, if_false]
     exact g2
   ·rw [List.length_append, List.length_take] at hi
    by_cases hiA : i < A.length
    ·rw [getl_app0 hiA] at hne
     obtain ⟨⟨k2, p2, g1, g2, g3, g4, g5⟩, g6⟩ := h3 i hiA hne
     refine ⟨⟨k2, p2, by omega, g2, g3, g4, by simp only [hiA, if_true]; exact g5⟩, fun i2 hi2 hn2 hne2 => ?_⟩
     rw [List.length_append, List.length_take] at hi2
     simp only [hiA, if_true]
     by_cases hiA2 : i2 < A.length
     ·rw [getl_app0 hiA2] at hne2
      simp only [hiA2, if_true]
      exact g6 i2 hiA2 hn2 hne2
     ·rw [getl_app3 (by omega), getl_takeW (by omega)] at hne2
      simp only [hiA2, if_false]
      intro e
      exact T.sep (D - j) k2 hk g2 (by omega) (bks k2 p2) (.inr ⟨i2 - A.length, by omega, hne2, by rw [e, g5]⟩) (.inr ⟨p2, g3, g4, rfl⟩)
    ·rw [getl_app3 (by omega), getl_takeW (by omega)] at hne
     refine ⟨⟨D - j, i - A.length, by omega, hk, by omega, hne, by simp only [hiA, if_false]⟩, fun i2 hi2 hn2 hne2 => ?_⟩
     rw [List.length_append, List.length_take] at hi2
     simp only [hiA, if_false]
     by_cases hiA2 : i2 < A.length
     ·rw [getl_app0 hiA2] at hne2
      simp only [hiA2, if_true]
      obtain ⟨⟨k2, p2, g1, g2, g3, g4, g5⟩, _⟩ := h3 i2 hiA2 hne2
      intro e
      exact T.sep (D - j) k2 hk g2 (by omega) (bks k2 p2) (.inr ⟨i - A.length, by omega, hne, by rw [← e, g5]⟩) (.inr ⟨p2, g3, g4, rfl⟩)
     ·rw [getl_app3 (by omega), getl_takeW (by omega)] at hne2
      simp only [hiA2, if_false]
      exact (hE.2.2 (i - A.length) (by omega) hne).2.2 (i2 - A.length) (by omega) (by omega) hne2
theorem WgR.done (h : WgR B BB TB D OB2 s cs vals vss bks M (downTo D (D + 1)) ov w) (hB : B ≤ BB) (locks : List (List (List Int))) (L : List (List Int)) (hs : ∀ k, k ≤ D → s k = wgRows locks L M k) : F2 B w ov ((frontL locks L D D).take M) := by
 obtain ⟨bo, h1, h2, h3⟩ := gat (M := M) h.tabl locks L hs (D + 1) (Nat.le_refl _)
 rw [← wgOut_end]
 have hown := own_base h.own hB
 rw [h1] at hown
 have hX : Out2x B w ov (wgOut locks L D M (D + 1)) (gvs vss M (downTo D (D + 1))) bo := by
  refine ⟨hown, h2, fun k hk hn => ?_⟩
  obtain ⟨⟨k2, p2, g1, g2, g3, g4, g5⟩, g6⟩ := h3 k hk hn
  refine ⟨by rw [g5]; exact ((h.tabl.each k2 g2).2.2 p2 g3 g4).1, fun e => ?_, g6⟩
  rw [g5] at e
  have h7 := (h.own.lt _ e).1
  have h8 := h.low _ (.inr ⟨k2, g2, .inr ⟨p2, g3, g4, rfl⟩⟩)
  omega
 exact hX.out.f2
end
end Go.Proofs.YtmjplkbmhdkggaaGreat
