/- Steps of a refutation in memory of their own. No program here but the type. No conditions. -/
import Derived.Test.YtbekpololmahoaaGreatDoorMDraw23
import Derived.Test.YtbekpololmahoaaGreatDoorMReadO
namespace Go.Proofs.YtbekpololmahoaaGreatDoor
open Go.RowKit
set_option linter.unusedVariables false
set_option linter.unusedSimpArgs false
theorem run_len {n : Nat} {t : List (List Int)} {rec : List (List Int) → List (Int × Int) → FSt} (hr : ∀ c l, l.length ≤ (rec c l).1.length) {cuts : List (List Int)} {s : FSt} {key : List Int} :
  s.1.length ≤ (rfStep n t rec cuts s key).1.1.length ∧ ((rfStep n t rec cuts s key).1.2 = 0 → s.1.length + 1 ≤ (rfStep n t rec cuts s key).1.1.length) := by
 unfold rfStep
 split
 ·exact ⟨Nat.le_refl _, fun h => by cases h⟩
 ·split
  ·exact ⟨by simp, fun _ => by simp⟩
  ·split
   ·exact ⟨Nat.le_refl _, fun h => by cases h⟩
   ·have := hr (cuts ++ [key]) (s.1 ++ [(-1, 0)])
    rw [List.length_append] at this
    simp only [List.length_cons, List.length_nil] at this
    exact ⟨by show s.1.length ≤ (rec (cuts ++ [key]) (s.1 ++ [(-1, 0)])).1.length; omega, fun _ => by show s.1.length + 1 ≤ (rec (cuts ++ [key]) (s.1 ++ [(-1, 0)])).1.length; omega⟩
theorem runL_len {n : Nat} {t : List (List Int)} {rec : List (List Int) → List (Int × Int) → FSt} (hr : ∀ c l, l.length ≤ (rec c l).1.length) {cuts : List (List Int)} : ∀ (keys : List (List Int)) (s : FSt),
  s.1.length ≤ (runL (rfStep n t rec cuts) s keys).1.1.length
 | [], s => Nat.le_refl _
 | k :: l, s => by
   have h1 := (run_len (n := n) (t := t) hr (cuts := cuts) (s := s) (key := k)).1
   unfold runL
   split
   ·exact Nat.le_trans h1 (runL_len hr l _)
   ·exact h1
theorem rfF_len {n : Nat} {t keys : List (List Int)} : ∀ (d : Nat) (cuts : List (List Int)) (l : List (Int × Int)), l.length ≤ (rfF n t keys d cuts l).1.length
 | 0, _, l => Nat.le_refl _
 | d + 1, cuts, l => runL_len (fun c l => rfF_len d c l) keys (l, 0)
theorem refute_ne {m : Mk} {t : List (List Int)} {ra : List (Int × Int)} (h : refuteAns m t = (ra, 0)) : 1 ≤ ra.length ∧ ra.length ≤ 1048576 := by
 have hlen := refuteAns_len m t
 rw [h] at hlen
 refine ⟨?_, hlen⟩
 cases hy : isSys m t
 ·unfold refuteAns at h; rw [if_pos hy] at h; cases h
 ·have hok := PartOk.nil hy
  have hd : 1 ≤ t.length := hok.fits.rows.1
  have hk := keysOf_ne hok.fits.ok
  rw [refAnsC hy] at h
  split at h
  ·rename_i h0
   have h1 : (rfF m.c.toNat t (keysOf m) t.length [] []).1 = ra := congrArg Prod.fst h
   rw [← h1]
   obtain ⟨d, hdd⟩ : ∃ d, t.length = d + 1 := ⟨t.length - 1, by omega⟩
   obtain ⟨k, ks, hkk⟩ : ∃ k ks, keysOf m = k :: ks := by
    cases hK : keysOf m with
    | nil => exact absurd hK hk
    | cons a b => exact ⟨a, b, rfl⟩
   rw [hdd, hkk] at h0 ⊢
   unfold rfF runL at h0 ⊢
   have hr := fun c l => rfF_len (n := m.c.toNat) (t := t) (keys := k :: ks) d c l
   have hs := rfStep_ok (n := m.c.toNat) (t := t) (rec := rfF m.c.toNat t (k :: ks) d) (fun c l h => rfF_ok h) (cuts := []) (s := ([], 0)) (key := k) (by simp)
   have hl := run_len (n := m.c.toNat) (t := t) hr (cuts := []) (s := ([], 0)) (key := k)
   split at h0
   ·rename_i h2
    rw [if_pos h2]
    rw [hs.2, decide_eq_true_iff] at h2
    exact Nat.le_trans (hl.2 h2) (runL_len hr ks _)
   ·rename_i h2
    rw [if_neg h2]
    exact hl.2 h0
  ·rename_i h0; exact absurd (congrArg Prod.snd h) h0
def OS (B : Nat) (w : World) (v : Value) (l : List (Int × Int)) : Prop := w.ownsRow B 48 2 v l.length (flatS l)
theorem OS.only {B SB : Nat} {w w' : World} {v : Value} {l : List (Int × Int)} (h : OS B w v l) (hc : Only SB w w') (hs : SB < B) : OS B w' v l :=
 own_chgz h hc (fun g hg e => by have := (h.lt g hg).1; omega)
theorem OS.below {B : Nat} {w w' : World} {v : Value} {l : List (Int × Int)} (h : OS B w v l) (hb : Below w.heap.size w w') : OS B w' v l := by
 refine ⟨h.1, ?_⟩
 rcases h.2 with h0 | ⟨g, cap, cur, rfl, h1, h2, h3⟩
 ·exact .inl h0
 ·exact .inr ⟨g, cap, cur, rfl, h1, (hb.block g (lt_of_heap h2)).trans h2, h3⟩
theorem FS.vsB {B : Nat} {w : World} {v : Value} {l : List (Int × Int)} (h : FS B w v l) : VS (fun b => B ≤ b) w v l := by
 obtain ⟨b, h1, h2⟩ := h; exact h1.vs h2
theorem OS.vs {B : Nat} {w : World} {v : Value} {l : List (Int × Int)} (h : OS B w v l) : VS (fun b => B ≤ b) w v l := (own_FS h).vsB
theorem gets_set {l : List (Int × Int)} {k j : Nat} {x : Int × Int} (h : j < l.length) : gets (l.set k x) j = if k = j then x else gets l j := by
 rw [gets_eq (by simpa using h), List.getElem_set, gets_eq h]
/-- A step may be written anew. -/
theorem OS.put {B k : Nat} {w : World} {a : Option Addr} {n c : Nat} {l : List (Int × Int)} (h : OS B w (.slice a n c) l) (hk : k < l.length) :
  ∃ g, a = some ⟨g, 0, none⟩ ∧ B ≤ g ∧ g < w.heap.size ∧ (∃ u, w.cell? ⟨g, k * 2, none⟩ = some u) ∧ (∃ u, w.cell? ⟨g, k * 2 + 1, none⟩ = some u) ∧ (∀ o, w.frozen? ⟨g, o, none⟩ = false) ∧
    ∀ x y : Int, VS (fun b => B ≤ b) ((w.setCell ⟨g, k * 2, none⟩ (.int .i64 x)).setCell ⟨g, k * 2 + 1, none⟩ (.int .i64 y)) (.slice a n c) (l.set k (x, y)) := by
 rcases h.2 with ⟨hv, h0⟩ | ⟨g, cap, cur, hv, h1, h2, h3, h4, h5, h6⟩
 ·omega
 ·simp only [Value.slice.injEq] at hv
  obtain ⟨rfl, rfl, rfl⟩ := hv
  have hcur : ∀ j, j < l.length → cur[j * 2]? = some (.int .i64 (gets l j).1) ∧ cur[j * 2 + 1]? = some (.int .i64 (gets l j).2) := fun j hj => by
   have h7 := flatS_get hj
   rw [← h6, List.getElem?_take, List.getElem?_take, if_pos (by omega), if_pos (by omega), Array.getElem?_toList, Array.getElem?_toList] at h7
   exact h7
  have hsz : ∀ j, j < l.length → j * 2 + 1 < cur.size := fun j hj => (Array.getElem?_eq_some_iff.1 (hcur j hj).2).1
  refine ⟨g, rfl, h1, lt_of_heap h2, ⟨_, by rw [cell_of_block h2]; exact (hcur k hk).1⟩, ⟨_, by rw [cell_of_block h2]; exact (hcur k hk).2⟩, fun o => frozen_of_block h2 o, fun x y => ?_⟩
  have hh : ((w.setCell ⟨g, k * 2, none⟩ (.int .i64 x)).setCell ⟨g, k * 2 + 1, none⟩ (.int .i64 y)).heap[g]? = some (.cells ((cur.setIfInBounds (k * 2) (.int .i64 x)).setIfInBounds (k * 2 + 1) (.int .i64 y)) 48 (0, 0)) := by
   rw [heap_setCell_self (heap_setCell_self h2 _)]
  refine ⟨_, c, by rw [List.length_set], by rw [List.length_set]; exact h3, h4, fun j hj => ?_⟩
  rw [List.length_set] at hj
  have hs := hsz j hj
  refine ⟨g, 0, rfl, h1, ?_, ?_⟩
  ·rw [cell_of_block hh, Nat.zero_add, gets_set hj, Array.getElem?_setIfInBounds, if_neg (by omega), Array.getElem?_setIfInBounds]
   by_cases hkj : k = j
   ·subst hkj; rw [if_pos rfl, if_pos (by omega), if_pos rfl]
   ·rw [if_neg (by omega), if_neg hkj]; exact (hcur j hj).1
  ·rw [cell_of_block hh, Nat.zero_add, gets_set hj, Array.getElem?_setIfInBounds]
   by_cases hkj : k = j
   ·subst hkj; rw [if_pos rfl, if_pos (by simpa using hs), if_pos rfl]
   ·rw [if_neg (by omega), if_neg hkj, Array.getElem?_setIfInBounds, if_neg (by omega)]; exact (hcur j hj).2
theorem VS.take {S : Nat → Prop} {w : World} {a : Option Addr} {n c k : Nat} {l : List (Int × Int)} (h : VS S w (.slice a n c) l) (hk : k ≤ l.length) : VS S w (.slice a k c) (l.take k) := by
 obtain ⟨a', c', e, h1, h2, h3⟩ := h
 simp only [Value.slice.injEq] at e
 obtain ⟨rfl, rfl, rfl⟩ := e
 refine ⟨_, c, by rw [List.length_take, Nat.min_eq_left hk], by rw [List.length_take]; omega, h2, fun j hj => ?_⟩
 rw [List.length_take] at hj
 have e : gets (l.take k) j = gets l j := by
  unfold gets
  rw [List.getD_eq_getElem?_getD, List.getD_eq_getElem?_getD, List.getElem?_take, if_pos (by omega)]
 rw [e]
 exact h3 j (by omega)
theorem OS.lit (w : World) (B : Nat) (hB : B ≤ w.heap.size) : OS B (w.alloc (.cells #[.int .i64 (-1), .int .i64 0, .int .i64 0, .int .i64 1] 48)) (.slice (some ⟨w.heap.size, 0, none⟩) 2 2) [(-1, 0), (0, 1)] :=
 ⟨rfl, .inr ⟨w.heap.size, 2, _, rfl, hB, heap_alloc_self _ _, Nat.le_refl _, by unfold maxLen; decide, rfl, rfl⟩⟩
end Go.Proofs.YtbekpololmahoaaGreatDoor
