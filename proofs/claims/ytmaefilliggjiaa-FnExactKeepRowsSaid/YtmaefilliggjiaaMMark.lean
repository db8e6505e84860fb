/- The laws' marks: what they write into memory that is a call's own, and what is found there afterwards. No conditions. -/
import Derived.Test.YtmaefilliggjiaaMFault3
import Derived.Test.YtmaefilliggjiaaMCopy
import Derived.Test.YtmaefilliggjiaaMParts
import Derived.Test.YtmaefilliggjiaaKeepW
namespace Go.Proofs.Ytmaefilliggjiaa
open Go.RowKit
set_option linter.unusedVariables false
set_option linter.unusedSimpArgs false
def marks (n : Nat) (k : Int) : List Int := (List.range n).map fun i => k + (i : Nat)
theorem marks_len (n : Nat) (k : Int) : (marks n k).length = n := by simp [marks]
theorem marks_get {n : Nat} {k : Int} {i : Nat} (h : i < n) : geti (marks n k) i = k + i := by simp [geti, marks, h]
theorem marks_nil {n : Nat} {k : Int} : marks n k ≠ [] ↔ n ≠ 0 := by
 rw [Ne, ← List.length_eq_zero_iff, marks_len]
def totTo (ls : List (List Int)) : Nat → Nat
 | 0 => 0
 | j + 1 => totTo ls j + (getl ls j).length
def rowsM (ls : List (List Int)) (k : Int) (j : Nat) : List (List Int) := (List.range ls.length).map fun i => if i < j then marks (getl ls i).length (k + totTo ls i) else getl ls i
def marks2 (ls : List (List Int)) (k : Int) : List (List Int) := rowsM ls k ls.length
theorem rowsM_len (ls : List (List Int)) (k : Int) (j : Nat) : (rowsM ls k j).length = ls.length := by simp [rowsM]
theorem rowsM_get {ls : List (List Int)} {k : Int} {j i : Nat} (h : i < ls.length) : getl (rowsM ls k j) i = if i < j then marks (getl ls i).length (k + totTo ls i) else getl ls i := by simp [getl, rowsM, h]
theorem rowsM_nil {ls : List (List Int)} {k : Int} {j i : Nat} (h : i < ls.length) : getl (rowsM ls k j) i ≠ [] ↔ getl ls i ≠ [] := by
 rw [rowsM_get h]
 split
 ·rw [marks_nil, Ne, Ne, List.length_eq_zero_iff]
 ·rfl
theorem rowsM_0 (ls : List (List Int)) (k : Int) : rowsM ls k 0 = ls := by
 apply List.ext_getElem (by simp [rowsM])
 intro i h1 h2
 simp [rowsM, getl, h2]
theorem totTo_le {ls : List (List Int)} {n : Nat} (h : ∀ i, i < ls.length → (getl ls i).length ≤ n) : ∀ j, j ≤ ls.length → totTo ls j ≤ j * n
 | 0, _ => by simp [totTo]
 | j + 1, hj => by
   unfold totTo
   have := totTo_le h j (by omega)
   have := h j (by omega)
   rw [Nat.succ_mul]
   omega
theorem rows_ne {ls : List (List Int)} {k : Nat} (h : k < ls.length) : ls ≠ [] := by intro e; subst e; simp at h
theorem markInt64S_any (F : Nat → Prop) (v : Value) (l : List Int) (b : Nat) (k : Int) (W : World) (h : X1 W v l b) (hF : l ≠ [] → F b) (hk : 0 ≤ k) (hk2 : k + l.length ≤ 1152921504606846976) :
  Calls Try.prog 16 #[v, .int .i64 k] W fun e' w' => e' = .returned (.int .i64 (k + l.length)) ∧ X1 w' v (marks l.length k) b ∧ Chg F W w' := by
 obtain ⟨a, c, rfl, h1, h2, hX⟩ := h
 unfold maxLen at h2
 by_cases hn : l = []
 ·subst hn
  go_enter Try.func16, Try.ntmps16
  go_wp2_with fail
  go_loopw [1, 5] (fun q i wr => i = .int .i64 0 ∧ q = .int .i64 k ∧ wr = W) (fun _ i _ => 0)
  case atStart => exact ⟨rfl, rfl, rfl⟩
  case round =>
   obtain ⟨rfl, rfl, rfl⟩ := hrel
   go_wp2_with fail
   go_ret
   exact ⟨by simp, ⟨a, c, rfl, h1, by unfold maxLen; exact h2, fun hn => absurd rfl hn⟩, Chg.refl _ _⟩
 ·obtain ⟨off, cs0, e0, rfl, hh0, hc0⟩ := hX hn
  have HFb := Lib.hid (hF hn); clear hF
  have Hhc := Lib.hid (And.intro hh0 hc0); clear hh0 hc0
  have hX0 := Lib.hid hX; clear hX
  have Hn := Lib.hid hn; clear hn
  go_enter Try.func16, Try.ntmps16
  go_wp2_with fail
  go_loopw [1, 5] (fun q i wr => ∃ (j : Nat) (cs : Array Value), j ≤ l.length ∧ i = .int .i64 j ∧ q = .int .i64 (k + j) ∧ wr.heap[b]? = some (.cells cs e0 (0, 0)) ∧ (∀ m, m < l.length → cs[off + m]? = some (.int .i64 (if m < j then k + m else geti l m))) ∧ Chg F W wr) (fun _ i _ => l.length - (intOf i).toNat)
  case atStart => exact ⟨0, cs0, Nat.zero_le _, rfl, by simp, Hhc.out.1, fun m hm => by rw [if_neg (by omega)]; exact Hhc.out.2 m hm, Chg.refl _ _⟩
  case round =>
   obtain ⟨j, cs, hj, rfl, rfl, hh, hcs, hB⟩ := hrel
   by_cases hjj : j < l.length
   ·have hco : wr.cell? ⟨b, off + j, none⟩ = some (.int .i64 (geti l j)) := by rw [cell_of_block hh, hcs j hjj, if_neg (by omega)]
    have hfo := frozen_of_block hh (off + j)
    have hsz : off + j < cs.size := (Array.getElem?_eq_some_iff.1 (hcs j hjj)).1
    have Hsz := Lib.hid hsz; clear hsz
    have Hh := Lib.hid hh; clear hh
    have Hcs := Lib.hid hcs; clear hcs
    have hw : wrap64 (k + j + 1) = k + j + 1 := IntWalk.wrap64_in _ (by omega)
    go_wp2_with fail
    go_roundw
    case rel =>
     refine ⟨j + 1, cs.setIfInBounds (off + j) (.int .i64 (k + j)), by omega, by go_num, by congr 1; omega, heap_setCell_self Hh.out _, fun m hm => ?_, hB.setCell (.inl HFb.out) _⟩
     rw [Array.getElem?_setIfInBounds]
     by_cases e : m = j
     ·subst e
      rw [if_pos rfl, if_pos Hsz.out, if_pos (by omega)]
     ·rw [if_neg (by omega), Hcs.out m hm]
      by_cases hmj : m < j
      ·rw [if_pos hmj, if_pos (by omega)]
      ·rw [if_neg hmj, if_neg (by omega)]
    case measure => simp [intOf]; omega
   ·obtain rfl : j = l.length := by omega
    have Hh := Lib.hid hh; clear hh
    have Hcs := Lib.hid hcs; clear hcs
    go_wp2_with fail
    go_ret
    refine ⟨rfl, ⟨some ⟨b, off, none⟩, c, by rw [marks_len], by rw [marks_len]; exact h1, by unfold maxLen; exact h2, fun _ => ⟨off, cs, e0, rfl, Hh.out, fun m hm => ?_⟩⟩, hB⟩
    rw [marks_len] at hm
    rw [Hcs.out m hm, if_pos hm, marks_get hm]
theorem heldInt64S_any {S : Nat → Prop} (v : Value) (n : Nat) (k : Int) (W : World) (h : V1 S W v (marks n k)) (hk : 0 ≤ k) (hk2 : k + n ≤ 1152921504606846976) :
  Calls Try.prog 30 #[v, .int .i64 k] W fun e' w' => e' = .returned (.int .i64 (k + n)) ∧ W = w' := by
 have hV := h
 obtain ⟨a, c, rfl, hm⟩ := h.form
 have hl := marks_len n k
 rw [hl] at hm ⊢
 go_enter Try.func30, Try.ntmps30
 go_wp2_with fail
 go_loop [1, 5] (fun q i => ∃ j : Nat, j ≤ n ∧ i = .int .i64 j ∧ q = .int .i64 (k + j)) (fun _ i => n - (intOf i).toNat)
 case atStart => exact ⟨0, Nat.zero_le _, rfl, by simp⟩
 case round =>
  obtain ⟨j, hj, rfl, rfl⟩ := hrel
  by_cases hjj : j < n
  ·obtain ⟨b1, off1, rfl, _, hc1⟩ := hV.cell (show j < (marks n k).length by omega)
   rw [marks_get hjj] at hc1
   have hw : wrap64 (k + j + 1) = k + j + 1 := IntWalk.wrap64_in _ (by omega)
   have e1 : (k + (j : Int) != k + (j : Int)) = false := by simp
   go_wp2_with fail
   go_round
   case rel => exact ⟨j + 1, by omega, by go_num, by congr 1; omega⟩
   case measure => simp [intOf]; omega
  ·obtain rfl : j = n := by omega
   go_wp2_with fail
   go_ret
   exact ⟨rfl, rfl⟩
theorem markInt64SS_any (F : Nat → Prop) (v : Value) (ls : List (List Int)) (ob : Nat) (bk : Nat → Nat) (k : Int) (W : World) (h : X2 W v ls ob bk) (hF : ∀ j, j < ls.length → getl ls j ≠ [] → F (bk j)) (hk : 0 ≤ k)
  (hk2 : ∀ j, j ≤ ls.length → k + totTo ls j ≤ 1152921504606846976) :
  Calls Try.prog 15 #[v, .int .i64 k] W fun e' w' => e' = .returned (.int .i64 (k + totTo ls ls.length)) ∧ X2 w' v (marks2 ls k) ob bk ∧ Chg F W w' := by
 have hX := h
 obtain ⟨a, c, rfl, h1, h2, _⟩ := h
 unfold maxLen at h2
 have HF := Lib.hid hF; clear hF
 have Hk2 := Lib.hid hk2; clear hk2
 go_enter Try.func15, Try.ntmps15
 go_wp2_with fail
 go_loopw [1, 5] (fun q i wr => ∃ j : Nat, j ≤ ls.length ∧ i = .int .i64 j ∧ q = .int .i64 (k + totTo ls j) ∧ X2 wr (.slice a ls.length c) (rowsM ls k j) ob bk ∧ Chg F W wr) (fun _ i _ => ls.length - (intOf i).toNat)
 case atStart => exact ⟨0, Nat.zero_le _, rfl, by simp [totTo], by rw [rowsM_0]; exact hX, Chg.refl _ _⟩
 case round =>
  obtain ⟨j, hj, rfl, rfl, hR, hB⟩ := hrel
  by_cases hjj : j < ls.length
  ·have hjR : j < (rowsM ls k j).length := by rw [rowsM_len]; exact hjj
   have hR' := hR
   obtain ⟨a', c', ea, _, _, hcells, hd⟩ := hR'
   rw [rowsM_len] at ea hd hcells
   obtain ⟨off, cs, e, ea2, hh, hc⟩ := hcells (rows_ne hjR)
   injection ea with ea1 _ ea3
   subst ea1 ea3
   obtain ⟨rv, hcj, hxj⟩ := hc j hjj
   rw [rowsM_get hjj, if_neg (by omega)] at hxj
   have hxj' := hxj
   obtain ⟨ar, cr, rfl, _⟩ := hxj'
   have hc1 : wr.cell? ⟨ob, off + j, none⟩ = some (.slice ar (getl ls j).length cr) := by rw [cell_of_block hh]; exact hcj
   subst ea2
   have hd' := Lib.hid hd; clear hd
   have Hcj := Lib.hid hcj
   have Hh := Lib.hid (And.intro hh hc); clear hh hc hcj hcells
   have HR := Lib.hid hR; clear hR
   have hb1 := Hk2.out (j + 1) (by omega)
   unfold totTo at hb1
   rw [Int.natCast_add] at hb1
   have hst : k + (totTo ls j : Int) + ((getl ls j).length : Int) = k + (totTo ls (j + 1) : Int) := by rw [totTo]; omega
   go_wp2_with fail
   refine (markInt64S_any (fun x => getl ls j ≠ [] ∧ x = bk j) _ _ (bk j) _ _ hxj (fun hn => ⟨hn, rfl⟩) (by omega) (by omega)).mono ?_
   rintro e' w2 ⟨rfl, hx2, hb2⟩
   rw [hst]
   have Hx2 := Lib.hid hx2; clear hx2
   go_wp2_with fail
   go_roundw
   case rel =>
    have hlt := (HR.out.lt (rows_ne hjR)).2
    rw [rowsM_len] at hlt
    refine ⟨j + 1, by omega, by go_num, rfl, ⟨some ⟨ob, off, none⟩, c, by rw [rowsM_len], by rw [rowsM_len]; exact h1, by unfold maxLen; exact h2, fun _ => ⟨off, cs, e, rfl, ?_, fun m hm => ?_⟩, fun m hm hne => ?_⟩, hB.trans hb2 (fun i ⟨hi1, hi2⟩ => by subst hi2; exact .inl (HF.out j hjj hi1))⟩
    ·rw [hb2.block ob (lt_of_heap Hh.out.1) (fun ⟨hi1, hi2⟩ => (hd'.out j hjj ((rowsM_nil hjj).2 hi1)).1 hi2.symm)]
     exact Hh.out.1
    ·rw [rowsM_len] at hm
     by_cases hmj : m = j
     ·subst hmj
      refine ⟨_, ?_, by rw [rowsM_get hm, if_pos (by omega)]; exact Hx2.out⟩
      exact Hcj.out
     ·obtain ⟨rv, hcm, hxm⟩ := Hh.out.2 m hm
      refine ⟨rv, hcm, ?_⟩
      have hrow : getl (rowsM ls k (j + 1)) m = getl (rowsM ls k j) m := by
       rw [rowsM_get hm, rowsM_get hm]
       by_cases hlt : m < j
       ·rw [if_pos hlt, if_pos (by omega)]
       ·rw [if_neg hlt, if_neg (by omega)]
      rw [hrow]
      refine hxm.keep fun hne => hb2.block _ (hlt m hm hne) (fun ⟨hi1, hi2⟩ => ?_)
      exact (hd'.out j hjj ((rowsM_nil hjj).2 hi1)).2 m hm hmj hne hi2
    ·rw [rowsM_len] at hm ⊢
     obtain ⟨g1, g2⟩ := hd'.out m hm ((rowsM_nil hm).2 ((rowsM_nil hm).1 hne))
     exact ⟨g1, fun i hi hne' hx => g2 i hi hne' ((rowsM_nil hi).2 ((rowsM_nil hi).1 hx))⟩
   case measure => simp [intOf]; omega
  ·obtain rfl : j = ls.length := by omega
   have HR := Lib.hid hR; clear hR
   go_wp2_with fail
   go_ret
   exact ⟨rfl, HR.out, hB⟩
theorem heldInt64SS_any {S : Nat → Prop} (v : Value) (ls : List (List Int)) (k : Int) (W : World) (h : V2 S W v (marks2 ls k)) (hk : 0 ≤ k) (hk2 : ∀ j, j ≤ ls.length → k + totTo ls j ≤ 1152921504606846976) :
  Calls Try.prog 18 #[v, .int .i64 k] W fun e' w' => e' = .returned (.int .i64 (k + totTo ls ls.length)) ∧ W = w' := by
 have hV := h
 have hl : (marks2 ls k).length = ls.length := rowsM_len _ _ _
 obtain ⟨a, c, rfl, hm⟩ := h.form
 rw [hl] at hm ⊢
 have Hk2 := Lib.hid hk2; clear hk2
 go_enter Try.func18, Try.ntmps18
 go_wp2_with fail
 go_loop [1, 5] (fun q i => ∃ j : Nat, j ≤ ls.length ∧ i = .int .i64 j ∧ q = .int .i64 (k + totTo ls j)) (fun _ i => ls.length - (intOf i).toNat)
 case atStart => exact ⟨0, Nat.zero_le _, rfl, by simp [totTo]⟩
 case round =>
  obtain ⟨j, hj, rfl, rfl⟩ := hrel
  by_cases hjj : j < ls.length
  ·obtain ⟨b1, off1, a1, c1, rfl, _, hc1, hr1⟩ := hV.cell (show j < (marks2 ls k).length by omega)
   rw [show getl (marks2 ls k) j = marks (getl ls j).length (k + totTo ls j) by rw [marks2, rowsM_get hjj, if_pos hjj]] at hr1 hc1
   rw [marks_len] at hr1 hc1
   have hb1 := Hk2.out (j + 1) (by omega)
   unfold totTo at hb1
   rw [Int.natCast_add] at hb1
   have hst : k + (totTo ls j : Int) + ((getl ls j).length : Int) = k + (totTo ls (j + 1) : Int) := by rw [totTo]; omega
   have hp : 0 ≤ k + (totTo ls (j + 1) : Int) := by omega
   go_wp2_with fail
   refine (heldInt64S_any _ _ _ _ hr1 (by omega) (by omega)).mono ?_
   rintro e' w2 ⟨rfl, rfl⟩
   rw [hst]
   go_wp2_with fail
   go_round
   case rel => exact ⟨j + 1, by omega, by go_num, rfl⟩
   case measure => simp [intOf]; omega
  ·obtain rfl : j = ls.length := by omega
   go_wp2_with fail
   go_ret
   exact ⟨rfl, rfl⟩
theorem markSystem_any (F : Nat → Prop) (m : Mk) (u : Value) (t : List (List Int)) (ob : Nat) (bk : Nat → Nat) (k : Int) (W : World) (h : X2 W u t ob bk) (hF : ∀ j, j < t.length → getl t j ≠ [] → F (bk j)) (hk : 0 ≤ k)
  (hk2 : ∀ j, j ≤ t.length → k + totTo t j ≤ 1152921504606846976) :
  Calls Try.prog 14 #[.agg #[.int .i64 m.c, .int .i64 m.d, .int .i64 m.s, .int .i64 m.e, .int .i64 m.l, u], .int .i64 k] W fun e' w' => e' = .returned (.int .i64 (k + totTo t t.length)) ∧ X2 w' u (marks2 t k) ob bk ∧ Chg F W w' := by
 have hX := h
 obtain ⟨a, c, rfl, _⟩ := h
 obtain ⟨W1, hW1, hB01, hz01, HZ01, hc01, hh01⟩ := box_facts W #[.int .i64 m.c, .int .i64 m.d, .int .i64 m.s, .int .i64 m.e, .int .i64 m.l, .slice a t.length c] 32
 have hX1 : X2 W1 (.slice a t.length c) t ob bk := hX.keep (fun hn => hB01.block _ (hX.lt hn).1) (fun j hj hne => hB01.block _ ((hX.lt (rows_ne hj)).2 j hj hne))
 go_enter Try.func14, Try.ntmps14
 go_wp2_with fail
 rw [← hW1]
 have HW1 := Lib.hid hW1; clear hW1
 go_wp2_with fail
 refine (markInt64SS_any F _ t ob bk k _ hX1 hF hk hk2).mono ?_
 rintro e' w2 ⟨rfl, hx2, hb2⟩
 have Hx2 := Lib.hid hx2; clear hx2
 clear hc01 hh01
 go_wp2_with fail
 go_ret
 exact ⟨rfl, Hx2.out, (Chg.of_below hB01).trans hb2 (fun i hi => .inl hi)⟩
theorem heldSystem_any {S : Nat → Prop} (m : Mk) (u : Value) (t : List (List Int)) (k : Int) (W : World) (h : V2 S W u (marks2 t k)) (hk : 0 ≤ k) (hk2 : ∀ j, j ≤ t.length → k + totTo t j ≤ 1152921504606846976) :
  Calls Try.prog 17 #[.agg #[.int .i64 m.c, .int .i64 m.d, .int .i64 m.s, .int .i64 m.e, .int .i64 m.l, u], .int .i64 k] W fun e' w' => e' = .returned (.int .i64 (k + totTo t t.length)) ∧ Below W.heap.size W w' := by
 have hV := h
 obtain ⟨a, c, rfl, _⟩ := h.form
 have hp : 0 ≤ k + (totTo t t.length : Int) := by omega
 obtain ⟨W1, hW1, hB01, hz01, HZ01, hc01, hh01⟩ := box_facts W #[.int .i64 m.c, .int .i64 m.d, .int .i64 m.s, .int .i64 m.e, .int .i64 m.l, .slice a (marks2 t k).length c] 32
 have hV1 := hV.below hB01
 go_enter Try.func17, Try.ntmps17
 go_wp2_with fail
 rw [← hW1]
 have HW1 := Lib.hid hW1; clear hW1
 go_wp2_with fail
 refine (heldInt64SS_any _ t k _ hV1 hk hk2).mono ?_
 rintro e' w2 ⟨rfl, rfl⟩
 clear hc01 hh01
 go_wp2_with fail
 go_ret
 exact ⟨rfl, hB01⟩
def Rg (lo hi : Nat) : Nat → Prop := fun b => lo ≤ b ∧ b < hi
def XR1 (lo hi : Nat) (w : World) (v : Value) (l : List Int) : Prop := ∃ b, X1 w v l b ∧ (l ≠ [] → lo ≤ b ∧ b < hi)
def XR2 (lo hi : Nat) (w : World) (v : Value) (ls : List (List Int)) : Prop :=
 ∃ ob bk, X2 w v ls ob bk ∧ (ls ≠ [] → lo ≤ ob ∧ ob < hi) ∧ ∀ k, k < ls.length → getl ls k ≠ [] → lo ≤ bk k ∧ bk k < hi
section
variable {lo hi lo' hi' s B : Nat} {w w' : World} {v : Value} {l : List Int} {ls : List (List Int)}
theorem XR2.of_F2 (h : F2 B w v ls) : XR2 B w.heap.size w v ls := by
 obtain ⟨ob, bk, h1, h2, h3⟩ := h
 exact ⟨ob, bk, h1, fun hn => ⟨h2 hn, (h1.lt hn).1⟩, fun k hk hn => ⟨h3 k hk hn, (h1.lt (rows_ne hk)).2 k hk hn⟩⟩
theorem XR2.of_copy {bk : Nat → Nat} (h : X2 w v ls B bk) (h1 : ∀ k, k < ls.length → B < bk k) : XR2 B w.heap.size w v ls :=
 ⟨B, bk, h, fun hn => ⟨Nat.le_refl _, (h.lt hn).1⟩, fun k hk hn => ⟨by have := h1 k hk; omega, (h.lt (rows_ne hk)).2 k hk hn⟩⟩
theorem XR1.of_copy (h : X1 w v l B) : XR1 B w.heap.size w v l := ⟨B, h, fun hn => ⟨Nat.le_refl _, h.lt hn⟩⟩
theorem XR1.below (h : XR1 lo hi w v l) (hb : Below w.heap.size w w') : XR1 lo hi w' v l := by
 obtain ⟨b, h1, h2⟩ := h
 exact ⟨b, h1.keep (fun hn => hb.block _ (h1.lt hn)), h2⟩
theorem XR2.below (h : XR2 lo hi w v ls) (hb : Below w.heap.size w w') : XR2 lo hi w' v ls := by
 obtain ⟨ob, bk, h1, h2, h3⟩ := h
 exact ⟨ob, bk, h1.keep (fun hn => hb.block _ (h1.lt hn).1) (fun k hk hn => hb.block _ ((h1.lt (rows_ne hk)).2 k hk hn)), h2, h3⟩
theorem XR1.chg (h : XR1 lo hi w v l) (hc : Chg (Rg lo' hi') w w') (hd : hi ≤ lo' ∨ hi' ≤ lo) : XR1 lo hi w' v l := by
 obtain ⟨b, h1, h2⟩ := h
 exact ⟨b, h1.keep (fun hn => hc.block _ (h1.lt hn) (fun hf => by have := h2 hn; obtain ⟨g1, g2⟩ := hf; omega)), h2⟩
theorem XR2.chg (h : XR2 lo hi w v ls) (hc : Chg (Rg lo' hi') w w') (hd : hi ≤ lo' ∨ hi' ≤ lo) : XR2 lo hi w' v ls := by
 obtain ⟨ob, bk, h1, h2, h3⟩ := h
 exact ⟨ob, bk, h1.keep (fun hn => hc.block _ (h1.lt hn).1 (fun hf => by have := h2 hn; obtain ⟨g1, g2⟩ := hf; omega)) (fun k hk hn => hc.block _ ((h1.lt (rows_ne hk)).2 k hk hn) (fun hf => by have := h3 k hk hn; obtain ⟨g1, g2⟩ := hf; omega)), h2, h3⟩
theorem Chg.belowR (h : Chg (Rg lo hi) w w') {w0 : World} (hb : Below B w0 w) (hB : B ≤ lo) (hs : B ≤ w0.heap.size) : Below B w0 w' :=
 hb.trans (h.to_below (fun i hi => by obtain ⟨g1, g2⟩ := hi; omega) (by have := hb.size; omega))
theorem XR1.v1 (h : XR1 lo hi w v l) : V1 (fun _ => True) w v l := by
 obtain ⟨b, h1, _⟩ := h; exact h1.v1 (fun _ => trivial)
theorem XR2.v2 (h : XR2 lo hi w v ls) : V2 (fun _ => True) w v ls := by
 obtain ⟨ob, bk, h1, _⟩ := h; exact h1.v2 (fun _ => trivial) (fun _ _ _ => trivial)
theorem XR1.form (h : XR1 lo hi w v l) : ∃ a c, v = .slice a l.length c := by
 obtain ⟨b, ⟨a, c, rfl, _⟩, _⟩ := h; exact ⟨a, c, rfl⟩
theorem XR2.form (h : XR2 lo hi w v ls) : ∃ a c, v = .slice a ls.length c := by
 obtain ⟨ob, bk, ⟨a, c, rfl, _⟩, _⟩ := h; exact ⟨a, c, rfl⟩
theorem F1.any (h : F1 B w v l) : V1 (fun _ => True) w v l := h.v1.any
theorem F2.any (h : F2 B w v ls) : V2 (fun _ => True) w v ls := h.v2.any
end
theorem markInt64S_r (lo hi : Nat) (v : Value) (l : List Int) (k : Int) (W : World) (h : XR1 lo hi W v l) (hk : 0 ≤ k) (hk2 : k + l.length ≤ 1152921504606846976) :
  Calls Try.prog 16 #[v, .int .i64 k] W fun e' w' => e' = .returned (.int .i64 (k + l.length)) ∧ XR1 lo hi w' v (marks l.length k) ∧ Chg (Rg lo hi) W w' := by
 obtain ⟨b, h1, h2⟩ := h
 refine (markInt64S_any (Rg lo hi) v l b k W h1 h2 hk hk2).mono ?_
 rintro e' w' ⟨rfl, h3, h4⟩
 exact ⟨rfl, ⟨b, h3, fun hn => h2 (by intro e; subst e; exact hn rfl)⟩, h4⟩
theorem marks2_len (ls : List (List Int)) (k : Int) : (marks2 ls k).length = ls.length := rowsM_len _ _ _
theorem markInt64SS_r (lo hi : Nat) (v : Value) (ls : List (List Int)) (k : Int) (W : World) (h : XR2 lo hi W v ls) (hk : 0 ≤ k) (hk2 : ∀ j, j ≤ ls.length → k + totTo ls j ≤ 1152921504606846976) :
  Calls Try.prog 15 #[v, .int .i64 k] W fun e' w' => e' = .returned (.int .i64 (k + totTo ls ls.length)) ∧ XR2 lo hi w' v (marks2 ls k) ∧ Chg (Rg lo hi) W w' := by
 obtain ⟨ob, bk, h1, h2, h3⟩ := h
 refine (markInt64SS_any (Rg lo hi) v ls ob bk k W h1 h3 hk hk2).mono ?_
 rintro e' w' ⟨rfl, h4, h5⟩
 refine ⟨rfl, ⟨ob, bk, h4, fun hn => h2 (fun e => by subst e; exact hn rfl), fun j hj hn => ?_⟩, h5⟩
 rw [marks2_len] at hj
 exact h3 j hj ((rowsM_nil hj).1 hn)
theorem markSystem_r (lo hi : Nat) (m : Mk) (u : Value) (t : List (List Int)) (k : Int) (W : World) (h : XR2 lo hi W u t) (hk : 0 ≤ k) (hk2 : ∀ j, j ≤ t.length → k + totTo t j ≤ 1152921504606846976) (hw : hi ≤ W.heap.size) :
  Calls Try.prog 14 #[.agg #[.int .i64 m.c, .int .i64 m.d, .int .i64 m.s, .int .i64 m.e, .int .i64 m.l, u], .int .i64 k] W fun e' w' => e' = .returned (.int .i64 (k + totTo t t.length)) ∧ XR2 lo hi w' u (marks2 t k) ∧ Chg (Rg lo hi) W w' := by
 obtain ⟨ob, bk, h1, h2, h3⟩ := h
 refine (markSystem_any (Rg lo hi) m u t ob bk k W h1 h3 hk hk2).mono ?_
 rintro e' w' ⟨rfl, h4, h5⟩
 refine ⟨rfl, ⟨ob, bk, h4, fun hn => h2 (fun e => by subst e; exact hn rfl), fun j hj hn => ?_⟩, h5⟩
 rw [marks2_len] at hj
 exact h3 j hj ((rowsM_nil hj).1 hn)
theorem totSmall {ls : List (List Int)} (h1 : ls.length ≤ 1048576) (h : ∀ r ∈ ls, r.length ≤ 1048576) : ∀ j, j ≤ ls.length → totTo ls j ≤ 1099511627776 := fun j hj => by
 have := totTo_le (n := 1048576) (fun i hi => h _ (getl_mem hi)) j hj
 have : j * 1048576 ≤ 1048576 * 1048576 := Nat.mul_le_mul_right _ (by omega)
 omega
theorem own_X2 {B : Nat} {w : World} {v : Value} {ls : List (List Int)} {vs : List Value} {bk : Nat → Nat} (h1 : w.ownsRow B 27 1 v ls.length vs) (h2 : ∀ k, k < ls.length → ∃ rv, vs[k]? = some rv ∧ X1 w rv (getl ls k) (bk k))
  (h3 : ∀ k, k < ls.length → getl ls k ≠ [] → v.ownBlock ≠ some (bk k) ∧ ∀ j, j < ls.length → j ≠ k → getl ls j ≠ [] → bk j ≠ bk k) : ∃ ob, X2 w v ls ob bk ∧ (ls ≠ [] → v.ownBlock = some ob ∧ B ≤ ob) := by
 have hvl := h1.1
 rcases h1.2 with ⟨rfl, h0⟩ | ⟨g, cap, cur, rfl, hb, hh, hc, hm, hs, ht⟩
 ·refine ⟨0, ⟨none, 0, by rw [h0], by omega, Nat.zero_le _, fun hn => absurd (List.eq_nil_of_length_eq_zero h0) hn, fun k hk => by omega⟩, fun hn => absurd (List.eq_nil_of_length_eq_zero h0) hn⟩
 ·refine ⟨g, ⟨_, cap, rfl, hc, hm, fun _ => ⟨0, cur, _, rfl, hh, fun k hk => ?_⟩, fun k hk hn => ?_⟩, fun _ => ⟨rfl, hb⟩⟩
  ·obtain ⟨rv, h4, h5⟩ := h2 k hk
   refine ⟨rv, ?_, h5⟩
   have h6 : (cur.toList.take (ls.length * 1))[k]? = vs[k]? := by rw [ht]
   rw [List.getElem?_take, if_pos (by omega), h4] at h6
   rw [Nat.zero_add, ← Array.getElem?_toList, h6]
  ·obtain ⟨h5, h6⟩ := h3 k hk hn
   exact ⟨fun e => h5 (by rw [e]; rfl), h6⟩
def XP (lo hi : Nat) (w : World) (u v : Value) (T C : List (List Int)) : Prop :=
 ∃ o1 b1 o2 b2, X2 w u T o1 b1 ∧ X2 w v C o2 b2 ∧ ((T ≠ [] → lo ≤ o1 ∧ o1 < hi) ∧ (C ≠ [] → lo ≤ o2 ∧ o2 < hi) ∧ (∀ k, k < T.length → getl T k ≠ [] → lo ≤ b1 k ∧ b1 k < hi) ∧ (∀ k, k < C.length → getl C k ≠ [] → lo ≤ b2 k ∧ b2 k < hi)) ∧
   (∀ k, k < T.length → getl T k ≠ [] → C ≠ [] → b1 k ≠ o2) ∧ (∀ k, k < C.length → getl C k ≠ [] → T ≠ [] → b2 k ≠ o1) ∧ ∀ j k, j < T.length → k < C.length → getl T j ≠ [] → getl C k ≠ [] → b1 j ≠ b2 k
theorem XP.of_KOut {B : Nat} {w : World} {u v : Value} {T C : List (List Int)} (h : KOut B w u v T C) : XP B w.heap.size w u v T C := by
 obtain ⟨vs1, vs2, b1, b2, K, h⟩ := h
 obtain ⟨o1, hx1, ho1⟩ := own_X2 h.own1 h.each1 fun k hk hn => ⟨(h.out1 k hk hn).2.1, fun j hj hjk nj => h.dis1 j k hj hk hjk nj hn⟩
 obtain ⟨o2, hx2, ho2⟩ := own_X2 h.own2 h.each2 fun k hk hn => ⟨(h.out2 k hk hn).2.2, fun j hj hjk nj => h.dis2 j k hj hk hjk nj hn⟩
 have hbase := h.base
 exact ⟨o1, b1, o2, b2, hx1, hx2, ⟨fun hn => ⟨(ho1 hn).2, (hx1.lt hn).1⟩, fun hn => ⟨(ho2 hn).2, (hx2.lt hn).1⟩, fun k hk hn => ⟨by have := (h.out1 k hk hn).1; omega, h.lt1 hk hn⟩, fun k hk hn => ⟨by have := (h.out2 k hk hn).1; omega, h.lt2 hk hn⟩⟩,
  fun k hk hn hc e => (h.out1 k hk hn).2.2 (by rw [(ho2 hc).1, e]), fun k hk hn hc e => (h.out2 k hk hn).2.1 (by rw [(ho1 hc).1, e]), h.dis⟩
section
variable {lo hi lo' hi' : Nat} {w w' : World} {u v : Value} {T C : List (List Int)}
theorem XP.below (h : XP lo hi w u v T C) (hb : Below w.heap.size w w') : XP lo hi w' u v T C := by
 obtain ⟨o1, b1, o2, b2, h1, h2, h3⟩ := h
 exact ⟨o1, b1, o2, b2, h1.keep (fun hn => hb.block _ (h1.lt hn).1) (fun k hk hn => hb.block _ ((h1.lt (rows_ne hk)).2 k hk hn)), h2.keep (fun hn => hb.block _ (h2.lt hn).1) (fun k hk hn => hb.block _ ((h2.lt (rows_ne hk)).2 k hk hn)), h3⟩
theorem XP.chg (h : XP lo hi w u v T C) (hc : Chg (Rg lo' hi') w w') (hd : hi ≤ lo' ∨ hi' ≤ lo) : XP lo hi w' u v T C := by
 obtain ⟨o1, b1, o2, b2, h1, h2, ⟨g1, g2, g3, g4⟩, h3⟩ := h
 exact ⟨o1, b1, o2, b2,
  h1.keep (fun hn => hc.block _ (h1.lt hn).1 (fun hf => by have := g1 hn; obtain ⟨e1, e2⟩ := hf; omega)) (fun k hk hn => hc.block _ ((h1.lt (rows_ne hk)).2 k hk hn) (fun hf => by have := g3 k hk hn; obtain ⟨e1, e2⟩ := hf; omega)),
  h2.keep (fun hn => hc.block _ (h2.lt hn).1 (fun hf => by have := g2 hn; obtain ⟨e1, e2⟩ := hf; omega)) (fun k hk hn => hc.block _ ((h2.lt (rows_ne hk)).2 k hk hn) (fun hf => by have := g4 k hk hn; obtain ⟨e1, e2⟩ := hf; omega)), ⟨g1, g2, g3, g4⟩, h3⟩
theorem XP.v1 (h : XP lo hi w u v T C) : V2 (fun _ => True) w u T := by
 obtain ⟨o1, b1, o2, b2, h1, h2, _⟩ := h; exact h1.v2 (fun _ => trivial) (fun _ _ _ => trivial)
theorem XP.v2 (h : XP lo hi w u v T C) : V2 (fun _ => True) w v C := by
 obtain ⟨o1, b1, o2, b2, h1, h2, _⟩ := h; exact h2.v2 (fun _ => trivial) (fun _ _ _ => trivial)
theorem XP.form1 (h : XP lo hi w u v T C) : ∃ a c, u = .slice a T.length c := by
 obtain ⟨o1, b1, o2, b2, ⟨a, c, rfl, _⟩, _⟩ := h; exact ⟨a, c, rfl⟩
theorem XP.form2 (h : XP lo hi w u v T C) : ∃ a c, v = .slice a C.length c := by
 obtain ⟨o1, b1, o2, b2, _, ⟨a, c, rfl, _⟩, _⟩ := h; exact ⟨a, c, rfl⟩
end
theorem marks2_ne {ls : List (List Int)} {k : Int} : marks2 ls k ≠ [] ↔ ls ≠ [] := by
 rw [← List.length_pos_iff, ← List.length_pos_iff, marks2_len]
theorem markFirst_r (lo hi : Nat) (m : Mk) (u v : Value) (T C : List (List Int)) (k : Int) (W : World) (h : XP lo hi W u v T C) (hk : 0 ≤ k) (hk2 : ∀ j, j ≤ T.length → k + totTo T j ≤ 1152921504606846976) :
  Calls Try.prog 14 #[.agg #[.int .i64 m.c, .int .i64 m.d, .int .i64 m.s, .int .i64 m.e, .int .i64 m.l, u], .int .i64 k] W fun e' w' => e' = .returned (.int .i64 (k + totTo T T.length)) ∧ XP lo hi w' u v (marks2 T k) C ∧ Chg (Rg lo hi) W w' := by
 obtain ⟨o1, b1, o2, b2, h1, h2, ⟨g1, g2, g3, g4⟩, d1, d2, d3⟩ := h
 refine (markSystem_any (fun i => ∃ j, j < T.length ∧ getl T j ≠ [] ∧ b1 j = i) m u T o1 b1 k W h1 (fun j hj hn => ⟨j, hj, hn, rfl⟩) hk hk2).mono ?_
 rintro e' w' ⟨rfl, h3, hc⟩
 refine ⟨rfl, ⟨o1, b1, o2, b2, h3, h2.keep (fun hn => hc.block _ (h2.lt hn).1 ?_) (fun j hj hn => hc.block _ ((h2.lt (rows_ne hj)).2 j hj hn) ?_), ⟨fun hn => g1 (marks2_ne.1 hn), g2, fun j hj hn => ?_, g4⟩, fun j hj hn hc => ?_, fun j hj hn hc => d2 j hj hn (marks2_ne.1 hc), fun j i hj hi hn hn2 => ?_⟩, hc.mono ?_⟩
 ·rintro ⟨j, hj, hjn, e⟩; exact d1 j hj hjn hn e
 ·rintro ⟨i, hi, hin, e⟩; exact d3 i j hi hj hin hn e
 ·rw [marks2_len] at hj; exact g3 j hj ((rowsM_nil hj).1 hn)
 ·rw [marks2_len] at hj; exact d1 j hj ((rowsM_nil hj).1 hn) hc
 ·rw [marks2_len] at hj; exact d3 j i hj hi ((rowsM_nil hj).1 hn) hn2
 ·rintro i ⟨j, hj, hn, rfl⟩; exact g3 j hj hn
theorem markSecond_r (lo hi : Nat) (u v : Value) (T C : List (List Int)) (k : Int) (W : World) (h : XP lo hi W u v T C) (hk : 0 ≤ k) (hk2 : ∀ j, j ≤ C.length → k + totTo C j ≤ 1152921504606846976) :
  Calls Try.prog 15 #[v, .int .i64 k] W fun e' w' => e' = .returned (.int .i64 (k + totTo C C.length)) ∧ XP lo hi w' u v T (marks2 C k) ∧ Chg (Rg lo hi) W w' := by
 obtain ⟨o1, b1, o2, b2, h1, h2, ⟨g1, g2, g3, g4⟩, d1, d2, d3⟩ := h
 refine (markInt64SS_any (fun i => ∃ j, j < C.length ∧ getl C j ≠ [] ∧ b2 j = i) v C o2 b2 k W h2 (fun j hj hn => ⟨j, hj, hn, rfl⟩) hk hk2).mono ?_
 rintro e' w' ⟨rfl, h3, hc⟩
 refine ⟨rfl, ⟨o1, b1, o2, b2, h1.keep (fun hn => hc.block _ (h1.lt hn).1 ?_) (fun j hj hn => hc.block _ ((h1.lt (rows_ne hj)).2 j hj hn) ?_), h3, ⟨g1, fun hn => g2 (marks2_ne.1 hn), g3, fun j hj hn => ?_⟩, fun j hj hn hc => d1 j hj hn (marks2_ne.1 hc), fun j hj hn hc => ?_, fun j i hj hi hn hn2 => ?_⟩, hc.mono ?_⟩
 ·rintro ⟨j, hj, hjn, e⟩; exact d2 j hj hjn hn e
 ·rintro ⟨i, hi, hin, e⟩; exact d3 j i hj hi hn hin e.symm
 ·rw [marks2_len] at hj; exact g4 j hj ((rowsM_nil hj).1 hn)
 ·rw [marks2_len] at hj; exact d2 j hj ((rowsM_nil hj).1 hn) hc
 ·rw [marks2_len] at hi; exact d3 j i hj hi hn ((rowsM_nil hi).1 hn2)
 ·rintro i ⟨j, hj, hn, rfl⟩; exact g4 j hj hn
end Go.Proofs.Ytmaefilliggjiaa
