/- The laws' marks: what they write into memory that is a call's own, and what is found there afterwards. No conditions. -/
import Derived.Test.YtikdbjaimcciiaaGreatMSys
import Derived.Test.YtikdbjaimcciiaaGreatFrame
namespace Go.Proofs.YtikdbjaimcciiaaGreat
open Go.RowKit
set_option linter.unusedVariables false
set_option linter.unusedSimpArgs false

def marks (n : Nat) (k : Int) : List Int := (List.range n).map fun i => k + (i : Nat)
theorem marks_len (n : Nat) (k : Int) : (marks n k).length = n := by simp [marks]
theorem marks_get {n : Nat} {k : Int} {i : Nat} (h : i < n) : geti (marks n k) i = k + i := by simp [geti, marks, h]
theorem marks_nil {n : Nat} {k : Int} : marks n k ≠ [] ↔ n ≠ 0 := by
  rw [Ne, ← List.length_eq_zero_iff, marks_len]
def totTo (ls : List (List Int)) : Nat → Nat
  | 0 => 0
  | j + 1 => totTo ls j + (getl ls j).length
def rowsM (ls : List (List Int)) (k : Int) (j : Nat) : List (List Int) := (List.range ls.length).map fun i => if i < j then marks (getl ls i).length (k + totTo ls i) else getl ls i
def marks2 (ls : List (List Int)) (k : Int) : List (List Int) := rowsM ls k ls.length
theorem rowsM_len (ls : List (List Int)) (k : Int) (j : Nat) : (rowsM ls k j).length = ls.length := by simp [rowsM]
theorem rowsM_get {ls : List (List Int)} {k : Int} {j i : Nat} (h : i < ls.length) : getl (rowsM ls k j) i = if i < j then marks (getl ls i).length (k + totTo ls i) else getl ls i := by simp [getl, rowsM, h]
theorem rowsM_nil {ls : List (List Int)} {k : Int} {j i : Nat} (h : i < ls.length) : getl (rowsM ls k j) i ≠ [] ↔ getl ls i ≠ [] := by
  rw [rowsM_get h]
  split
  · rw [marks_nil, Ne, Ne, List.length_eq_zero_iff]
  · rfl
theorem rowsM_0 (ls : List (List Int)) (k : Int) : rowsM ls k 0 = ls := by
  apply List.ext_getElem (by simp [rowsM])
  intro i h1 h2
  simp [rowsM, getl, h2]
theorem totTo_le {ls : List (List Int)} {n : Nat} (h : ∀ i, i < ls.length → (getl ls i).length ≤ n) : ∀ j, j ≤ ls.length → totTo ls j ≤ j * n
  | 0, _ => by simp [totTo]
  | j + 1, hj => by
    unfold totTo
    have := totTo_le h j (by omega)
    have := h j (by omega)
    rw [Nat.succ_mul]
    omega
theorem rows_ne {ls : List (List Int)} {k : Nat} (h : k < ls.length) : ls ≠ [] := by intro e; subst e; simp at h

theorem markInt64S_any (F : Nat → Prop) (v : Value) (l : List Int) (b : Nat) (k : Int) (W : World) (h : X1 W v l b) (hF : l ≠ [] → F b) (hk : 0 ≤ k) (hk2 : k + l.length ≤ 1152921504606846976) :
    Calls Tryz.prog 113 #[v, .int .i64 k] W fun e' w' => e' = .returned (.int .i64 (k + l.length)) ∧ X1 w' v (marks l.length k) b ∧ Chg F W w' := by
  obtain ⟨a, c, rfl, h1, h2, hX⟩ := h
  unfold maxLen at h2
  by_cases hn : l = []
  · subst hn
    go_enter Tryz.func113, Tryz.ntmps113
    go_wp2_with fail
    go_loopw [1, 5] (fun q i wr => i = .int .i64 0 ∧ q = .int .i64 k ∧ wr = W) (fun _ i _ => 0)
    case atStart => exact ⟨rfl, rfl, rfl⟩
    case round =>
      obtain ⟨rfl, rfl, rfl⟩ := hrel
      go_wp2_with fail
      go_ret
      exact ⟨by simp, ⟨a, c, rfl, h1, by unfold maxLen; exact h2, fun hn => absurd rfl hn⟩, Chg.refl _ _⟩
  · obtain ⟨off, cs0, e0, rfl, hh0, hc0⟩ := hX hn
    have HFb := Lib.hid (hF hn); clear hF
    have Hhc := Lib.hid (And.intro hh0 hc0); clear hh0 hc0
    have hX0 := Lib.hid hX; clear hX
    have Hn := Lib.hid hn; clear hn
    go_enter Tryz.func113, Tryz.ntmps113
    go_wp2_with fail
    go_loopw [1, 5] (fun q i wr => ∃ (j : Nat) (cs : Array Value), j ≤ l.length ∧ i = .int .i64 j ∧ q = .int .i64 (k + j) ∧ wr.heap[b]? = some (.cells cs e0 (0, 0)) ∧ (∀ m, m < l.length → cs[off + m]? = some (.int .i64 (if m < j then k + m else geti l m))) ∧ Chg F W wr) (fun _ i _ => l.length - (intOf i).toNat)
    case atStart => exact ⟨0, cs0, Nat.zero_le _, rfl, by simp, Hhc.out.1, fun m hm => by rw [if_neg (by omega)]; exact Hhc.out.2 m hm, Chg.refl _ _⟩
    case round =>
      obtain ⟨j, cs, hj, rfl, rfl, hh, hcs, hB⟩ := hrel
      by_cases hjj : j < l.length
      · have hco : wr.cell? ⟨b, off + j, none⟩ = some (.int .i64 (geti l j)) := by rw [cell_of_block hh, hcs j hjj, if_neg (by omega)]
        have hfo := frozen_of_block hh (off + j)
        have hsz : off + j < cs.size := (Array.getElem?_eq_some_iff.1 (hcs j hjj)).1
        have Hsz := Lib.hid hsz; clear hsz
        have Hh := Lib.hid hh; clear hh
        have Hcs := Lib.hid hcs; clear hcs
        have hw : wrap64 (k + j + 1) = k + j + 1 := IntWalk.wrap64_in _ (by omega)
        go_wp2_with fail
        go_roundw
        case rel =>
          refine ⟨j + 1, cs.setIfInBounds (off + j) (.int .i64 (k + j)), by omega, by go_num, by congr 1; omega, heap_setCell_self Hh.out _, fun m hm => ?_, hB.setCell (.inl HFb.out) _⟩
          rw [Array.getElem?_setIfInBounds]
          by_cases e : m = j
          · subst e
            rw [if_pos rfl, if_pos Hsz.out, if_pos (by omega)]
          · rw [if_neg (by omega), Hcs.out m hm]
            by_cases hmj : m < j
            · rw [if_pos hmj, if_pos (by omega)]
            · rw [if_neg hmj, if_neg (by omega)]
        case measure => simp [intOf]; omega
      · obtain rfl : j = l.length := by omega
        have Hh := Lib.hid hh; clear hh
        have Hcs := Lib.hid hcs; clear hcs
        go_wp2_with fail
        go_ret
        refine ⟨rfl, ⟨some ⟨b, off, none⟩, c, by rw [marks_len], by rw [marks_len]; exact h1, by unfold maxLen; exact h2, fun _ => ⟨off, cs, e0, rfl, Hh.out, fun m hm => ?_⟩⟩, hB⟩
        rw [marks_len] at hm
        rw [Hcs.out m hm, if_pos hm, marks_get hm]

theorem heldInt64S_any {S : Nat → Prop} (v : Value) (n : Nat) (k : Int) (W : World) (h : V1 S W v (marks n k)) (hk : 0 ≤ k) (hk2 : k + n ≤ 1152921504606846976) :
    Calls Tryz.prog 114 #[v, .int .i64 k] W fun e' w' => e' = .returned (.int .i64 (k + n)) ∧ W = w' := by
  have hV := h
  obtain ⟨a, c, rfl, hm⟩ := h.form
  have hl := marks_len n k
  rw [hl] at hm ⊢
  go_enter Tryz.func114, Tryz.ntmps114
  go_wp2_with fail
  go_loop [1, 5] (fun q i => ∃ j : Nat, j ≤ n ∧ i = .int .i64 j ∧ q = .int .i64 (k + j)) (fun _ i => n - (intOf i).toNat)
  case atStart => exact ⟨0, Nat.zero_le _, rfl, by simp⟩
  case round =>
    obtain ⟨j, hj, rfl, rfl⟩ := hrel
    by_cases hjj : j < n
    · obtain ⟨b1, off1, rfl, _, hc1⟩ := hV.cell (show j < (marks n k).length by omega)
      rw [marks_get hjj] at hc1
      have hw : wrap64 (k + j + 1) = k + j + 1 := IntWalk.wrap64_in _ (by omega)
      have e1 : (k + (j : Int) != k + (j : Int)) = false := by simp
      go_wp2_with fail
      go_round
      case rel => exact ⟨j + 1, by omega, by go_num, by congr 1; omega⟩
      case measure => simp [intOf]; omega
    · obtain rfl : j = n := by omega
      go_wp2_with fail
      go_ret
      exact ⟨rfl, rfl⟩

theorem markInt64SS_any (F : Nat → Prop) (v : Value) (ls : List (List Int)) (ob : Nat) (bk : Nat → Nat) (k : Int) (W : World) (h : X2 W v ls ob bk) (hF : ∀ j, j < ls.length → getl ls j ≠ [] → F (bk j)) (hk : 0 ≤ k)
    (hk2 : ∀ j, j ≤ ls.length → k + totTo ls j ≤ 1152921504606846976) :
    Calls Tryz.prog 35 #[v, .int .i64 k] W fun e' w' => e' = .returned (.int .i64 (k + totTo ls ls.length)) ∧ X2 w' v (marks2 ls k) ob bk ∧ Chg F W w' := by
  have hX := h
  obtain ⟨a, c, rfl, h1, h2, _⟩ := h
  unfold maxLen at h2
  have HF := Lib.hid hF; clear hF
  have Hk2 := Lib.hid hk2; clear hk2
  go_enter Tryz.func35, Tryz.ntmps35
  go_wp2_with fail
  go_loopw [1, 5] (fun q i wr => ∃ j : Nat, j ≤ ls.length ∧ i = .int .i64 j ∧ q = .int .i64 (k + totTo ls j) ∧ X2 wr (.slice a ls.length c) (rowsM ls k j) ob bk ∧ Chg F W wr) (fun _ i _ => ls.length - (intOf i).toNat)
  case atStart => exact ⟨0, Nat.zero_le _, rfl, by simp [totTo], by rw [rowsM_0]; exact hX, Chg.refl _ _⟩
  case round =>
    obtain ⟨j, hj, rfl, rfl, hR, hB⟩ := hrel
    by_cases hjj : j < ls.length
    · have hjR : j < (rowsM ls k j).length := by rw [rowsM_len]; exact hjj
      have hR' := hR
      obtain ⟨a', c', ea, _, _, hcells, hd⟩ := hR'
      rw [rowsM_len] at ea hd hcells
      obtain ⟨off, cs, e, ea2, hh, hc⟩ := hcells (rows_ne hjR)
      injection ea with ea1 _ ea3
      subst ea1 ea3
      obtain ⟨rv, hcj, hxj⟩ := hc j hjj
      rw [rowsM_get hjj, if_neg (by omega)] at hxj
      have hxj' := hxj
      obtain ⟨ar, cr, rfl, _⟩ := hxj'
      have hc1 : wr.cell? ⟨ob, off + j, none⟩ = some (.slice ar (getl ls j).length cr) := by rw [cell_of_block hh]; exact hcj
      subst ea2
      have hd' := Lib.hid hd; clear hd
      have Hcj := Lib.hid hcj
      have Hh := Lib.hid (And.intro hh hc); clear hh hc hcj hcells
      have HR := Lib.hid hR; clear hR
      have hb1 := Hk2.out (j + 1) (by omega)
      unfold totTo at hb1
      rw [Int.natCast_add] at hb1
      have hst : k + (totTo ls j : Int) + ((getl ls j).length : Int) = k + (totTo ls (j + 1) : Int) := by rw [totTo]; omega
      go_wp2_with fail
      refine (markInt64S_any (fun x => getl ls j ≠ [] ∧ x = bk j) _ _ (bk j) _ _ hxj (fun hn => ⟨hn, rfl⟩) (by omega) (by omega)).mono ?_
      rintro e' w2 ⟨rfl, hx2, hb2⟩
      rw [hst]
      have Hx2 := Lib.hid hx2; clear hx2
      go_wp2_with fail
      go_roundw
      case rel =>
        have hlt := (HR.out.lt (rows_ne hjR)).2
        rw [rowsM_len] at hlt
        refine ⟨j + 1, by omega, by go_num, rfl, ⟨some ⟨ob, off, none⟩, c, by rw [rowsM_len], by rw [rowsM_len]; exact h1, by unfold maxLen; exact h2, fun _ => ⟨off, cs, e, rfl, ?_, fun m hm => ?_⟩, fun m hm hne => ?_⟩, hB.trans hb2 (fun i ⟨hi1, hi2⟩ => by subst hi2; exact .inl (HF.out j hjj hi1))⟩
        · rw [hb2.block ob (lt_of_heap Hh.out.1) (fun ⟨hi1, hi2⟩ => (hd'.out j hjj ((rowsM_nil hjj).2 hi1)).1 hi2.symm)]
          exact Hh.out.1
        · rw [rowsM_len] at hm
          by_cases hmj : m = j
          · subst hmj
            refine ⟨_, ?_, by rw [rowsM_get hm, if_pos (by omega)]; exact Hx2.out⟩
            exact Hcj.out
          · obtain ⟨rv, hcm, hxm⟩ := Hh.out.2 m hm
            refine ⟨rv, hcm, ?_⟩
            have hrow : getl (rowsM ls k (j + 1)) m = getl (rowsM ls k j) m := by
              rw [rowsM_get hm, rowsM_get hm]
              by_cases hlt : m < j
              · rw [if_pos hlt, if_pos (by omega)]
              · rw [if_neg hlt, if_neg (by omega)]
            rw [hrow]
            refine hxm.keep fun hne => hb2.block _ (hlt m hm hne) (fun ⟨hi1, hi2⟩ => ?_)
            exact (hd'.out j hjj ((rowsM_nil hjj).2 hi1)).2 m hm hmj hne hi2
        · rw [rowsM_len] at hm ⊢
          obtain ⟨g1, g2⟩ := hd'.out m hm ((rowsM_nil hm).2 ((rowsM_nil hm).1 hne))
          exact ⟨g1, fun i hi hne' hx => g2 i hi hne' ((rowsM_nil hi).2 ((rowsM_nil hi).1 hx))⟩
      case measure => simp [intOf]; omega
    · obtain rfl : j = ls.length := by omega
      have HR := Lib.hid hR; clear hR
      go_wp2_with fail
      go_ret
      exact ⟨rfl, HR.out, hB⟩

theorem heldInt64SS_any {S : Nat → Prop} (v : Value) (ls : List (List Int)) (k : Int) (W : World) (h : V2 S W v (marks2 ls k)) (hk : 0 ≤ k) (hk2 : ∀ j, j ≤ ls.length → k + totTo ls j ≤ 1152921504606846976) :
    Calls Tryz.prog 36 #[v, .int .i64 k] W fun e' w' => e' = .returned (.int .i64 (k + totTo ls ls.length)) ∧ W = w' := by
  have hV := h
  have hl : (marks2 ls k).length = ls.length := rowsM_len _ _ _
  obtain ⟨a, c, rfl, hm⟩ := h.form
  rw [hl] at hm ⊢
  have Hk2 := Lib.hid hk2; clear hk2
  go_enter Tryz.func36, Tryz.ntmps36
  go_wp2_with fail
  go_loop [1, 5] (fun q i => ∃ j : Nat, j ≤ ls.length ∧ i = .int .i64 j ∧ q = .int .i64 (k + totTo ls j)) (fun _ i => ls.length - (intOf i).toNat)
  case atStart => exact ⟨0, Nat.zero_le _, rfl, by simp [totTo]⟩
  case round =>
    obtain ⟨j, hj, rfl, rfl⟩ := hrel
    by_cases hjj : j < ls.length
    · obtain ⟨b1, off1, a1, c1, rfl, _, hc1, hr1⟩ := hV.cell (show j < (marks2 ls k).length by omega)
      rw [show getl (marks2 ls k) j = marks (getl ls j).length (k + totTo ls j) by rw [marks2, rowsM_get hjj, if_pos hjj]] at hr1 hc1
      rw [marks_len] at hr1 hc1
      have hb1 := Hk2.out (j + 1) (by omega)
      unfold totTo at hb1
      rw [Int.natCast_add] at hb1
      have hst : k + (totTo ls j : Int) + ((getl ls j).length : Int) = k + (totTo ls (j + 1) : Int) := by rw [totTo]; omega
      have hp : 0 ≤ k + (totTo ls (j + 1) : Int) := by omega
      go_wp2_with fail
      refine (heldInt64S_any _ _ _ _ hr1 (by omega) (by omega)).mono ?_
      rintro e' w2 ⟨rfl, rfl⟩
      rw [hst]
      go_wp2_with fail
      go_round
      case rel => exact ⟨j + 1, by omega, by go_num, rfl⟩
      case measure => simp [intOf]; omega
    · obtain rfl : j = ls.length := by omega
      go_wp2_with fail
      go_ret
      exact ⟨rfl, rfl⟩

theorem markSystem_any (F : Nat → Prop) (m : Mk) (u : Value) (t : List (List Int)) (ob : Nat) (bk : Nat → Nat) (k : Int) (W : World) (h : X2 W u t ob bk) (hF : ∀ j, j < t.length → getl t j ≠ [] → F (bk j)) (hk : 0 ≤ k)
    (hk2 : ∀ j, j ≤ t.length → k + totTo t j ≤ 1152921504606846976) :
    Calls Tryz.prog 34 #[.agg #[.int .i64 m.c, .int .i64 m.d, .int .i64 m.s, .int .i64 m.e, .int .i64 m.l, u], .int .i64 k] W fun e' w' => e' = .returned (.int .i64 (k + totTo t t.length)) ∧ X2 w' u (marks2 t k) ob bk ∧ Chg F W w' := by
  have hX := h
  obtain ⟨a, c, rfl, _⟩ := h
  obtain ⟨W1, hW1, hB01, hz01, HZ01, hc01, hh01⟩ := box_facts W #[.int .i64 m.c, .int .i64 m.d, .int .i64 m.s, .int .i64 m.e, .int .i64 m.l, .slice a t.length c] 28
  have hX1 : X2 W1 (.slice a t.length c) t ob bk := hX.keep (fun hn => hB01.block _ (hX.lt hn).1) (fun j hj hne => hB01.block _ ((hX.lt (rows_ne hj)).2 j hj hne))
  go_enter Tryz.func34, Tryz.ntmps34
  go_wp2_with fail
  rw [← hW1]
  have HW1 := Lib.hid hW1; clear hW1
  go_wp2_with fail
  refine (markInt64SS_any F _ t ob bk k _ hX1 hF hk hk2).mono ?_
  rintro e' w2 ⟨rfl, hx2, hb2⟩
  have Hx2 := Lib.hid hx2; clear hx2
  clear hc01 hh01
  go_wp2_with fail
  go_ret
  exact ⟨rfl, Hx2.out, (Chg.of_below hB01).trans hb2 (fun i hi => .inl hi)⟩
end Go.Proofs.YtikdbjaimcciiaaGreat
