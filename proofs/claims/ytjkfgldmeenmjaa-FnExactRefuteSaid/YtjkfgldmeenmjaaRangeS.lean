/- Lists of steps whose memory lies between two sizes of the heap, and the laws' marks on them. No conditions. -/
import Derived.Test.YtjkfgldmeenmjaaRange
import Derived.Test.YtjkfgldmeenmjaaMSteps
namespace Go.Proofs.Ytjkfgldmeenmjaa
open Go.RowKit
set_option linter.unusedVariables false
set_option linter.unusedSimpArgs false

def XRS (lo hi : Nat) (w : World) (v : Value) (l : List (Int × Int)) : Prop := ∃ b, XS w v l b ∧ (l ≠ [] → lo ≤ b ∧ b < hi)
/-- Fresh steps. -/
def FS (B : Nat) (w : World) (v : Value) (l : List (Int × Int)) : Prop := ∃ b, XS w v l b ∧ (l ≠ [] → B ≤ b)
section
variable {lo hi lo' hi' s B : Nat} {w w' : World} {v : Value} {l : List (Int × Int)}
theorem XRS.of_copy (h : XS w v l B) (hg : B < w.heap.size) : XRS B w.heap.size w v l := ⟨B, h, fun hn => ⟨Nat.le_refl _, h.lt hn⟩⟩
theorem XRS.of_FS (h : FS B w v l) : XRS B w.heap.size w v l := by
  obtain ⟨b, h1, h2⟩ := h
  exact ⟨b, h1, fun hn => ⟨h2 hn, h1.lt hn⟩⟩
theorem XRS.below (h : XRS lo hi w v l) (hb : Below w.heap.size w w') : XRS lo hi w' v l := by
  obtain ⟨b, h1, h2⟩ := h
  exact ⟨b, h1.keep (fun hn => hb.block _ (h1.lt hn)), h2⟩
theorem XRS.chg (h : XRS lo hi w v l) (hc : Chg (Rg lo' hi') w w') (hd : hi ≤ lo' ∨ hi' ≤ lo) : XRS lo hi w' v l := by
  obtain ⟨b, h1, h2⟩ := h
  exact ⟨b, h1.keep (fun hn => hc.block _ (h1.lt hn) (fun hf => by have := h2 hn; obtain ⟨g1, g2⟩ := hf; omega)), h2⟩
theorem XRS.vs (h : XRS lo hi w v l) : VS (fun _ => True) w v l := by
  obtain ⟨b, h1, _⟩ := h; exact h1.vs (fun _ => trivial)
theorem XRS.form (h : XRS lo hi w v l) : ∃ a c, v = .slice a l.length c := by
  obtain ⟨b, ⟨a, c, rfl, _⟩, _⟩ := h; exact ⟨a, c, rfl⟩
theorem VS.chgR (h : VS (fun b => b < s) w v l) (hc : Chg (Rg lo hi) w w') (hs : s ≤ lo) : VS (fun b => b < s) w' v l :=
  h.mono (fun _ h _ => h) (hc.keep fun b hb hf => by have h1 : b < s := hb; obtain ⟨g1, g2⟩ := hf; omega)
theorem VS.old {S : Nat → Prop} (h : VS S w v l) : VS (fun b => b < w.heap.size) w v l := h.mono (fun _ _ h => h) (fun _ _ _ => rfl)
theorem FS.mono {B' : Nat} (h : FS B w v l) (hb : B' ≤ B) : FS B' w v l := by
  obtain ⟨b, h1, h2⟩ := h
  exact ⟨b, h1, fun hn => Nat.le_trans hb (h2 hn)⟩
theorem FS.vs (h : FS B w v l) : VS (fun _ => True) w v l := by
  obtain ⟨b, h1, _⟩ := h; exact h1.vs (fun _ => trivial)
theorem FS.nil : FS B w (.slice none 0 0) [] := ⟨0, ⟨none, 0, rfl, Nat.le_refl _, Nat.zero_le _, fun hn => absurd rfl hn⟩, fun hn => absurd rfl hn⟩
theorem FS.below (h : FS B w v l) (hb : Below w.heap.size w w') : FS B w' v l := by
  obtain ⟨b, h1, h2⟩ := h
  exact ⟨b, h1.keep (fun hn => hb.block _ (h1.lt hn)), h2⟩
end
def marksS (n : Nat) (k : Int) : List (Int × Int) := (List.range n).map fun i => (k + 2 * (i : Nat), k + 2 * (i : Nat) + 1)
theorem marksS_len (n : Nat) (k : Int) : (marksS n k).length = n := by simp [marksS]
theorem marksS_get {n : Nat} {k : Int} {i : Nat} (h : i < n) : gets (marksS n k) i = (k + 2 * (i : Nat), k + 2 * (i : Nat) + 1) := by simp [gets, marksS, h]
set_option maxRecDepth 100000 in
theorem markStepS_any (F : Nat → Prop) (v : Value) (l : List (Int × Int)) (b : Nat) (k : Int) (W : World) (h : XS W v l b) (hF : l ≠ [] → F b) (hk : 0 ≤ k) (hk2 : k + 2 * l.length ≤ 1152921504606846976) :
    Calls Try.prog 30 #[v, .int .i64 k] W fun e' w' => e' = .returned (.int .i64 (k + 2 * l.length)) ∧ XS w' v (marksS l.length k) b ∧ Chg F W w' := by
  obtain ⟨a, c, rfl, h1, h2, hX⟩ := h
  unfold maxLen at h2
  by_cases hn : l = []
  · subst hn
    go_enter Try.func30, Try.ntmps30
    go_wp2_with fail
    go_loopw [1, 5] (fun q i wr => i = .int .i64 0 ∧ q = .int .i64 k ∧ wr = W) (fun _ i _ => 0)
    case atStart => exact ⟨rfl, rfl, rfl⟩
    case round =>
      obtain ⟨rfl, rfl, rfl⟩ := hrel
      go_wp2_with fail
      go_ret
      exact ⟨by simp, ⟨a, c, rfl, h1, by unfold maxLen; exact h2, fun hn => absurd rfl hn⟩, Chg.refl _ _⟩
  · obtain ⟨off, cs0, e0, rfl, hh0, hc0⟩ := hX hn
    have HFb := Lib.hid (hF hn); clear hF
    have Hhc := Lib.hid (And.intro hh0 hc0); clear hh0 hc0
    have hX0 := Lib.hid hX; clear hX
    have Hn := Lib.hid hn; clear hn
    go_enter Try.func30, Try.ntmps30
    go_wp2_with fail
    go_loopw [1, 5] (fun q i wr => ∃ (j : Nat) (cs : Array Value), j ≤ l.length ∧ i = .int .i64 j ∧ q = .int .i64 (k + 2 * j) ∧ wr.heap[b]? = some (.cells cs e0 (0, 0)) ∧ (∀ m, m < l.length → cs[off + m * 2]? = some (.int .i64 (if m < j then k + 2 * m else (gets l m).1)) ∧ cs[off + m * 2 + 1]? = some (.int .i64 (if m < j then k + 2 * m + 1 else (gets l m).2))) ∧ Chg F W wr) (fun _ i _ => l.length - (intOf i).toNat)
    case atStart => exact ⟨0, cs0, Nat.zero_le _, rfl, by simp, Hhc.out.1, fun m hm => by rw [if_neg (by omega), if_neg (by omega)]; exact Hhc.out.2 m hm, Chg.refl _ _⟩
    case round =>
      obtain ⟨j, cs, hj, rfl, rfl, hh, hcs, hB⟩ := hrel
      by_cases hjj : j < l.length
      · have hcs0 := hcs j hjj
        rw [if_neg (by omega), if_neg (by omega)] at hcs0
        have hco : wr.cell? ⟨b, off + j * 2, none⟩ = some (.int .i64 (gets l j).1) := by rw [cell_of_block hh, hcs0.1]
        have hco1 : wr.cell? ⟨b, off + j * 2 + 1, none⟩ = some (.int .i64 (gets l j).2) := by rw [cell_of_block hh, hcs0.2]
        have hfo := frozen_of_block hh (off + j * 2)
        have hfo1 := frozen_of_block hh (off + j * 2 + 1)
        have hsz : off + j * 2 < cs.size := (Array.getElem?_eq_some_iff.1 hcs0.1).1
        have hsz1 : off + j * 2 + 1 < cs.size := (Array.getElem?_eq_some_iff.1 hcs0.2).1
        have Hsz := Lib.hid (And.intro hsz hsz1); clear hsz hsz1 hcs0
        have Hh := Lib.hid hh; clear hh
        have Hcs := Lib.hid hcs; clear hcs
        have hw : wrap64 (k + 2 * j + 1) = k + 2 * j + 1 := IntWalk.wrap64_in _ (by omega)
        have hw2 : wrap64 (k + 2 * j + 1 + 1) = k + 2 * j + 1 + 1 := IntWalk.wrap64_in _ (by omega)
        go_wp2_with fail
        go_roundw
        case rel =>
          refine ⟨j + 1, _, by omega, by go_num, by congr 1; omega, heap_setCell_self (heap_setCell_self Hh.out _) _, fun m hm => ?_, (hB.setCell (.inl HFb.out) _).setCell (.inl HFb.out) _⟩
          have h3 := Hcs.out m hm
          have h4 := Hsz.out
          by_cases e : m = j
          · subst e
            rw [if_pos (by omega), if_pos (by omega)]
            exact ⟨by rw [Array.getElem?_setIfInBounds, if_neg (by omega), Array.getElem?_setIfInBounds, if_pos rfl, if_pos (by omega)], by rw [Array.getElem?_setIfInBounds, if_pos rfl, if_pos (by simp; omega)]⟩
          · have hif : ∀ (x y : Int), (if m < j + 1 then x else y) = if m < j then x else y := fun x y => by
              by_cases hmj : m < j
              · rw [if_pos hmj, if_pos (by omega)]
              · rw [if_neg hmj, if_neg (by omega)]
            rw [hif, hif]
            exact ⟨by rw [Array.getElem?_setIfInBounds, if_neg (by omega), Array.getElem?_setIfInBounds, if_neg (by omega)]; exact h3.1, by rw [Array.getElem?_setIfInBounds, if_neg (by omega), Array.getElem?_setIfInBounds, if_neg (by omega)]; exact h3.2⟩
        case measure => simp [intOf]; omega
      · obtain rfl : j = l.length := by omega
        have Hh := Lib.hid hh; clear hh
        have Hcs := Lib.hid hcs; clear hcs
        go_wp2_with fail
        go_ret
        refine ⟨rfl, ⟨some ⟨b, off, none⟩, c, by rw [marksS_len], by rw [marksS_len]; exact h1, by unfold maxLen; exact h2, fun _ => ⟨off, cs, e0, rfl, Hh.out, fun m hm => ?_⟩⟩, hB⟩
        rw [marksS_len] at hm
        have h3 := Hcs.out m hm
        rw [if_pos hm, if_pos hm] at h3
        rw [marksS_get hm]
        exact h3
theorem heldStepS_any {S : Nat → Prop} (v : Value) (n : Nat) (k : Int) (W : World) (h : VS S W v (marksS n k)) (hk : 0 ≤ k) (hk2 : k + 2 * n ≤ 1152921504606846976) :
    Calls Try.prog 31 #[v, .int .i64 k] W fun e' w' => e' = .returned (.int .i64 (k + 2 * n)) ∧ W = w' := by
  have hV := h
  obtain ⟨a, c, rfl, hm⟩ := h.form
  have hl := marksS_len n k
  rw [hl] at hm ⊢
  go_enter Try.func31, Try.ntmps31
  go_wp2_with fail
  go_loop [1, 5] (fun q i => ∃ j : Nat, j ≤ n ∧ i = .int .i64 j ∧ q = .int .i64 (k + 2 * j)) (fun _ i => n - (intOf i).toNat)
  case atStart => exact ⟨0, Nat.zero_le _, rfl, by simp⟩
  case round =>
    obtain ⟨j, hj, rfl, rfl⟩ := hrel
    by_cases hjj : j < n
    · obtain ⟨b1, off1, rfl, _, hc1, hc2⟩ := hV.cell (show j < (marksS n k).length by omega)
      rw [marksS_get hjj] at hc1 hc2
      have hw : wrap64 (k + 2 * j + 1) = k + 2 * j + 1 := IntWalk.wrap64_in _ (by omega)
      have hw2 : wrap64 (k + 2 * j + 1 + 1) = k + 2 * j + 1 + 1 := IntWalk.wrap64_in _ (by omega)
      have e1 : (k + 2 * (j : Int) != k + 2 * (j : Int)) = false := by simp
      have e2 : (k + 2 * (j : Int) + 1 != k + 2 * (j : Int) + 1) = false := by simp
      go_wp2_with fail
      go_round
      case rel => exact ⟨j + 1, by omega, by go_num, by congr 1; omega⟩
      case measure => simp [intOf]; omega
    · obtain rfl : j = n := by omega
      go_wp2_with fail
      go_ret
      exact ⟨rfl, rfl⟩
theorem markStepS_r (lo hi : Nat) (v : Value) (l : List (Int × Int)) (k : Int) (W : World) (h : XRS lo hi W v l) (hk : 0 ≤ k) (hk2 : k + 2 * l.length ≤ 1152921504606846976) :
    Calls Try.prog 30 #[v, .int .i64 k] W fun e' w' => e' = .returned (.int .i64 (k + 2 * l.length)) ∧ XRS lo hi w' v (marksS l.length k) ∧ Chg (Rg lo hi) W w' := by
  obtain ⟨b, h1, h2⟩ := h
  refine (markStepS_any (Rg lo hi) v l b k W h1 h2 hk hk2).mono ?_
  rintro e' w' ⟨rfl, h3, h4⟩
  exact ⟨rfl, ⟨b, h3, fun hn => h2 (by intro e; subst e; exact hn rfl)⟩, h4⟩
end Go.Proofs.Ytjkfgldmeenmjaa
