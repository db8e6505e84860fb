/- Slices of rows that lie elsewhere: what they hold. No conditions. -/
import Derived.Deep.RegionHeld3
import Derived.Test.YtikdbjaimcciiaaGreatMSys
import Derived.Test.YtikdbjaimcciiaaGreatFrame
namespace Go.Proofs.YtikdbjaimcciiaaGreat
open Go.RowKit
set_option linter.unusedVariables false
set_option linter.unusedSimpArgs false

/-- Values of rows ls. -/
def RowVs (S : Nat → Prop) (w : World) (vs : List Value) (ls : List (List Int)) : Prop :=
  vs.length = ls.length ∧ ∀ k, k < ls.length → ∃ ev, vs[k]? = some ev ∧ V1 S w ev (getl ls k)
theorem RowVs.nil {S : Nat → Prop} {w : World} : RowVs S w [] [] := ⟨rfl, fun k hk => by simp at hk⟩
theorem getl_append1 {ls : List (List Int)} {l : List Int} {k : Nat} (h : k < ls.length) : getl (ls ++ [l]) k = getl ls k := by
  simp [getl, List.getElem?_append_left h]
theorem getl_last {ls : List (List Int)} {l : List Int} : getl (ls ++ [l]) ls.length = l := by
  unfold getl; simp
theorem RowVs.snoc {S : Nat → Prop} {w : World} {vs : List Value} {ls : List (List Int)} {v : Value} {l : List Int} (h : RowVs S w vs ls) (hv : V1 S w v l) : RowVs S w (vs ++ [v]) (ls ++ [l]) := by
  refine ⟨by simp [h.1], fun k hk => ?_⟩
  by_cases hkk : k < ls.length
  · obtain ⟨ev, h1, h2⟩ := h.2 k hkk
    exact ⟨ev, by rw [List.getElem?_append_left (by rw [h.1]; exact hkk)]; exact h1, by rw [getl_append1 hkk]; exact h2⟩
  · have e : k = ls.length := by simp at hk; omega
    subst e
    exact ⟨v, by rw [← h.1]; simp, by rw [getl_last]; exact hv⟩
theorem RowVs.below {S : Nat → Prop} {w w' : World} {vs : List Value} {ls : List (List Int)} (h : RowVs S w vs ls) (hb : Below w.heap.size w w') : RowVs S w' vs ls :=
  ⟨h.1, fun k hk => by obtain ⟨ev, h1, h2⟩ := h.2 k hk; exact ⟨ev, h1, h2.below hb⟩⟩
theorem RowVs.keep {S : Nat → Prop} {w w' : World} {vs : List Value} {ls : List (List Int)} (h : RowVs S w vs ls) (hb : Keep S w w') : RowVs S w' vs ls :=
  ⟨h.1, fun k hk => by obtain ⟨ev, h1, h2⟩ := h.2 k hk; exact ⟨ev, h1, h2.mono (fun _ h _ => h) hb⟩⟩
theorem own_V2 {w : World} {B : Nat} {e : TypeId} {v : Value} {n : Nat} {vs : List Value} {ls : List (List Int)} (h : w.ownsRow B e 1 v n vs) (hr : RowVs (fun _ => True) w vs ls) : V2 (fun _ => True) w v ls := by
  obtain ⟨hl, h⟩ := h
  have hn : n = ls.length := by have := hr.1; omega
  subst hn
  rcases h with ⟨rfl, h0⟩ | ⟨g, cap, cur, rfl, hb, hh, hc, hm, hs, ht⟩
  · exact ⟨none, 0, by rw [h0], by omega, Nat.zero_le _, fun k hk => by omega⟩
  · refine ⟨_, _, rfl, hc, hm, fun k hk => ?_⟩
    obtain ⟨ev, h1, h2⟩ := hr.2 k hk
    refine ⟨g, 0, ev, rfl, trivial, ?_, h2⟩
    have h3 : (cur.toList.take (ls.length * 1))[k]? = vs[k]? := by rw [ht]
    rw [List.getElem?_take, if_pos (by omega), h1] at h3
    rw [cell_of_block hh, Nat.zero_add, ← Array.getElem?_toList, h3]

theorem own_keep {w w' : World} {B : Nat} {e : TypeId} {v : Value} {n : Nat} {xs : List Value} (h : w.ownsRow B e 1 v n xs) (hb : Below w.heap.size w w') : w'.ownsRow B e 1 v n xs := by
  refine ⟨h.1, ?_⟩
  rcases h.2 with h0 | ⟨g, cap, cur, rfl, h1, h2, h3⟩
  · exact .inl h0
  · exact .inr ⟨g, cap, cur, rfl, h1, by rw [hb.block g (lt_of_heap h2)]; exact h2, h3⟩

theorem grow_keep {S : Nat → Prop} {w w' : World} {ob : Option Nat} (hg : w.grownBy w' ob) (h : ∀ g, ob = some g → ¬ S g) : Keep S w w' := fun b hb hlt => hg.block b hlt (fun e => h b e.symm hb)

/-- The rows that open door d, among the first k. -/
def doorRows (t : List (List Int)) (d : Nat) : Nat → List (List Int)
  | 0 => []
  | k + 1 => if geti (getl t k) d = 1 then doorRows t d k ++ [getl t k] else doorRows t d k
theorem doorRows_len (t : List (List Int)) (d : Nat) : ∀ k, (doorRows t d k).length ≤ k
  | 0 => Nat.le_refl _
  | k + 1 => by have := doorRows_len t d k; unfold doorRows; split <;> simp <;> omega
theorem doorRows_map (t : List (List Int)) (d : Nat) : ∀ k, doorRows t d k = (rowsF t d k).map fun x => getl t x.toNat
  | 0 => rfl
  | k + 1 => by
    rw [doorRows, rowsF, doorRows_map t d k]
    split
    · simp
    · rfl
theorem maker_keep {b : Nat} {w0 w w' : World} {c0 c1 c2 c3 c4 : Value} (h : w.cell? ⟨b, 0, none⟩ = some c0 ∧ w.cell? ⟨b, 1, none⟩ = some c1 ∧ w.cell? ⟨b, 2, none⟩ = some c2 ∧ w.cell? ⟨b, 3, none⟩ = some c3 ∧ w.cell? ⟨b, 4, none⟩ = some c4 ∧ Below w0.heap.size w0 w) (hb : Below w.heap.size w w') :
    w'.cell? ⟨b, 0, none⟩ = some c0 ∧ w'.cell? ⟨b, 1, none⟩ = some c1 ∧ w'.cell? ⟨b, 2, none⟩ = some c2 ∧ w'.cell? ⟨b, 3, none⟩ = some c3 ∧ w'.cell? ⟨b, 4, none⟩ = some c4 ∧ Below w0.heap.size w0 w' := by
  obtain ⟨h0, h1, h2, h3, h4, h5⟩ := h
  have hk := hb.block b (lt_of_cell h0)
  refine ⟨cell_keep h0 hk, cell_keep h1 hk, cell_keep h2 hk, cell_keep h3 hk, cell_keep h4 hk, h5.trans (hb.mono h5.size)⟩

theorem maker_below {b : Nat} {w0 w : World} {c0 c1 c2 c3 c4 : Value} (h : w.cell? ⟨b, 0, none⟩ = some c0 ∧ w.cell? ⟨b, 1, none⟩ = some c1 ∧ w.cell? ⟨b, 2, none⟩ = some c2 ∧ w.cell? ⟨b, 3, none⟩ = some c3 ∧ w.cell? ⟨b, 4, none⟩ = some c4 ∧ Below w0.heap.size w0 w) : Below w0.heap.size w0 w := h.2.2.2.2.2

theorem V1.old {S : Nat → Prop} {w : World} {v : Value} {l : List Int} (h : V1 S w v l) : V1 (fun b => b < w.heap.size) w v l := h.mono (fun _ _ h => h) (fun _ _ _ => rfl)
theorem V2.old {S : Nat → Prop} {w : World} {v : Value} {ls : List (List Int)} (h : V2 S w v ls) : V2 (fun b => b < w.heap.size) w v ls := h.mono (fun _ _ h => h) (fun _ _ _ => rfl)
theorem V1.any {S : Nat → Prop} {w : World} {v : Value} {l : List Int} (h : V1 S w v l) : V1 (fun _ => True) w v l := h.mono (fun _ _ _ => trivial) (fun _ _ _ => rfl)
theorem V2.any {S : Nat → Prop} {w : World} {v : Value} {ls : List (List Int)} (h : V2 S w v ls) : V2 (fun _ => True) w v ls := h.mono (fun _ _ _ => trivial) (fun _ _ _ => rfl)
end Go.Proofs.YtikdbjaimcciiaaGreat
