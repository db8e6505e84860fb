/- How many outsiders open so many doors: as the program counts them. No conditions. -/
import Derived.Laws.OwnMore
import Derived.Test.YtbckginfipeibaaOuts
namespace Go.Proofs.Ytbckginfipeibaa
open Go.RowKit
set_option linter.unusedVariables false
set_option linter.unusedSimpArgs false

/-- Block G holds the numbers l and nothing else. -/
def BlkI (w : World) (G : Nat) (l : List Int) : Prop := ∃ T, w.heap[G]? = some (.cells (l.map (Value.int .i64)).toArray T (0, 0))
theorem BlkI.cell {w : World} {G k : Nat} {l : List Int} (h : BlkI w G l) (hk : k < l.length) : w.cell? ⟨G, k, none⟩ = some (.int .i64 (geti l k)) := by
  obtain ⟨T, h⟩ := h
  rw [cell_of_block h, geti_eq hk]
  simp [hk]
theorem BlkI.frozen {w : World} {G : Nat} {l : List Int} (h : BlkI w G l) (k : Nat) : w.frozen? ⟨G, k, none⟩ = false := by
  obtain ⟨T, h⟩ := h; exact frozen_of_block h k
theorem BlkI.set {w : World} {G : Nat} {l : List Int} (h : BlkI w G l) (k : Nat) (x : Int) : BlkI (w.setCell ⟨G, k, none⟩ (.int .i64 x)) G (l.set k x) := by
  obtain ⟨T, h⟩ := h
  refine ⟨T, ?_⟩
  rw [heap_setCell_self h]
  congr 2
  apply Array.ext'
  simp [List.map_set]
theorem BlkI.keep {w w' : World} {G : Nat} {l : List Int} (h : BlkI w G l) (hk : w'.heap[G]? = w.heap[G]?) : BlkI w' G l := by
  obtain ⟨T, h⟩ := h; exact ⟨T, by rw [hk]; exact h⟩
theorem BlkI.lt {w : World} {G : Nat} {l : List Int} (h : BlkI w G l) : G < w.heap.size := by
  obtain ⟨T, h⟩ := h; exact lt_of_heap h
theorem BlkI.x1 {w : World} {G off : Nat} {l : List Int} (h : BlkI w G l) (ho : off ≤ l.length) (hl : l.length ≤ 1000000) : X1 w (.slice (some ⟨G, off, none⟩) (l.length - off) (l.length - off)) (l.drop off) G := by
  obtain ⟨T, h⟩ := h
  refine ⟨_, l.length - off, by rw [List.length_drop], by rw [List.length_drop]; exact Nat.le_refl _, by unfold maxLen; omega, fun _ => ⟨off, _, T, rfl, h, fun k hk => ?_⟩⟩
  rw [List.length_drop] at hk
  have e : geti (l.drop off) k = geti l (off + k) := by simp [geti]
  rw [e, geti_eq (by omega)]
  simp [show off + k < l.length from by omega]
theorem blk_made {w : World} {G : Nat} {cs : Array Value} {T : TypeId} {n : Nat} (h : w.heap[G]? = some (.cells cs T (0, 0))) (hc : cs.toList = (madeCells (Value.int .i64 0).cells (n * 1)).toList) : BlkI w G (List.replicate n 0) := by
  refine ⟨T, ?_⟩
  rw [h]
  congr 2
  apply Array.ext'
  rw [hc, Nat.mul_one, show (Value.int .i64 0).cells = #[Value.int .i64 0] from rfl, toList_madeCells_one]
  simp
theorem cntL_set {locks : List (List (List Int))} {ks : List (List Int)} {k : List Int} {lo n : Nat} (h1 : lo ≤ ndoors locks k) (h2 : ndoors locks k < lo + n) :
    (cntL locks ks lo n).set (ndoors locks k - lo) (geti (cntL locks ks lo n) (ndoors locks k - lo) + 1) = cntL locks (ks ++ [k]) lo n := by
  apply List.ext_getElem (by simp [cntL])
  intro i g1 g2
  have hi : i < n := by simpa [cntL] using g2
  rw [List.getElem_set]
  by_cases e : ndoors locks k - lo = i
  · rw [if_pos e, e, cntL_get hi]
    simp only [cntL, List.getElem_map, List.getElem_range, cntN_snoc]
    rw [if_pos (by omega)]; simp
  · rw [if_neg e]
    simp only [cntL, List.getElem_map, List.getElem_range, cntN_snoc]
    rw [if_neg (by omega)]; simp
def keepStep (s : List (List Int)) (k : List Int) (ds : List Int) : List (List Int) × Bool := (s ++ [k], true)
theorem keep_run (cuts : List (List Int)) (locks : List (List (List Int))) : ∀ (l s0 : List (List Int)), runL (outStep keepStep cuts locks) s0 l = (s0 ++ outsOf cuts l, true)
  | [], s0 => by simp [runL, outsOf]
  | k :: l, s0 => by
    have e : (outStep keepStep cuts locks s0 k) = (if hasL cuts k = true then s0 else s0 ++ [k], true) := by
      unfold outStep keepStep; split <;> rfl
    simp only [runL, e, if_true]
    rw [keep_run cuts locks l]
    unfold outsOf
    rw [List.filter_cons]
    cases hasL cuts k <;> simp
theorem outsOf_length (cuts ks : List (List Int)) : (outsOf cuts ks).length ≤ ks.length := List.length_filter_le _ _

/-- The counts in block G, seen through the cell in block OB. -/
def PrfInv (locks : List (List (List Int))) (lo N G OB : Nat) (s : List (List Int)) (F : Nat → Prop) (w : World) : Prop :=
  (∀ b, F b ↔ b = G ∨ b = OB) ∧ BlkI w G (cntL locks s lo N) ∧ ∃ T, w.heap[OB]? = some (.cells #[.slice (some ⟨G, 0, none⟩) N N] T (0, 0))
end Go.Proofs.Ytbckginfipeibaa
