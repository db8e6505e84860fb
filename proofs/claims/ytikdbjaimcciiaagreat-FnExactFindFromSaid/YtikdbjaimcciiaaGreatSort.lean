/- slices.Sort and slices.Compact over numbers in memory that is a call's own; slices.Clone. No conditions. -/
import Derived.Test.YtikdbjaimcciiaaGreatFrame
import Derived.Test.YtikdbjaimcciiaaGreatCopy
import Derived.Test.YtikdbjaimcciiaaGreatMDiff
import Derived.Test.YtikdbjaimcciiaaGreatKeys
import Derived.Test.YtikdbjaimcciiaaGreatShelf0
namespace Go.Proofs.YtikdbjaimcciiaaGreat
open Go.RowKit
set_option linter.unusedVariables false
set_option linter.unusedSimpArgs false

theorem putRow_self_heap {w : World} {g n off : Nat} {cur : Array Value} {e : TypeId} (d : Array Int) (h : w.heap[g]? = some (.cells cur e (0, 0))) :
    (Go.Sort.putRow (Value.int .i64) (Go.Sort.ahead w n) g off d).heap[g]? = some (.cells (Go.Sort.putCells (Value.int .i64) off d cur) e (0, 0)) := by
  simp [Go.Sort.putRow, Go.Sort.mapBlock, Array.getElem?_modify, h, Go.Sort.onCells]
theorem putRow_chg (w : World) (g n off : Nat) (d : Array Int) : Chg (fun x => x = g) w (Go.Sort.putRow (Value.int .i64) (Go.Sort.ahead w n) g off d) :=
  ⟨rfl, rfl, rfl, by simp, fun k hk hf => by simp [Go.Sort.putRow, Go.Sort.mapBlock, Array.getElem?_modify, show ¬ g = k from fun e => hf e.symm]⟩
theorem grow_below (w : World) (os : Array Obj) : Below w.heap.size w (Go.Sort.grow w os) := ⟨rfl, rfl, rfl, by simp, fun k hk => Go.Sort.heap_grow_old w os hk⟩
theorem putCells_get {off k : Nat} {d : Array Int} {cur : Array Value} (h1 : k < d.size) (h2 : off + k < cur.size) : (Go.Sort.putCells (Value.int .i64) off d cur)[off + k]? = some (.int .i64 d[k]!) := by
  simp only [Go.Sort.putCells, Array.getElem?_mapIdx, Array.getElem?_eq_getElem h2, Option.map_some]
  rw [if_pos ⟨by omega, by omega⟩, show off + k - off = k by omega]
theorem arr_get {l : List Int} {k : Nat} (h : k < l.length) : l.toArray[k]! = geti l k := by
  rw [getElem!_pos _ k (by simpa using h), geti_eq h]; simp
theorem holds_X1 {w : World} {g off : Nat} {cs : Array Value} {e : TypeId} {l : List Int} (hh : w.heap[g]? = some (.cells cs e (0, 0))) (hc : ∀ k, k < l.length → cs[off + k]? = some (.int .i64 (geti l k))) :
    Go.Sort.Holds (Value.int .i64) w g off l.toArray := fun j hj => by
  have hj' : j < l.length := by simpa using hj
  exact ⟨by rw [cell_of_block hh, hc j hj', arr_get hj'], frozen_of_block hh _⟩

theorem slSort_any (v : Value) (l : List Int) (g : Nat) (W : World) (h : X1 W v l g) (hl : l.length ≤ 1048576) :
    Calls Tryz.prog 201 #[v] W fun e' w' => e' = .returned (.tuple #[]) ∧ X1 w' v (l.mergeSort fun x y => decide (x ≤ y)) g ∧ Chg (fun x => l ≠ [] ∧ x = g) W w' := by
  obtain ⟨a, c, rfl, h1, h2, hX⟩ := h
  by_cases hn : l = []
  · subst hn
    refine (Tryz.slices_Sort_int_none a c W).mono ?_
    rintro e' w' ⟨rfl, rfl⟩
    exact ⟨rfl, ⟨a, c, by simp, by simp, h2, fun h => absurd (by simp) h⟩, Chg.refl _ _⟩
  · obtain ⟨off, cs, e, rfl, hh, hc⟩ := hX hn
    have hlen : (l.mergeSort fun x y => decide (x ≤ y)).length = l.length := List.length_mergeSort l
    refine (Tryz.slices_Sort_int g off c l W (holds_X1 hh hc) (lt_of_heap hh) (by omega)).mono ?_
    rintro e' w' ⟨rfl, n, os, rfl⟩
    generalize (l.mergeSort fun x y => decide (x ≤ y)) = z at *
    have hz := putRow_chg W g n off z.toArray
    have hgl := lt_of_heap hh
    refine ⟨rfl, ⟨some ⟨g, off, none⟩, c, by rw [hlen], by omega, h2, fun _ => ⟨off, _, e, rfl, by rw [Go.Sort.heap_grow_old _ _ (by simpa using hgl)]; exact putRow_self_heap _ hh, fun k hk => ?_⟩⟩, (hz.mono (fun i hi => ⟨hn, hi⟩)).then_below (grow_below _ _)⟩
    rw [putCells_get (by simpa using hk) (Array.getElem?_eq_some_iff.1 (hc k (by omega))).1, arr_get hk]

theorem slCompact_any (v : Value) (l : List Int) (g : Nat) (W : World) (h : X1 W v l g) (hl : l.length ≤ 1048576) :
    Calls Tryz.prog 202 #[v] W fun e' w' => ∃ v', e' = .returned v' ∧ X1 w' v' (Go.Lib.compact l) g ∧ Chg (fun x => l ≠ [] ∧ x = g) W w' := by
  obtain ⟨a, c, rfl, h1, h2, hX⟩ := h
  by_cases hn : l = []
  · subst hn
    refine (Tryz.slices_Compact_int_empty a c W).mono ?_
    rintro e' w' ⟨rfl, rfl⟩
    exact ⟨_, rfl, ⟨a, c, by simp [Go.Lib.compact, Go.Lib.compactUpTo], by simp [Go.Lib.compact, Go.Lib.compactUpTo], h2, fun h => absurd (by simp [Go.Lib.compact, Go.Lib.compactUpTo]) h⟩, Chg.refl _ _⟩
  · obtain ⟨off, cs, e, rfl, hh, hc⟩ := hX hn
    have hle : (Go.Lib.compact l).length ≤ l.length := by
      unfold Go.Lib.compact Go.Lib.compactUpTo
      rw [List.length_map]
      exact Nat.le_trans (List.length_filter_le _ _) (by simp)
    refine (Tryz.slices_Compact_int g off c l W (holds_X1 hh hc) (by omega) h1).mono ?_
    rintro e' w' ⟨rfl, q, rfl⟩
    generalize Go.Lib.compact l = z at *
    have hz := putRow_chg W g q off (z ++ List.replicate (l.length - z.length) 0).toArray
    refine ⟨_, rfl, ⟨some ⟨g, off, none⟩, c, rfl, by omega, h2, fun _ => ⟨off, _, e, rfl, putRow_self_heap _ hh, fun k hk => ?_⟩⟩, hz.mono (fun i hi => ⟨hn, hi⟩)⟩
    rw [putCells_get (by simp; omega) (Array.getElem?_eq_some_iff.1 (hc k (by omega))).1, arr_get (by simp; omega), geti_append hk]

theorem slClone_any {S : Nat → Prop} (v : Value) (l : List Int) (W : World) (h : V1 S W v l) (hl : l.length ≤ 1048576) :
    Calls Tryz.prog 109 #[v] W fun e' w' => ∃ v', e' = .returned v' ∧ F1 W.heap.size w' v' l ∧ Below W.heap.size W w' := by
  obtain ⟨a, c, rfl, hm⟩ := h.form
  by_cases hn : l = []
  · subst hn
    cases a with
    | none =>
      refine (Tryz.slices_Clone_int_nil 0 c W).mono ?_
      rintro e' w' ⟨rfl, rfl⟩
      exact ⟨_, rfl, ⟨0, ⟨none, 0, rfl, Nat.le_refl _, Nat.zero_le _, fun hn => absurd rfl hn⟩, fun hn => absurd rfl hn⟩, Below.refl _ _⟩
    | some a =>
      refine (Tryz.slices_Clone_int_zero a c W).mono ?_
      rintro e' w' ⟨v', rfl, hown, _, hB⟩
      exact ⟨_, rfl, own_F1 (l := []) hown, hB⟩
  · have hp : 0 < l.length := List.length_pos_iff.2 hn
    obtain ⟨b1, off1, rfl, _, _⟩ := h.cell hp
    refine (Tryz.slices_Clone_int b1 off1 l.length c l W (Nat.le_refl _) (by omega) (fun j hj => ?_)).mono ?_
    · obtain ⟨b2, off2, e, _, hc⟩ := h.cell hj
      injection e with e
      injection e with e1 e2 _
      subst e1 e2
      rw [hc, geti_eq hj]
      simp [List.getD, hj]
    · rintro e' w' ⟨v', rfl, hown, _, hB⟩
      rw [List.take_length] at hown
      exact ⟨_, rfl, own_F1 hown, hB⟩
end Go.Proofs.YtikdbjaimcciiaaGreat
