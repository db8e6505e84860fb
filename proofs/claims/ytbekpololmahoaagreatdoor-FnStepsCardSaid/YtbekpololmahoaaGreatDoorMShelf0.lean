/- Contracts of slices.Clone, Compact and Sort at []int64, as the kit lays them (a part of what it lays). No conditions. -/
import Derived.Shelf.SlicesG.Turned
import Derived.Shelf.SlicesG.Clone
import Derived.Shelf.SlicesG.CompactI
import Derived.Shelf.SortM.Plain
import Derived.Shelf.SortM.SortNone
import Derived.Ground.SlgnProg
import Derived.Ground.SlgmProg
import Derived.Test.YtbekpololmahoaaGreatDoorProg
import Derived.Deep.AppendLies
import Derived.Test.YtbekpololmahoaaGreatDoorMLib
import Derived.Test.YtbekpololmahoaaGreatDoorMStops
import Derived.Test.YtbekpololmahoaaGreatDoorMTable
namespace Go.Proofs
open Go.Shelf
def Tryz.laysSlN41_f55_ren : Go.Shelf.Ren := ⟨fun | 41 => 55 | n => n, fun | 22 => 57 | 23 => 2 | 4 => 4 | n => n, fun | n => n⟩
theorem Tryz.laysSlN41_f55 : Go.Proofs.SlLaysN.n41 Tryz.prog Tryz.laysSlN41_f55_ren := {
 mixed := by kernel_rfl
 f41 := ⟨Tryz.f55.name, by decide, Tryz.func55.trans (congrArg some (by kernel_rfl))⟩
 t4 := Tryz.underlying4
 a4 := Tryz.isAgg4
 z4 := Tryz.sizeOf4
 v4 := Tryz.zeroValue4
 t22 := Tryz.underlying57
 a22 := Tryz.isAgg57
 z22 := Tryz.sizeOf57
 v22 := Tryz.zeroValue57
 t23 := Tryz.underlying2
 a23 := Tryz.isAgg2
 z23 := Tryz.sizeOf2
 v23 := Tryz.zeroValue2
 i23 := by kernel_rfl }
open Go.RowKit Go.Lib in
/-- slices.Clone at []int: "Clone returns a copy of the slice. The elements are copied using assignment, so this is a shallow clone. The result may have additional unused capacity. The result preserves the nilness of s.": OF A SLICE THAT IS NOT nil IT RETURNS A SLICE THAT IS NOT nil, OF THE SAME ELEMENTS, IN MEMORY OF THE CALL's OWN: in the how-to's words (6f): 'w'.ownsRow B e 1 v' n cells': v' begins at the head of a row among the blocks from B on (B: the heap's size at the call), not frozen, whose first cells are the elements · 'Below B w w'': below B all is as it was. The capacity is whatever the run-time gives. 'zs': what the cells behind the slice's address hold; 'zs.take n': its elements. (LAID AT THE INSTANCE 'slices.Clone[[]int64,int64]': no walk: one application.) -/
theorem Tryz.slices_Clone_int (b off n c : Nat) (zs : List Int) (w : World) (hz : n ≤ zs.length) (hbig : n * 8 ≤ 140737488355328) (hc : ∀ j, j < zs.length → w.cell? ⟨b, off + j, none⟩ = some (.int .i64 (zs.getD j 0))) :
  Calls Tryz.prog 55 #[.slice (some ⟨b, off, none⟩) n c] w fun e w' => ∃ v', e = .returned v' ∧ w'.ownsRow w.heap.size 2 1 v' n ((zs.take n).map (Value.int .i64)) ∧ v' ≠ .slice none 0 0 ∧ Below w.heap.size w w' := AnyG.slices_Clone_int Tryz.laysSlN41_f55 b off n c zs w hz hbig hc
open Go.RowKit Go.Lib in
/-- The same at nil: nil comes back; the world is as it was. (LAID AT THE INSTANCE 'slices.Clone[[]int64,int64]': no walk: one application.) -/
theorem Tryz.slices_Clone_int_nil (n c : Nat) (w : World) :
  Calls Tryz.prog 55 #[.slice none n c] w fun e w' => e = .returned (.slice none 0 0) ∧ w' = w := AnyG.slices_Clone_int_nil Tryz.laysSlN41_f55 n c w
open Go.RowKit Go.Lib in
/-- The same at a slice of length 0 that is not nil, WHATEVER ITS ADDRESS (no cell is asked for): a slice that is not nil and owns nothing comes back. (LAID AT THE INSTANCE 'slices.Clone[[]int64,int64]': no walk: one application.) -/
theorem Tryz.slices_Clone_int_zero (a : Addr) (c : Nat) (w : World) :
  Calls Tryz.prog 55 #[.slice (some a) 0 c] w fun e w' => ∃ v', e = .returned v' ∧ w'.ownsRow w.heap.size 2 1 v' 0 [] ∧ v' ≠ .slice none 0 0 ∧ Below w.heap.size w w' := AnyG.slices_Clone_int_zero Tryz.laysSlN41_f55 a c w
def Tryz.laysSlN43_f135_ren : Go.Shelf.Ren := ⟨fun | 43 => 135 | n => n, fun | 22 => 57 | 23 => 2 | 3 => 3 | 4 => 4 | 0 => 0 | n => n, fun | n => n⟩
theorem Tryz.laysSlN43_f135 : Go.Proofs.SlLaysN.n43 Tryz.prog Tryz.laysSlN43_f135_ren := {
 mixed := by kernel_rfl
 f43 := ⟨Tryz.f135.name, by decide, Tryz.func135.trans (congrArg some (by kernel_rfl))⟩
 t0 := Tryz.underlying0
 a0 := Tryz.isAgg0
 z0 := Tryz.sizeOf0
 v0 := Tryz.zeroValue0
 t3 := Tryz.underlying3
 a3 := Tryz.isAgg3
 z3 := Tryz.sizeOf3
 v3 := Tryz.zeroValue3
 t4 := Tryz.underlying4
 a4 := Tryz.isAgg4
 z4 := Tryz.sizeOf4
 v4 := Tryz.zeroValue4
 t22 := Tryz.underlying57
 a22 := Tryz.isAgg57
 z22 := Tryz.sizeOf57
 v22 := Tryz.zeroValue57
 t23 := Tryz.underlying2
 a23 := Tryz.isAgg2
 z23 := Tryz.sizeOf2
 v23 := Tryz.zeroValue2
 i23 := by kernel_rfl }
open Go.RowKit Go.Lib Go.Sort in
open Go.RowKit Go.Lib Go.Sort in
/-- slices.Compact at []int: "Compact replaces consecutive runs of equal elements with a single copy. This is like the uniq command found on Unix. Compact modifies the contents of the slice s and returns the modified slice, which may have a smaller length. Compact zeroes the elements between the new length and the original length. The result preserves the nilness of s.": IT RETURNS THE SLICE CUT TO 'Lib.compact zs'; ITS CELLS HOLD 'Lib.compact zs', THEN ZERO VALUES up to the old length; all else is as it was, but for the count of draws. IN THE WORDS OF slices.Sort's CONTRACT ('Holds', 'putRow'): so the everyday 'slices.Sort(xs); xs = slices.Compact(xs)' goes from the one contract to the other. It asks 'zs.length ≤ cap' (every slice's: the reslicing 's[:k]' looks at it). Length 0, nil: '.._empty'. (LAID AT THE INSTANCE 'slices.Compact[[]int64,int64]': no walk: one application.) -/
theorem Tryz.slices_Compact_int (blk off cap : Nat) (zs : List Int) (w : World) (hH : Holds (Value.int .i64) w blk off zs.toArray) (hsz : zs.length ≤ 9223372036854775807) (hcap : zs.length ≤ cap) :
  Calls Tryz.prog 135 #[.slice (some ⟨blk, off, none⟩) zs.length cap] w fun e w' => e = .returned (.slice (some ⟨blk, off, none⟩) (Lib.compact zs).length cap) ∧ ∃ q, w' = putRow (Value.int .i64) (Sort.ahead w q) blk off (Lib.compact zs ++ List.replicate (zs.length - (Lib.compact zs).length) 0).toArray := AnyG.slices_Compact_int Tryz.laysSlN43_f135 blk off cap zs w hH hsz hcap
open Go.RowKit Go.Lib Go.Sort in
/-- The same at a slice of length 0, a nil one too: it comes back as it is. (LAID AT THE INSTANCE 'slices.Compact[[]int64,int64]': no walk: one application.) -/
theorem Tryz.slices_Compact_int_empty (a : Option Addr) (cap : Nat) (w : World) :
  Calls Tryz.prog 135 #[.slice a 0 cap] w fun e w' => e = .returned (.slice a 0 cap) ∧ w' = w := AnyG.slices_Compact_int_empty Tryz.laysSlN43_f135 a cap w
def Tryz.laysSlM5_f134_ren : Go.Shelf.Ren := ⟨fun | 5 => 134 | 8 => 149 | 7 => 148 | 19 => 164 | 20 => 119 | 10 => 155 | 11 => 156 | 12 => 157 | 13 => 158 | 14 => 159 | 15 => 160 | 16 => 161 | 17 => 162 | 18 => 163 | 30 => 166 | 31 => 167 | 32 => 168 | 33 => 169 | 34 => 170 | 35 => 171 | 40 => 172 | n => n, fun | 23 => 57 | 25 => 2 | 3 => 3 | 32 => 150 | 22 => 57 | 0 => 0 | 44 => 147 | 46 => 126 | 4 => 4 | 36 => 192 | 35 => 191 | 41 => 68 | 5 => 5 | 9 => 9 | 53 => 199 | 57 => 203 | 63 => 206 | 64 => 207 | n => n, fun | n => n⟩
theorem Tryz.laysSlM5_f134 : Go.Proofs.SlLaysM.n5 Tryz.prog Tryz.laysSlM5_f134_ren := {
 mixed := by kernel_rfl
 f5 := ⟨Tryz.f134.name, by decide, Tryz.func134.trans (congrArg some (by kernel_rfl))⟩
 f7 := ⟨Tryz.f148.name, by decide, Tryz.func148.trans (congrArg some (by kernel_rfl))⟩
 f8 := Tryz.func149.trans (congrArg some (by kernel_rfl))
 f10 := ⟨Tryz.f155.name, by decide, Tryz.func155.trans (congrArg some (by kernel_rfl))⟩
 f11 := ⟨Tryz.f156.name, by decide, Tryz.func156.trans (congrArg some (by kernel_rfl))⟩
 f12 := ⟨Tryz.f157.name, by decide, Tryz.func157.trans (congrArg some (by kernel_rfl))⟩
 f13 := ⟨Tryz.f158.name, by decide, Tryz.func158.trans (congrArg some (by kernel_rfl))⟩
 f14 := ⟨Tryz.f159.name, by decide, Tryz.func159.trans (congrArg some (by kernel_rfl))⟩
 f15 := ⟨Tryz.f160.name, by decide, Tryz.func160.trans (congrArg some (by kernel_rfl))⟩
 f16 := ⟨Tryz.f161.name, by decide, Tryz.func161.trans (congrArg some (by kernel_rfl))⟩
 f17 := ⟨Tryz.f162.name, by decide, Tryz.func162.trans (congrArg some (by kernel_rfl))⟩
 f18 := ⟨Tryz.f163.name, by decide, Tryz.func163.trans (congrArg some (by kernel_rfl))⟩
 f19 := Tryz.func164.trans (congrArg some (by kernel_rfl))
 f20 := Tryz.func119.trans (congrArg some (by kernel_rfl))
 f30 := ⟨Tryz.f166.name, by decide, Tryz.func166.trans (congrArg some (by kernel_rfl))⟩
 f31 := Tryz.func167.trans (congrArg some (by kernel_rfl))
 f32 := Tryz.func168.trans (congrArg some (by kernel_rfl))
 f33 := ⟨Tryz.f169.name, by decide, Tryz.func169.trans (congrArg some (by kernel_rfl))⟩
 f34 := ⟨Tryz.f170.name, by decide, Tryz.func170.trans (congrArg some (by kernel_rfl))⟩
 f35 := ⟨Tryz.f171.name, by decide, Tryz.func171.trans (congrArg some (by kernel_rfl))⟩
 f40 := ⟨Tryz.f172.name, by decide, Tryz.func172.trans (congrArg some (by kernel_rfl))⟩
 t0 := Tryz.underlying0
 a0 := Tryz.isAgg0
 z0 := Tryz.sizeOf0
 v0 := Tryz.zeroValue0
 t3 := Tryz.underlying3
 a3 := Tryz.isAgg3
 z3 := Tryz.sizeOf3
 v3 := Tryz.zeroValue3
 t4 := Tryz.underlying4
 a4 := Tryz.isAgg4
 z4 := Tryz.sizeOf4
 v4 := Tryz.zeroValue4
 t5 := Tryz.underlying5
 a5 := Tryz.isAgg5
 z5 := Tryz.sizeOf5
 v5 := Tryz.zeroValue5
 t9 := Tryz.underlying9
 a9 := Tryz.isAgg9
 z9 := Tryz.sizeOf9
 v9 := Tryz.zeroValue9
 t22 := Tryz.underlying57
 a22 := Tryz.isAgg57
 z22 := Tryz.sizeOf57
 v22 := Tryz.zeroValue57
 t23 := Tryz.underlying57
 a23 := Tryz.isAgg57
 z23 := Tryz.sizeOf57
 v23 := Tryz.zeroValue57
 t25 := Tryz.underlying2
 a25 := Tryz.isAgg2
 z25 := Tryz.sizeOf2
 v25 := Tryz.zeroValue2
 t32 := Tryz.underlying150
 a32 := Tryz.isAgg150
 z32 := Tryz.sizeOf150
 v32 := Tryz.zeroValue150
 t35 := Tryz.underlying191
 a35 := Tryz.isAgg191
 z35 := Tryz.sizeOf191
 v35 := Tryz.zeroValue191
 t36 := Tryz.underlying192
 a36 := Tryz.isAgg192
 z36 := Tryz.sizeOf192
 v36 := Tryz.zeroValue192
 t41 := Tryz.underlying68
 a41 := Tryz.isAgg68
 z41 := Tryz.sizeOf68
 v41 := Tryz.zeroValue68
 t44 := Tryz.underlying147
 a44 := Tryz.isAgg147
 z44 := Tryz.sizeOf147
 v44 := Tryz.zeroValue147
 t46 := Tryz.underlying126
 a46 := Tryz.isAgg126
 z46 := Tryz.sizeOf126
 v46 := Tryz.zeroValue126
 t53 := Tryz.underlying199
 a53 := Tryz.isAgg199
 z53 := Tryz.sizeOf199
 v53 := Tryz.zeroValue199
 t57 := Tryz.underlying203
 a57 := Tryz.isAgg203
 z57 := Tryz.sizeOf203
 v57 := Tryz.zeroValue203
 t63 := Tryz.underlying206
 a63 := Tryz.isAgg206
 z63 := Tryz.sizeOf206
 v63 := Tryz.zeroValue206
 t64 := Tryz.underlying207
 a64 := Tryz.isAgg207
 z64 := Tryz.sizeOf207
 v64 := Tryz.zeroValue207 }
open Go.Sort Go.RowKit in
theorem Tryz.slices_Sort_int (blk off cap : Nat) (zs : List Int) (w : World) (hH : Holds (Value.int .i64) w blk off zs.toArray) (hblk : blk < w.heap.size) (hsz : zs.length < 4611686018427387904) :
  Calls Tryz.prog 134 #[.slice (some ⟨blk, off, none⟩) zs.length cap] w fun e w' =>
   e = .returned (.tuple #[]) ∧ ∃ n os, w' = grow (putRow (Value.int .i64) (Sort.ahead w n) blk off (zs.mergeSort fun x y => decide (x ≤ y)).toArray) os := AnyM.slices_Sort_int Tryz.laysSlM5_f134 blk off cap zs w hH hblk hsz
open Go.RowKit Go.Sort in
/-- .. and plain. (LAID AT THE INSTANCE 'slices.Sort[[]int64,int64]': no walk: one application.) -/
theorem Tryz.slices_Sort_int_none (p : Option Addr) (cap : Nat) (w : World) :
  Calls Tryz.prog 134 #[.slice p 0 cap] w fun e w' => e = .returned (.tuple #[]) ∧ w' = w := AnyM.slices_Sort_int_none Tryz.laysSlM5_f134 p cap w
end Go.Proofs
namespace Go.Proofs.YtbekpololmahoaaGreatDoor
open Go.RowKit
set_option linter.unusedVariables false
set_option linter.unusedSimpArgs false
theorem putRow_self_heap {w : World} {g n off : Nat} {cur : Array Value} {e : TypeId} (d : Array Int) (h : w.heap[g]? = some (.cells cur e (0, 0))) :
  (Go.Sort.putRow (Value.int .i64) (Go.Sort.ahead w n) g off d).heap[g]? = some (.cells (Go.Sort.putCells (Value.int .i64) off d cur) e (0, 0)) := by
 simp [Go.Sort.putRow, Go.Sort.mapBlock, Array.getElem?_modify, h, Go.Sort.onCells]
theorem putRow_chg (w : World) (g n off : Nat) (d : Array Int) : Chg (fun x => x = g) w (Go.Sort.putRow (Value.int .i64) (Go.Sort.ahead w n) g off d) :=
 ⟨rfl, rfl, rfl, by simp, fun k hk hf => by simp [Go.Sort.putRow, Go.Sort.mapBlock, Array.getElem?_modify, show ¬ g = k from fun e => hf e.symm]⟩
theorem grow_below (w : World) (os : Array Obj) : Below w.heap.size w (Go.Sort.grow w os) := ⟨rfl, rfl, rfl, by simp, fun k hk => Go.Sort.heap_grow_old w os hk⟩
theorem putCells_get {off k : Nat} {d : Array Int} {cur : Array Value} (h1 : k < d.size) (h2 : off + k < cur.size) : (Go.Sort.putCells (Value.int .i64) off d cur)[off + k]? = some (.int .i64 d[k]!) := by
 simp only [Go.Sort.putCells, Array.getElem?_mapIdx, Array.getElem?_eq_getElem h2, Option.map_some]
 rw [if_pos ⟨by omega, by omega⟩, show off + k - off = k by omega]
theorem arr_get {l : List Int} {k : Nat} (h : k < l.length) : l.toArray[k]! = geti l k := by
 rw [getElem!_pos _ k (by simpa using h), geti_eq h]; simp
theorem holds_X1 {w : World} {g off : Nat} {cs : Array Value} {e : TypeId} {l : List Int} (hh : w.heap[g]? = some (.cells cs e (0, 0))) (hc : ∀ k, k < l.length → cs[off + k]? = some (.int .i64 (geti l k))) :
  Go.Sort.Holds (Value.int .i64) w g off l.toArray := fun j hj => by
 have hj' : j < l.length := by simpa using hj
 exact ⟨by rw [cell_of_block hh, hc j hj', arr_get hj'], frozen_of_block hh _⟩
theorem slSort_any (v : Value) (l : List Int) (g : Nat) (W : World) (h : X1 W v l g) (hl : l.length ≤ 1048576) :
  Calls Tryz.prog 134 #[v] W fun e' w' => e' = .returned (.tuple #[]) ∧ X1 w' v (l.mergeSort fun x y => decide (x ≤ y)) g ∧ Chg (fun x => l ≠ [] ∧ x = g) W w' := by
 obtain ⟨a, c, rfl, h1, h2, hX⟩ := h
 by_cases hn : l = []
 ·subst hn
  refine (Tryz.slices_Sort_int_none a c W).mono ?_
  rintro e' w' ⟨rfl, rfl⟩
  exact ⟨rfl, ⟨a, c, by simp, by simp, h2, fun h => absurd (by simp) h⟩, Chg.refl _ _⟩
 ·obtain ⟨off, cs, e, rfl, hh, hc⟩ := hX hn
  have hlen : (l.mergeSort fun x y => decide (x ≤ y)).length = l.length := List.length_mergeSort l
  refine (Tryz.slices_Sort_int g off c l W (holds_X1 hh hc) (lt_of_heap hh) (by omega)).mono ?_
  rintro e' w' ⟨rfl, n, os, rfl⟩
  generalize (l.mergeSort fun x y => decide (x ≤ y)) = z at *
  have hz := putRow_chg W g n off z.toArray
  have hgl := lt_of_heap hh
  refine ⟨rfl, ⟨some ⟨g, off, none⟩, c, by rw [hlen], by omega, h2, fun _ => ⟨off, _, e, rfl, by rw [Go.Sort.heap_grow_old _ _ (by simpa using hgl)]; exact putRow_self_heap _ hh, fun k hk => ?_⟩⟩, (hz.mono (fun i hi => ⟨hn, hi⟩)).then_below (grow_below _ _)⟩
  rw [putCells_get (by simpa using hk) (Array.getElem?_eq_some_iff.1 (hc k (by omega))).1, arr_get hk]
theorem slCompact_any (v : Value) (l : List Int) (g : Nat) (W : World) (h : X1 W v l g) (hl : l.length ≤ 1048576) :
  Calls Tryz.prog 135 #[v] W fun e' w' => ∃ v', e' = .returned v' ∧ X1 w' v' (Go.Lib.compact l) g ∧ Chg (fun x => l ≠ [] ∧ x = g) W w' := by
 obtain ⟨a, c, rfl, h1, h2, hX⟩ := h
 by_cases hn : l = []
 ·subst hn
  refine (Tryz.slices_Compact_int_empty a c W).mono ?_
  rintro e' w' ⟨rfl, rfl⟩
  exact ⟨_, rfl, ⟨a, c, by simp [Go.Lib.compact, Go.Lib.compactUpTo], by simp [Go.Lib.compact, Go.Lib.compactUpTo], h2, fun h => absurd (by simp [Go.Lib.compact, Go.Lib.compactUpTo]) h⟩, Chg.refl _ _⟩
 ·obtain ⟨off, cs, e, rfl, hh, hc⟩ := hX hn
  have hle : (Go.Lib.compact l).length ≤ l.length := by
   unfold Go.Lib.compact Go.Lib.compactUpTo
   rw [List.length_map]
   exact Nat.le_trans (List.length_filter_le _ _) (by simp)
  refine (Tryz.slices_Compact_int g off c l W (holds_X1 hh hc) (by omega) h1).mono ?_
  rintro e' w' ⟨rfl, q, rfl⟩
  generalize Go.Lib.compact l = z at *
  have hz := putRow_chg W g q off (z ++ List.replicate (l.length - z.length) 0).toArray
  refine ⟨_, rfl, ⟨some ⟨g, off, none⟩, c, rfl, by omega, h2, fun _ => ⟨off, _, e, rfl, putRow_self_heap _ hh, fun k hk => ?_⟩⟩, hz.mono (fun i hi => ⟨hn, hi⟩)⟩
  rw [putCells_get (by simp; omega) (Array.getElem?_eq_some_iff.1 (hc k (by omega))).1, arr_get (by simp; omega), geti_append hk]
theorem slClone_any {S : Nat → Prop} (v : Value) (l : List Int) (W : World) (h : V1 S W v l) (hl : l.length ≤ 1048576) :
  Calls Tryz.prog 55 #[v] W fun e' w' => ∃ v', e' = .returned v' ∧ F1 W.heap.size w' v' l ∧ Below W.heap.size W w' := by
 obtain ⟨a, c, rfl, hm⟩ := h.form
 by_cases hn : l = []
 ·subst hn
  cases a with
  | none =>
    refine (Tryz.slices_Clone_int_nil 0 c W).mono ?_
    rintro e' w' ⟨rfl, rfl⟩
    exact ⟨_, rfl, ⟨0, ⟨none, 0, rfl, Nat.le_refl _, Nat.zero_le _, fun hn => absurd rfl hn⟩, fun hn => absurd rfl hn⟩, Below.refl _ _⟩
  | some a =>
    refine (Tryz.slices_Clone_int_zero a c W).mono ?_
    rintro e' w' ⟨v', rfl, hown, _, hB⟩
    exact ⟨_, rfl, own_F1 (l := []) hown, hB⟩
 ·have hp : 0 < l.length := List.length_pos_iff.2 hn
  obtain ⟨b1, off1, rfl, _, _⟩ := h.cell hp
  refine (Tryz.slices_Clone_int b1 off1 l.length c l W (Nat.le_refl _) (by omega) (fun j hj => ?_)).mono ?_
  ·obtain ⟨b2, off2, e, _, hc⟩ := h.cell hj
   injection e with e
   injection e with e1 e2 _
   subst e1 e2
   rw [hc, geti_eq hj]
   simp [List.getD, hj]
  ·rintro e' w' ⟨v', rfl, hown, _, hB⟩
   rw [List.take_length] at hown
   exact ⟨_, rfl, own_F1 hown, hB⟩
theorem Out2.lo {B : Nat} {w w' : World} {F : Nat → Prop} {v : Value} {ls : List (List Int)} (h : Out2 B w v ls) (hc : Chg F w w') (hF : ∀ b, F b → b < B) : Out2 B w' v ls := by
 obtain ⟨vs, bk, h1, h2, h3⟩ := h
 refine ⟨vs, bk, own_chg h1 hc (fun g hg hf => by have := (h1.lt g hg).1; have := hF g hf; omega), fun k hk => ?_, h3⟩
 obtain ⟨rv, h4, h5⟩ := h2 k hk
 exact ⟨rv, h4, h5.keep fun hn => hc.block _ (h5.lt hn) (fun hf => by have := (h3 k hk hn).1; have := hF _ hf; omega)⟩
theorem opens_any {S S' : Nat → Prop} (u v : Value) (l : List (List Int)) (cuts : List Int) (W : World) (h : V2 S W u l) (hc : V1 S' W v cuts) (hl : cuts.length ≤ l.length) :
  Calls Tryz.prog 81 #[.agg #[u], v] W fun e' w' => e' = .returned (.bool (opensB l cuts)) ∧ Below W.heap.size W w' := by
 obtain ⟨a, c, rfl, hmx⟩ := h.form
 obtain ⟨a', c', rfl, hmx'⟩ := hc.form
 obtain ⟨r, hr⟩ : ∃ r, opensB l cuts = r := ⟨_, rfl⟩
 rw [hr]
 have Hr := Lib.hid hr; clear hr
 obtain ⟨W1, hW1, hB01, hz01, HZ01, hc01, hh01⟩ := box_facts W #[.slice a l.length c] 116
 have hV1 := h.below hB01
 have hC1 := hc.below hB01
 go_enter Tryz.func81, Tryz.ntmps81
 go_wp2_with fail
 rw [← hW1]
 have HW1 := Lib.hid hW1; clear hW1 hh01
 go_loop [5, 6, 9] (fun _ _ i => ∃ k : Nat, k ≤ cuts.length ∧ i = .int .i64 (k : Int) ∧ r = upAll (fun i => hasI (getl l i) (geti cuts i)) cuts.length k) (fun _ _ i => cuts.length - (intOf i).toNat)
 case atStart => exact ⟨0, Nat.zero_le _, rfl, Hr.out.symm⟩
 case round =>
  obtain ⟨k, hk, rfl, hrem⟩ := hrel
  have Hm := Lib.hid hrem; clear hrem
  by_cases hkk : k < cuts.length
  ·obtain ⟨b1, off1, rfl, _, hc1⟩ := hC1.cell hkk
   obtain ⟨b2, off2, a2, c2, rfl, _, hc2, hr2⟩ := hV1.cell (k := k) (by omega)
   cases hg : hasI (getl l k) (geti cuts k)
   ·have HG := Lib.hid hg; clear hg
    go_wp2_with (go_at_call 107; refine (slContains_b _ _ _ _ _ HG.out hr2).mono ?_; rintro e' w' ⟨rfl, rfl⟩)
    go_ret
    exact ⟨ret_bool (by rw [Hm.out, upAll_step hkk, HG.out]; rfl), hB01⟩
   ·have HG := Lib.hid hg; clear hg
    go_wp2_with (go_at_call 107; refine (slContains_b _ _ _ _ _ HG.out hr2).mono ?_; rintro e' w' ⟨rfl, rfl⟩)
    go_round
    case rel => exact ⟨k + 1, by omega, by go_num, by rw [Hm.out, upAll_step hkk, HG.out]; rfl⟩
    case measure => simp [intOf]; omega
  ·obtain rfl : k = cuts.length := by omega
   go_wp2_with fail
   go_ret
   exact ⟨ret_bool (by rw [Hm.out, upAll_end]), hB01⟩
theorem opens_b {S S' : Nat → Prop} (u v : Value) (l : List (List Int)) (cuts : List Int) (W : World) (r : Bool) (hr : opensB l cuts = r) (h : V2 S W u l) (hc : V1 S' W v cuts) (hl : cuts.length ≤ l.length) :
  Calls Tryz.prog 81 #[.agg #[u], v] W fun e' w' => e' = .returned (.bool r) ∧ Below W.heap.size W w' := by subst hr; exact opens_any u v l cuts W h hc hl
theorem hull_after {B LB : Nat} {wo w3 : World} {lv : Value} {n : Nat} {vs : List Value} {T : TypeId} (h1 : wo.ownsRow B 57 1 lv n vs) (hlv : wo.heap[LB]? = some (.cells #[lv] T (0, 0))) (hb : Below wo.heap.size wo w3) :
  w3.ownsRow B 57 1 lv n vs ∧ w3.heap[LB]? = some (.cells #[lv] T (0, 0)) ∧ w3.cell? ⟨LB, 0, none⟩ = some lv ∧ w3.frozen? ⟨LB, 0, none⟩ = false := by
 have h3 := heap_below hlv hb (lt_of_heap hlv)
 exact ⟨own_chg h1 (Chg.of_below (F := fun _ => False) hb) (fun _ _ h => h), h3, cell_of_block h3 0, frozen_of_block h3 0⟩
theorem grown_at {w w' : World} {LB : Nat} {lv : Value} {T : TypeId} {o : Option Nat} (h : w.heap[LB]? = some (.cells #[lv] T (0, 0))) (hg : w.grownBy w' o) (hn : o ≠ some LB) :
  w'.heap[LB]? = some (.cells #[lv] T (0, 0)) ∧ w'.cell? ⟨LB, 0, none⟩ = some lv ∧ w'.frozen? ⟨LB, 0, none⟩ = false := by
 have h3 : w'.heap[LB]? = some (.cells #[lv] T (0, 0)) := by rw [hg.block LB (lt_of_heap h) (fun e => hn e.symm)]; exact h
 exact ⟨h3, cell_of_block h3 0, frozen_of_block h3 0⟩
theorem grown_alloc_at {w w' : World} {LB : Nat} {lv : Value} {T : TypeId} {o : Option Nat} {ob : Obj} (h : w.heap[LB]? = some (.cells #[lv] T (0, 0))) (hg : (w.alloc ob).grownBy w' o) (hn : o ≠ some LB) :
  w'.heap[LB]? = some (.cells #[lv] T (0, 0)) ∧ w'.cell? ⟨LB, 0, none⟩ = some lv ∧ w'.frozen? ⟨LB, 0, none⟩ = false :=
 grown_at (by rw [Below.heap_alloc _ _ _ (lt_of_heap h)]; exact h) hg hn
theorem blk_or {v1 v : Value} {gg H : Nat} (h1 : v1.ownBlock = some gg) (h : v.ownBlock = some gg ∨ gg = H) : v1.ownBlock = v.ownBlock ∨ ∃ g, v1.ownBlock = some g ∧ H ≤ g := by
 rcases h with e | e
 ·exact .inl (h1.trans e.symm)
 ·exact .inr ⟨gg, h1, by omega⟩
theorem X1.alloc {w : World} {v : Value} {l : List Int} {b : Nat} (h : X1 w v l b) (o : Obj) : X1 (w.alloc o) v l b := h.keep fun hn => Below.heap_alloc _ _ _ (h.lt hn)
set_option maxRecDepth 100000 in
set_option maxHeartbeats 2000000 in
theorem hullOf_any {S : Nat → Prop} (m : Mk) (hm : m.ok = true) (v : Value) (keys : List (List Int)) (n : Nat) (W : World) (hn : (n : Int) = m.c) (h : V2 S W v keys) (hl : keys.length ≤ 300)
  (hlen : ∀ k, k < keys.length → (getl keys k).length = n) :
  Calls Tryz.prog 108 #[.agg #[.int .i64 m.c, .int .i64 m.d, .int .i64 m.s, .int .i64 m.e, .int .i64 m.l], v] W fun e' w' => ∃ v', e' = .returned (.agg #[v']) ∧ F2 W.heap.size w' v' (hullR keys n) ∧ Below W.heap.size W w' := by
 have hmk := Mk.ok_iff.1 hm
 obtain ⟨a, c, rfl, hmx⟩ := h.form
 have hn1 : (n : Int) ≤ m.c := by omega
 have hn2 : m.c ≤ n := by omega
 have hn6 : n ≤ 6 := by omega
 have Hlen := Lib.hid hlen; clear hlen hmk hm hn
 obtain ⟨W1, hW1, hB01, hz01, HZ01, hc01, hh01, hc02, hh02⟩ := two_boxes W #[.int .i64 m.c, .int .i64 m.d, .int .i64 m.s, .int .i64 m.e, .int .i64 m.l] #[.slice none 0 0] 32 116
 obtain ⟨W2, hW2, hB12, hz12, HZ12, hc12, hh12⟩ := box_facts W1 #[.slice none 0 0] 116
 have hB02 := hB01.trans (hB12.mono hB01.size)
 have hV2 := h.below hB02
 obtain ⟨i0, hi, hz0, hz1, hz2⟩ := info_parts inf_ints
 have Hh := Lib.hid (And.intro hh01 (And.intro hh02 hh12)); clear hh01 hh02 hh12 hc01 hc02 hc12
 go_enter Tryz.func108, Tryz.ntmps108
 go_wp2_with fail
 rw [← hW1, ← hW2, show W.heap.size + 1 + 1 = W1.heap.size from HZ01.out.symm]
 have HW1 := Lib.hid (And.intro hW1 hW2); clear hW1 hW2
 have h0 : Out2 W2.heap.size W2 (.slice none 0 0) [] := Out2.nil ⟨rfl, .inl ⟨rfl, rfl⟩⟩
 have H0 := Lib.hid h0; clear h0
 go_loopw [6, 7, 9, 13] (fun _ _ _ i wr => ∃ (x : Nat) (lv : Value), x ≤ n ∧ i = .int .i64 (x : Int) ∧ wr.heap[W1.heap.size]? = some (.cells #[lv] 116 (0, 0)) ∧ Out2 W2.heap.size wr lv (hullR keys x) ∧ Below W1.heap.size W1 wr ∧ W2.heap.size ≤ wr.heap.size) (fun _ _ _ i _ => n - (intOf i).toNat)
 case atStart => exact ⟨0, _, Nat.zero_le _, rfl, Hh.out.2.2, H0.out, hB12, Nat.le_refl _⟩
 case round =>
  obtain ⟨x, lv, hx, rfl, hlv, hO, hB, hzr⟩ := hrel
  obtain ⟨wo, rfl⟩ : ∃ wo, wo = wr := ⟨_, rfl⟩
  by_cases hxn : x < n
  ·obtain ⟨B, hB0⟩ : ∃ B, B = wo.heap.size := ⟨_, rfl⟩
   have hown0 := own_lit0 wo B 2 1 (by omega)
   have HO := Lib.hid hO; clear hO
   have Hlv := Lib.hid hlv; clear hlv
   have hxd : decide ((x : Int) < m.c) = true := by simp; omega
   go_wp2_with fail
   go_loopw [7, 9, 19] (fun ro _ j wn => ∃ q : Nat, q ≤ keys.length ∧ j = .int .i64 (q : Int) ∧ wn.ownsRow B 2 1 ro q (((colOf keys x).take q).map (Value.int .i64)) ∧ Below B wo wn) (fun _ _ j _ => keys.length - (intOf j).toNat)
   case atStart => exact ⟨0, Nat.zero_le _, rfl, hown0, (Below.refl _ _).alloc (by omega) _⟩
   case round =>
    obtain ⟨q, hq, rfl, hown, hBn⟩ := hrel
    have hzn := hBn.size
    have hBW := hB.trans (hBn.mono (by omega))
    by_cases hqq : q < keys.length
    ·obtain ⟨b1, off1, a1, c1, rfl, _, hc1, hr1⟩ := ((h.below hB01).below hBW).cell hqq
     have hxq : x < (getl keys q).length := by rw [Hlen.out q hqq]; exact hxn
     obtain ⟨b2, off2, rfl, _, hc2⟩ := hr1.cell hxq
     have hll := hr1.len
     unfold maxLen at hll
     have hst := colOf_take (i := x) hqq
     have Hst := Lib.hid hst; clear hst
     go_wp2_with (at_builtin; refine wp_app1 _ rfl _ _ 57 rfl B 2 (.int .i64 0) 8 Tryz.underlying57 inf_int rfl _ _ _ rfl hown (.int .i64 (geti (getl keys q) x)) _ rfl rfl (by omega) (by omega) (by omega) ?_; intro v1 w1 hown1 hgrow1 hblk1 hB1)
     go_roundw
     case rel => exact ⟨q + 1, by omega, by go_num, by rw [Hst.out, List.map_append]; exact hown1, hBn.trans (hB1.mono (Nat.le_refl _))⟩
     case measure => simp [intOf]; omega
    ·obtain rfl : q = keys.length := by omega
     have hBwo : Below wo.heap.size wo wr := hBn.mono (by omega)
     have hcl : (colOf keys x).take keys.length = colOf keys x := List.take_of_length_le (by rw [colOf_len]; omega)
     rw [hcl] at hown
     have hcll : (colOf keys x).length = keys.length := colOf_len keys x
     obtain ⟨bx, hx1, hbx⟩ := own_F1 (l := colOf keys x) hown
     obtain ⟨ra, rc, rfl, hrc1, hrc2⟩ := own_form hown
     have hcl300 : (colOf keys x).length ≤ 300 := by omega
     have Hcll := Lib.hid (And.intro hcl hcll); clear hcl hcll hown
     go_wp2_with fail
     refine (slSort_any _ (colOf keys x) bx _ hx1 (by omega)).mono ?_
     rintro e' w2 ⟨rfl, hx2, hc2⟩
     have hnb : colOf keys x ≠ [] → B ≤ bx := hbx
     have hBs : Below wo.heap.size wo w2 := hBwo.trans (hc2.to_below (fun i hi => by have := hnb hi.1; omega) hBwo.size)
     have hlz : ((colOf keys x).mergeSort fun x y => decide (x ≤ y)).length = (colOf keys x).length := List.length_mergeSort _
     have hnz : ((colOf keys x).mergeSort fun x y => decide (x ≤ y)) ≠ [] ↔ colOf keys x ≠ [] := by rw [Ne, ← List.length_eq_zero_iff, hlz, List.length_eq_zero_iff]
     have hlz2 : ((colOf keys x).mergeSort fun x y => decide (x ≤ y)).length ≤ 1048576 := by omega
     have hdf : Go.Lib.compact ((colOf keys x).mergeSort fun x y => decide (x ≤ y)) = diffI (colOf keys x) := rfl
     have hdn : diffI (colOf keys x) ≠ [] → colOf keys x ≠ [] := fun hn e => hn (by rw [e]; simp [diffI, Go.Lib.compact, Go.Lib.compactUpTo])
     obtain ⟨vs, bk, g1, g2, g3⟩ := HO.out
     obtain ⟨oa, oc, rfl, ho1, ho2⟩ := own_form g1
     have hlx := Nat.le_of_eq (hullR_len keys x)
     obtain ⟨hown2, hh2, hcl2, hfl2⟩ := hull_after g1 Hlv.out hBs
     have G := Lib.hid (And.intro g1 (And.intro g2 g3)); clear g1 g2 g3
     have Hx2 := Lib.hid (hx2.keep (w' := w2.drew) (fun _ => rfl)); clear hx2 hx1
     have Hn := Lib.hid (And.intro hnb (And.intro hnz (And.intro hdf hdn))); clear hnb hnz hdf hdn hbx hc2
     have Hh2 := Lib.hid (And.intro hown2 hh2); clear hown2 hh2
     have Hlz := Lib.hid (And.intro hlz hlz2); clear hlz hlz2
     have hzB : W2.heap.size ≤ w2.heap.size := by have := hBs.size; omega
     go_wp2_with fail
     go_region_law (first | (go_simp; go_at_call 135; refine (slCompact_any _ _ bx _ Hx2.out Hlz.out.2).mono ?_; rintro e' w3 ⟨v3, rfl, hx3, hc3⟩; rw [Hn.out.2.2.1] at hx3; obtain ⟨a3, c3, rfl, hcc3, _⟩ := id hx3; have hb3 : Below wo.heap.size wo w3 := (hBs.drew).trans (hc3.to_below (fun i hi => by have := Hn.out.1 (Hn.out.2.1.1 hi.1); omega) hBs.size); obtain ⟨hown3, hh3, hcl3, hfl3⟩ := hull_after G.out.1 Hlv.out hb3; have hz3 := lt_of_heap hh3; have hcl3a : ∀ o, (w3.alloc o).cell? ⟨W1.heap.size, 0, none⟩ = some (.slice oa (hullR keys x).length oc) := (fun o => cell_keep hcl3 (Below.heap_alloc _ _ _ hz3)); (try dsimp only)) | (refine step_append_lies _ (by rfl) _ _ _ (by rfl) W2.heap.size 57 i0 _ 1 24 Tryz.underlying33 hi hz0 hz1 hz2 rfl (by omega) _ (hullR keys x).length _ (by rfl) (hown3.alloc _) ⟨_, 0, none⟩ 1 1 [.slice a3 (diffI (colOf keys x)).length c3] (by rfl) (by rfl) (World.news_of_block (heap_alloc_new _ _)) (by simp [Value.oneCell']) (by omega) (by unfold maxLen; omega) (by omega) (by have := hb3.size; simp; omega) _ rfl ?_; intro gg cap w4 hown4 hgrow4 hat4 hlt4; obtain ⟨hh4, hcl4, hfl4⟩ := grown_alloc_at hh3 hgrow4 (fun e => by have := (hown3.lt _ e).1; omega)))
     all_goals
      have hz4 := hgrow4.size
      simp only [World.size_alloc] at hz4
      have hb3a : Below wo.heap.size wo (w3.alloc (.cells #[.slice a3 (diffI (colOf keys x)).length c3] 57)) := hb3.alloc hb3.size _
      have hO4 := Out2.push G.out.1 G.out.2.1 G.out.2.2 (by omega) hb3a (hx3.alloc _) (fun hn => by have := Hn.out.1 (Hn.out.2.2.2 hn); omega) hown4 hgrow4 (blk_or rfl hat4)
      have hs4 := heap_setCell_self (off := 0) hh4 (.slice (some ⟨gg, 0, none⟩) ((hullR keys x).length + 1) cap)
      have hO5 := Out2.lo hO4 ((Chg.refl (fun b => b = W1.heap.size) _).setCell (.inl rfl) (p := ⟨W1.heap.size, 0, none⟩) (.slice (some ⟨gg, 0, none⟩) ((hullR keys x).length + 1) cap)) (fun b hb => by omega)
      have hb34 : Below W1.heap.size w3 w4 := ((Below.refl _ _).alloc (by have := hb3.size; have := hB.size; omega) _).grown hgrow4 (by have := hb3.size; have := hB.size; simp; omega) (fun k hk => by have := (hown3.lt _ hk).1; omega)
      have hB4 := ((hB.trans (hb3.mono (by omega))).trans hb34).setCell (p := ⟨W1.heap.size, 0, none⟩) (Nat.le_refl _) (.slice (some ⟨gg, 0, none⟩) ((hullR keys x).length + 1) cap)
      have H5 := Lib.hid (And.intro hs4 (And.intro hO5 hB4)); clear hs4 hO5 hB4 hO4
      have hzf : W2.heap.size ≤ w4.heap.size := by have := hb3.size; omega
      go_wp2_with fail
      go_roundw
      case rel => exact ⟨x + 1, _, by omega, by go_num, H5.out.1, H5.out.2.1, H5.out.2.2, by simp; omega⟩
      case measure => simp [intOf]; omega
  ·obtain rfl : x = n := by omega
   have hfx := hO.f2
   have hlx := Nat.le_of_eq (hullR_len keys x)
   obtain ⟨oa, oc, rfl, ho1, ho2⟩ := hO.form
   have hcl := cell_of_block hlv 0
   have hzx := hB01.size
   have hres : wo.heap[W.heap.size + 1]? = some (.cells #[.slice none 0 0] 116 (0, 0)) := heap_below Hh.out.2.1 hB hz01
   have hrc := cell_of_block hres 0
   have hrf := frozen_of_block hres 0
   have hrs := cell_of_block (heap_setCell_self (off := 0) hres (.slice oa (hullR keys x).length oc)) 0
   have Hrs := Lib.hid hrs; clear hrs hres hlv
   have Hfx := Lib.hid hfx; clear hfx
   go_wp2_with fail
   have hrs := Hrs.out
   simp at hrs
   refine bodyPost_ret (v := .agg #[.slice oa (hullR keys x).length oc]) (by simp [results, Tryz.results108, go_sem, hrs]) rfl ⟨_, rfl, ?_, ?_⟩
   ·exact (F2.set Hfx.out (by omega)).mono (by omega)
   ·have hbb := hB01.trans (hB.mono (by omega))
    exact by (repeat (first | (with_reducible refine Below.setCell ?_ ?_ _) | (with_reducible refine Below.alloc ?_ ?_ _) | (with_reducible refine Below.drew ?_) | (with_reducible refine below_drewN ?_ _) | (with_reducible exact Below.refl _ _) | (with_reducible assumption) | (with_reducible refine Below.trans ?_ (Below.mono (by with_reducible assumption) ?_)) | go_size))
/-- What is known of tables and cuts that fit. -/
structure Fits (m : Mk) (t cuts : List (List Int)) : Prop where
 ok : m.ok = true
 rows : 1 ≤ t.length ∧ t.length ≤ 10
 cols : ∀ k, k < t.length → (getl t k).length = (getl t 0).length
 doors : 1 ≤ (getl t 0).length ∧ (getl t 0).length ≤ 12
 bits : ∀ k, k < t.length → ∀ x ∈ getl t k, 0 ≤ x ∧ x ≤ 1
 few : cuts.length ≤ t.length
 keys : ∀ k, k < cuts.length → isKeyB m (getl cuts k) = true
 lens : ∀ k, k < cuts.length → ((getl cuts k).length : Int) = m.c
 deps : ∀ k, k < cuts.length → ∀ c, c < (getl cuts k).length → 0 ≤ geti (getl cuts k) c ∧ geti (getl cuts k) c ≤ m.d - 1
/-- v is a slice of the call's own (from block B on); its elements hold ls, in memory from block B on, none of it in v's own block. -/
def OutL (B : Nat) (w : World) (v : Value) (ls : List (List (List Int))) : Prop :=
 ∃ vs : List Value, w.ownsRow B 116 1 v ls.length vs ∧ ∀ k, k < ls.length → ∃ rv, vs[k]? = some rv ∧ V2 (fun b => B ≤ b ∧ v.ownBlock ≠ some b) w rv (getll ls k)
theorem OutL.nil {B : Nat} {w : World} {v : Value} (h : w.ownsRow B 116 1 v 0 []) : OutL B w v [] := ⟨[], h, fun k hk => by simp at hk⟩
theorem OutL.start (w : World) (B : Nat) (hb : B ≤ w.heap.size) : OutL B (w.alloc (.cells #[] 116)) (.slice (some ⟨w.heap.size, 0, none⟩) 0 0) [] := OutL.nil (own_lit0 w B _ 1 hb)
theorem OutL.keep {B : Nat} {w w' : World} {v : Value} {ls : List (List (List Int))} (h : OutL B w v ls) (hb : Below w.heap.size w w') : OutL B w' v ls := by
 obtain ⟨vs, h1, h2⟩ := h
 refine ⟨vs, own_chg h1 (Chg.of_below (F := fun _ => False) hb) (fun _ _ h => h), fun k hk => ?_⟩
 obtain ⟨rv, h4, h5⟩ := h2 k hk
 exact ⟨rv, h4, h5.below hb⟩
theorem OutL.form {B : Nat} {w : World} {v : Value} {ls : List (List (List Int))} (h : OutL B w v ls) : ∃ a c, v = .slice a ls.length c ∧ ls.length ≤ c ∧ c ≤ maxLen := by
 obtain ⟨vs, h1, h2⟩ := h; exact own_form h1
theorem OutL.push {B B2 : Nat} {w w2 w1 : World} {v v1 rv : Value} {ls : List (List (List Int))} {l : List (List Int)} {vs : List Value}
  (h1 : w.ownsRow B 116 1 v ls.length vs) (h2 : ∀ k, k < ls.length → ∃ rv, vs[k]? = some rv ∧ V2 (fun b => B ≤ b ∧ v.ownBlock ≠ some b) w rv (getll ls k))
  (hB : B ≤ w.heap.size) (hb : Below w.heap.size w w2) (hx : F2 B2 w2 rv l) (hB2 : w.heap.size ≤ B2)
  (hown : w1.ownsRow B 116 1 v1 (ls.length + 1) (vs ++ [rv])) (hg : w2.grownBy w1 v.ownBlock) (hblk : v1.ownBlock = v.ownBlock ∨ ∃ g, v1.ownBlock = some g ∧ w2.heap.size ≤ g) : OutL B w1 v1 (ls ++ [l]) := by
 have hvl : ∀ g, v.ownBlock = some g → g < w.heap.size := fun g hgg => (h1.lt g hgg).2
 have hne1 : ∀ c, c < w2.heap.size → v.ownBlock ≠ some c → v1.ownBlock ≠ some c := fun c hc hn e => by
  rcases hblk with e1 | ⟨g, e1, hge⟩
  ·exact hn (e1.symm.trans e)
  ·rw [e] at e1; cases e1; omega
 have hvl1 := h1.1
 have hz := hb.size
 refine ⟨vs ++ [rv], by simpa using hown, fun k hk => ?_⟩
 by_cases hkl : k < ls.length
 ·obtain ⟨rv', h4, h5⟩ := h2 k hkl
  refine ⟨rv', by rw [List.getElem?_append_left (by omega)]; exact h4, ?_⟩
  rw [getll_append1 hkl]
  exact h5.mono (fun b hS hlt => ⟨hS.1, hne1 b (by omega) hS.2⟩) (fun b hS hlt => by rw [hg.block b (by omega) (fun e => hS.2 e.symm), hb.block b hlt])
 ·have e : k = ls.length := by simp at hk; omega
  subst e
  refine ⟨rv, by rw [List.getElem?_append_right (by omega)]; simp [show ls.length - vs.length = 0 by omega], ?_⟩
  rw [getll_last]
  exact hx.v2.mono (fun b hS hlt => ⟨by have : B2 ≤ b := hS; omega, hne1 b hlt (fun e => by have := hvl b e; have : B2 ≤ b := hS; omega)⟩) (fun b hS hlt => hg.block b hlt (fun e => by have := hvl b e.symm; have : B2 ≤ b := hS; omega))
theorem OutL.v3 {B : Nat} {w : World} {v : Value} {ls : List (List (List Int))} (h : OutL B w v ls) : V3 (fun b => B ≤ b) w v ls := by
 obtain ⟨vs, h1, h2⟩ := h
 have hvl := h1.1
 rcases h1.2 with ⟨rfl, h0⟩ | ⟨g, cap, cur, rfl, hb, hh, hc, hm, hs, ht⟩
 ·exact ⟨none, 0, by rw [h0], by omega, Nat.zero_le _, fun k hk => by omega⟩
 ·refine ⟨_, cap, rfl, hc, hm, fun k hk => ?_⟩
  obtain ⟨rv, h4, h5⟩ := h2 k hk
  refine ⟨g, 0, rv, rfl, hb, ?_, h5.mono (fun _ h _ => h.1) (fun _ _ _ => rfl)⟩
  have h6 : (cur.toList.take (ls.length * 1))[k]? = vs[k]? := by rw [ht]
  rw [List.getElem?_take, if_pos (by omega), h4] at h6
  rw [Nat.zero_add, cell_of_block hh, ← Array.getElem?_toList, h6]
theorem inf_lock : (Tryz.prog.info? 116).map (fun i => (i.zero, i.size, i.bytes)) = some (some (.agg #[.slice none 0 0]), 1, 24) := by kernel_rfl
/-- One cell of a slice of locks. -/
theorem V3.cell {S : Nat → Prop} {w : World} {a : Option Addr} {n c k : Nat} {l : List (List (List Int))} (h : V3 S w (.slice a n c) l) (hk : k < l.length) : ∃ b off a' c', a = some ⟨b, off, none⟩ ∧ S b ∧ w.cell? ⟨b, off + k, none⟩ = some (.slice a' (getll l k).length c') ∧ V2 S w (.slice a' (getll l k).length c') (getll l k) := by
 obtain ⟨a', c', e, hl, hm, h⟩ := h
 simp only [Value.slice.injEq] at e
 obtain ⟨rfl, rfl, rfl⟩ := e
 obtain ⟨b, off, ev, ha, hb, hc, hr⟩ := h k hk
 have hr' := hr
 obtain ⟨a2, c2, rfl, _⟩ := hr
 exact ⟨b, off, a2, c2, ha, hb, hc, hr'⟩
theorem V3.form {S : Nat → Prop} {w : World} {v : Value} {l : List (List (List Int))} (h : V3 S w v l) : ∃ a c, v = .slice a l.length c ∧ l.length ≤ 9223372036854775807 := by
 obtain ⟨a, c, rfl, h1, h2, _⟩ := h
 exact ⟨a, c, rfl, by unfold maxLen at h2; omega⟩
theorem V3.any {S : Nat → Prop} {w : World} {v : Value} {l : List (List (List Int))} (h : V3 S w v l) : V3 (fun _ => True) w v l := h.mono (fun _ _ _ => trivial) (fun _ _ _ => rfl)
theorem doorCuts_lens {m : Mk} {t cuts : List (List Int)} {n d : Nat} (hf : Fits m t cuts) (hn : (n : Int) = m.c) : ∀ k, k < (doorCuts t cuts d cuts.length).length → (getl (doorCuts t cuts d cuts.length) k).length = n := fun k hk => by
 obtain ⟨i, h1, h2, _⟩ := mem_doorCuts (getl_mem hk)
 rw [h2]
 have := hf.lens i h1
 omega
theorem doorCuts_deps {m : Mk} {t cuts : List (List Int)} {n d : Nat} (hf : Fits m t cuts) (hn : (n : Int) = m.c) : ∀ k, k < (doorCuts t cuts d cuts.length).length → ∀ i, i < n → 0 ≤ geti (getl (doorCuts t cuts d cuts.length) k) i ∧ geti (getl (doorCuts t cuts d cuts.length) k) i ≤ m.d - 1 := fun k hk i hi => by
 obtain ⟨j, h1, h2, _⟩ := mem_doorCuts (getl_mem hk)
 rw [h2]
 exact hf.deps j h1 i (by have := hf.lens j h1; omega)
set_option maxRecDepth 100000 in
set_option maxHeartbeats 2000000 in
theorem partLocks_any {S S' : Nat → Prop} (m : Mk) (u v : Value) (t cuts : List (List Int)) (n : Nat) (W : World) (hf : Fits m t cuts) (hn : (n : Int) = m.c) (h : V2 S W u t) (hc : V2 S' W v cuts) :
  Calls Tryz.prog 80 #[.agg #[.int .i64 m.c, .int .i64 m.d, .int .i64 m.s, .int .i64 m.e, .int .i64 m.l, u], v] W fun e' w' => ∃ v', e' = .returned v' ∧ V3 (fun b => W.heap.size ≤ b) w' v' (locksTo n t cuts (getl t 0).length) ∧ Below W.heap.size W w' := by
 obtain ⟨a, c, rfl, hmx⟩ := h.form
 obtain ⟨a', c', rfl, hmx'⟩ := hc.form
 have hrows := hf.rows
 have hdoors := hf.doors
 have hfew := hf.few
 have hok := hf.ok
 have hcols := hf.cols
 have hlk := fun d => doorCuts_lens (d := d) hf hn
 have Hcols := Lib.hid hcols; clear hcols
 have Hlk := Lib.hid hlk; clear hlk
 have Hok := Lib.hid (And.intro hok hn); clear hok hf hn
 obtain ⟨W1, hW1, hB01, hz01, HZ01, hc01, hh01⟩ := box_facts W #[.int .i64 m.c, .int .i64 m.d, .int .i64 m.s, .int .i64 m.e, .int .i64 m.l, .slice a t.length c] 35
 have hV1 := (h.below hB01).any
 have hC1 := (hc.below hB01).any
 obtain ⟨b0, off0, a0, c0, rfl, _, hcc0, hr0⟩ := h.cell (k := 0) (by omega)
 simp only [Nat.add_zero] at hcc0
 have hcA : ∀ o1 o2, ((W.alloc o1).alloc o2).cell? ⟨b0, off0, none⟩ = some (.slice a0 (getl t 0).length c0) := fun o1 o2 => cell_keep hcc0 ((show Below W.heap.size W ((W.alloc o1).alloc o2) from by go_grown).block _ (lt_of_cell hcc0))
 have hl0 := hr0.len
 unfold maxLen at hl0
 have hout0 := OutL.start W1 W1.heap.size (Nat.le_refl _)
 have Hout0 := Lib.hid hout0; clear hout0
 go_enter Tryz.func80, Tryz.ntmps80
 go_wp2_with fail
 rw [← hW1, show W.heap.size + 1 = W1.heap.size from HZ01.out.symm]
 have HW1 := Lib.hid hW1; clear hW1 hh01
 have Hc01 := Lib.hid hc01; clear hc01
 have Hcc0 := Lib.hid hcc0; clear hcc0 hcA
 go_loopw [5, 6, 7, 9, 16] (fun ou _ _ _ i wr => ∃ x : Nat, x ≤ (getl t 0).length ∧ i = .int .i64 (x : Int) ∧ OutL W1.heap.size wr ou (locksTo n t cuts x) ∧ Below W1.heap.size W1 wr) (fun _ _ _ _ i _ => (getl t 0).length - (intOf i).toNat)
 case atStart => exact ⟨0, Nat.zero_le _, rfl, Hout0.out, (Below.refl _ _).alloc (Nat.le_refl _) _⟩
 case round =>
  obtain ⟨x, hx, rfl, hO, hB⟩ := hrel
  obtain ⟨wo, rfl⟩ : ∃ wo, wo = wr := ⟨_, rfl⟩
  have hzr := hB.size
  by_cases hxn : x < (getl t 0).length
  ·obtain ⟨B, hB0⟩ : ∃ B, B = wo.heap.size := ⟨_, rfl⟩
   have hdd : ∀ j, j < t.length → x < (getl t j).length := fun j hj => by rw [Hcols.out j hj]; exact hxn
   have Hdd := Lib.hid hdd; clear hdd
   have hown0 := own_lit0 wo B 57 1 (by omega)
   have HO := Lib.hid hO; clear hO
   have hzo : W.heap.size < wo.heap.size := by omega
   have hxo : ∀ o, wo.cell? ⟨W.heap.size, o, none⟩ = (#[.int .i64 m.c, .int .i64 m.d, .int .i64 m.s, .int .i64 m.e, .int .i64 m.l, .slice (some ⟨b0, off0, none⟩) t.length c] : Array Value)[o]? := fun o => by rw [(bcell hB).1 _ _ hz01, Hc01.out]
   go_wp2_with fail
   refine (rowsFor_any m _ t x _ (hV1.below (hB.alloc hzr _)) Hdd.out (by omega)).mono ?_
   rintro e' w3 ⟨v3, rfl, hF, hb3⟩
   have hb03 : Below B wo w3 := ((Below.refl _ _).alloc (by omega) _).trans (hb3.mono (by simp; omega))
   have hB3 := hB.trans (hb03.mono (by omega))
   have hz3 := hb3.size
   simp only [World.size_alloc] at hz3
   have hown3 : w3.ownsRow B 57 1 (.slice (some ⟨wo.heap.size, 0, none⟩) 0 0) 0 [] := own_keep hown0 hb3
   have hrl := rowsF_len t x t.length
   obtain ⟨a3, c3, rfl, hl3⟩ := hF.v1.form
   have hV3 : V1 (fun b => B < b ∧ b < w3.heap.size) w3 (.slice a3 (rowsF t x t.length).length c3) (rowsF t x t.length) := hF.v1.mono (fun b h1 h2 => ⟨by simp at h1; omega, h2⟩) (fun _ _ _ => rfl)
   have hmem : ∀ j, j < (rowsF t x t.length).length → ∃ i : Nat, geti (rowsF t x t.length) j = i ∧ i < t.length := fun j hj => by
    obtain ⟨i, h1, h2, _⟩ := mem_rowsF.1 (geti_mem hj)
    exact ⟨i, h2, h1⟩
   have hall : cutsAt cuts cuts.length (rowsF t x t.length) = doorCuts t cuts x cuts.length := by rw [cutsAt_all, Nat.min_eq_right hfew]
   have Hmem := Lib.hid hmem; clear hmem
   have Hall := Lib.hid hall; clear hall
   clear hF hown0 hb3 hxo
   generalize rowsF t x t.length = rs at *
   go_wp2_with fail
   go_loopw [7, 9, 24] (fun o _ i wn => ∃ (j : Nat) (vs : List Value), j ≤ rs.length ∧ i = .int .i64 (j : Int) ∧ wn.ownsRow B 57 1 o (cutsAt cuts cuts.length (rs.take j)).length vs ∧ RowVs (fun _ => True) W1 vs (cutsAt cuts cuts.length (rs.take j)) ∧ V1 (fun b => B < b ∧ b < w3.heap.size) wn (.slice a3 rs.length c3) rs ∧ (∀ g, o.ownBlock = some g → g = B ∨ w3.heap.size ≤ g) ∧ w3.heap.size ≤ wn.heap.size ∧ Below B wo wn) (fun _ _ i _ => rs.length - (intOf i).toNat)
   case atStart => exact ⟨0, [], Nat.zero_le _, rfl, hown3, RowVs.nil, hV3, fun g hg => .inl (by cases hg; exact hB0.symm), Nat.le_refl _, hb03⟩
   case round =>
    obtain ⟨j, vs, hj, rfl, hown, hR, hVn, hob, hzn, hBn⟩ := hrel
    have hBW := hB.trans (hBn.mono (by omega))
    have hcl := cutsAt_len cuts cuts.length (rs.take j)
    have htl : (rs.take j).length ≤ j := List.length_take_le _ _
    by_cases hjj : j < rs.length
    ·obtain ⟨i, he, hit⟩ := Hmem.out j hjj
     obtain ⟨b2, off2, rfl, _, hc2⟩ := hVn.cell hjj
     rw [he] at hc2
     have hstep := cutsAt_step (cuts := cuts) (n := cuts.length) hjj
     rw [he] at hstep
     by_cases hic : i < cuts.length
     ·rw [if_pos (by omega)] at hstep
      simp only [Int.toNat_natCast] at hstep
      obtain ⟨b1, off1, a1, c1, rfl, _, hc1', hr1'⟩ := hC1.cell hic
      have hc1 := cell_keep hc1' (hBW.block _ (lt_of_cell hc1'))
      clear hc1'
      have hcd : decide ((i : Int) < (cuts.length : Int)) = true := by simp; omega
      have hcap := hC1.cap
      have Hst := Lib.hid hstep; clear hstep
      have He := Lib.hid he; clear he
      have hgl : (getl cuts i).length ≤ maxLen := hr1'.len
      unfold maxLen at hgl
      go_wp2_with (at_builtin; refine wp_app1 _ rfl _ _ 33 rfl B 57 (.slice none 0 0) 24 Tryz.underlying33 inf_ints rfl _ _ _ rfl hown (.slice a1 (getl cuts i).length c1) _ rfl rfl (by omega) (by omega) (by omega) ?_; intro v1 w1 hown1 hgrow1 hblk1 hB1)
      go_roundw
      case rel =>
       refine ⟨j + 1, _, by omega, by go_num, by rw [Hst.out, List.length_append]; exact hown1, by rw [Hst.out]; exact hR.snoc hr1', hVn.mono (fun _ h _ => h) (grow_keep hgrow1 fun g hg hS => ?_), fun g hg => ?_, ?_, hBn.trans (hB1.mono (Nat.le_refl _))⟩
       ·rcases hob g hg with h | h <;> omega
       ·rcases hblk1 with h | ⟨g', h, hg'⟩
        ·exact hob g (h.symm.trans hg)
        ·rw [hg] at h; cases h; right; omega
       ·have := hB1.size; omega
      case measure => simp [intOf]; omega
     ·rw [if_neg (by omega), List.append_nil] at hstep
      have hcd : decide ((i : Int) < (cuts.length : Int)) = false := by simp; omega
      have Hst := Lib.hid hstep; clear hstep
      have He := Lib.hid he; clear he
      go_wp2_with fail
      go_roundw
      case rel => exact ⟨j + 1, _, by omega, by go_num, by rw [Hst.out]; exact hown, by rw [Hst.out]; exact hR, hVn, hob, hzn, hBn⟩
      case measure => simp [intOf]; omega
    ·obtain rfl : j = rs.length := by omega
     rw [List.take_length, Hall.out] at hown hR
     have hV4 := own_V2 hown (hR.keep (Below.keep hBW fun _ _ h => h))
     have hdl := doorCuts_len t cuts x cuts.length
     have hxr : ∀ o, wr.cell? ⟨W.heap.size, o, none⟩ = (#[.int .i64 m.c, .int .i64 m.d, .int .i64 m.s, .int .i64 m.e, .int .i64 m.l, .slice (some ⟨b0, off0, none⟩) t.length c] : Array Value)[o]? := fun o => by rw [(bcell hBW).1 _ _ hz01, Hc01.out]
     obtain ⟨ka, kc, rfl, hkc1, hkc2⟩ := own_form hown
     clear hown hR hob hVn
     go_wp2_with fail
     refine (hullOf_any m Hok.out.1 _ (doorCuts t cuts x cuts.length) n _ Hok.out.2 hV4 (by omega) (Hlk.out x)).mono ?_
     rintro e' w4 ⟨v4, rfl, hF4, hb4⟩
     obtain ⟨vs4, g1, g2⟩ := HO.out
     have hBo4 : Below wo.heap.size wo w4 := (hBn.mono (by omega)).trans (hb4.mono (by omega))
     have hO4 := own_chg g1 (Chg.of_below (F := fun _ => False) hBo4) (fun _ _ h => h)
     have hz4 := hBo4.size
     obtain ⟨a4, c4, rfl, _⟩ := hF4.v2.form
     have hln := Nat.le_of_eq (hullR_len (doorCuts t cuts x cuts.length) n)
     have hlx := Nat.le_of_eq (locksTo_len n t cuts x)
     have G := Lib.hid (And.intro g1 (And.intro g2 hF4)); clear g1 g2 hF4 hV4 hxr
     go_wp2_with (at_builtin; refine wp_app1 _ rfl _ _ 113 rfl W1.heap.size 116 (.agg #[.slice none 0 0]) 24 Tryz.underlying113 inf_lock rfl _ _ _ rfl hO4 (.slice a4 (hullR (doorCuts t cuts x cuts.length) n).length c4) _ rfl rfl (by omega) (by omega) (by omega) ?_; intro v1 w1 hown1 hgrow1 hblk1 hB1)
     go_roundw
     case rel => exact ⟨x + 1, by omega, by go_num, by rw [locksTo]; exact OutL.push G.out.1 G.out.2.1 hzr hBo4 G.out.2.2 (by omega) hown1 hgrow1 hblk1, (hB.trans (hBo4.mono hzr)).trans hB1⟩
     case measure => simp [intOf]; omega
  ·obtain rfl : x = (getl t 0).length := by omega
   have hfx := hO.v3
   have Hfx := Lib.hid hfx; clear hfx
   go_wp2_with fail
   go_ret
   exact ⟨_, rfl, Hfx.out.mono (fun b h _ => by have : W1.heap.size ≤ b := h; omega) (fun _ _ _ => rfl), hB01.trans (hB.mono (by omega))⟩
set_option maxRecDepth 100000 in
set_option maxHeartbeats 2000000 in
theorem l15Lock_any {S S' : Nat → Prop} (m : Mk) (u v : Value) (t cuts : List (List Int)) (d n : Nat) (W : World) (hf : Fits m t cuts) (hn : (n : Int) = m.c) (hd : d < (getl t 0).length) (h : V2 S W u t) (hc : V2 S' W v cuts) :
  Calls Tryz.prog 112 #[.agg #[.int .i64 m.c, .int .i64 m.d, .int .i64 m.s, .int .i64 m.e, .int .i64 m.l, u], v, .int .i64 d] W fun e' w' => ∃ v', e' = .returned (.agg #[v']) ∧ F2 W.heap.size w' v' (lockR n t cuts d) ∧ Below W.heap.size W w' := by
 obtain ⟨a, c, rfl, hmx⟩ := h.form
 obtain ⟨a', c', rfl, hmx'⟩ := hc.form
 have hrows := hf.rows
 have hfew := hf.few
 have hok := hf.ok
 have hdd : ∀ k, k < t.length → d < (getl t k).length := fun k hk => by rw [hf.cols k hk]; exact hd
 have hlk := doorCuts_lens (d := d) hf hn
 have hdp := doorCuts_deps (d := d) hf hn
 have Hdd := Lib.hid hdd; clear hdd
 have Hlk := Lib.hid (And.intro hlk hdp); clear hlk hdp
 have Hok := Lib.hid (And.intro hok hn); clear hok hf hn
 obtain ⟨W1, hW1, hB01, hz01, HZ01, hc01, hh01, hc02, hh02⟩ := two_boxes W #[.int .i64 m.c, .int .i64 m.d, .int .i64 m.s, .int .i64 m.e, .int .i64 m.l, .slice a t.length c] #[.slice none 0 0] 35 116
 have hV1 := (h.below hB01).any
 have hC1 := (hc.below hB01).any
 have hown0 := own_lit0 W1 W1.heap.size 57 1 (Nat.le_refl _)
 go_enter Tryz.func112, Tryz.ntmps112
 go_wp2_with fail
 rw [← hW1, show W.heap.size + 1 + 1 = W1.heap.size from HZ01.out.symm]
 have HW1 := Lib.hid hW1; clear hW1
 have Hc01 := Lib.hid (And.intro hc01 (And.intro hh01 (And.intro hc02 hh02))); clear hc01 hh01 hc02 hh02
 go_loopw [7, 8] (fun o i wn => ∃ (j : Nat) (vs : List Value), j ≤ cuts.length ∧ i = .int .i64 (j : Int) ∧ wn.ownsRow W1.heap.size 57 1 o (doorCuts t cuts d j).length vs ∧ RowVs (fun _ => True) W1 vs (doorCuts t cuts d j) ∧ Below W1.heap.size W1 wn) (fun _ i _ => cuts.length - (intOf i).toNat)
 case atStart => exact ⟨0, [], Nat.zero_le _, rfl, hown0, RowVs.nil, (Below.refl _ _).alloc (Nat.le_refl _) _⟩
 case round =>
  obtain ⟨j, vs, hj, rfl, hown, hR, hBn⟩ := hrel
  have hzn := hBn.size
  have hzn1 : W.heap.size < wr.heap.size := by omega
  have hxn : ∀ o, wr.cell? ⟨W.heap.size, o, none⟩ = (#[.int .i64 m.c, .int .i64 m.d, .int .i64 m.s, .int .i64 m.e, .int .i64 m.l, .slice a t.length c] : Array Value)[o]? := fun o => by rw [(bcell hBn).1 _ _ (by omega), Hc01.out.1]
  have hdrl := doorCuts_len t cuts d j
  by_cases hjj : j < cuts.length
  ·have hjt : j < t.length := by omega
   have hkj := Hdd.out j hjt
   obtain ⟨b1, off1, a1, c1, rfl, _, hc1, hr1⟩ := (hV1.below hBn).cell hjt
   obtain ⟨b2, off2, rfl, _, hc2⟩ := hr1.cell hkj
   obtain ⟨b3, off3, a3, c3, rfl, _, hc3', hr3'⟩ := hC1.cell hjj
   have hc3 := cell_keep hc3' (hBn.block _ (lt_of_cell hc3'))
   clear hc3'
   have hgl : (getl t j).length ≤ maxLen := hr1.len
   have hgl3 : (getl cuts j).length ≤ maxLen := hr3'.len
   unfold maxLen at hgl hgl3
   by_cases h1 : geti (getl t j) d = 1
   ·have e1 : (geti (getl t j) d == 1) = true := by simp [h1]
    have hst : doorCuts t cuts d (j + 1) = doorCuts t cuts d j ++ [getl cuts j] := by rw [doorCuts, if_pos h1]
    have Hst := Lib.hid hst; clear hst
    have H1 := Lib.hid h1; clear h1
    go_wp2_with (at_builtin; refine wp_app1 _ rfl _ _ 33 rfl W1.heap.size 57 (.slice none 0 0) 24 Tryz.underlying33 inf_ints rfl _ _ _ rfl hown (.slice a3 (getl cuts j).length c3) _ rfl rfl (by omega) (by omega) (by omega) ?_; intro v1 w1 hown1 hgrow1 hblk1 hB1)
    go_roundw
    case rel => exact ⟨j + 1, _, by omega, by go_num, by rw [Hst.out, List.length_append]; exact hown1, by rw [Hst.out]; exact hR.snoc hr3', hBn.trans (hB1.mono (Nat.le_refl _))⟩
    case measure => simp [intOf]; omega
   ·have e1 : (geti (getl t j) d == 1) = false := by simp [h1]
    have hst : doorCuts t cuts d (j + 1) = doorCuts t cuts d j := by rw [doorCuts, if_neg h1]
    have Hst := Lib.hid hst; clear hst
    have H1 := Lib.hid h1; clear h1
    go_wp2_with fail
    go_roundw
    case rel => exact ⟨j + 1, _, by omega, by go_num, by rw [Hst.out]; exact hown, by rw [Hst.out]; exact hR, hBn⟩
    case measure => simp [intOf]; omega
  ·obtain rfl : j = cuts.length := by omega
   have hV4 := own_V2 hown (hR.keep (Below.keep hBn fun _ _ h => h))
   obtain ⟨ka, kc, rfl, hkc1, hkc2⟩ := own_form hown
   have hres : wr.heap[W.heap.size + 1]? = some (.cells #[.slice none 0 0] 116 (0, 0)) := heap_below Hc01.out.2.2.2 hBn hz01
   have Hres := Lib.hid hres; clear hres
   clear hown hR
   go_wp2_with fail
   refine (l04Hull_any m Hok.out.1 _ (doorCuts t cuts d cuts.length) n _ Hok.out.2 hV4 (by omega) Hlk.out.1 Hlk.out.2).mono ?_
   rintro e' w4 ⟨v4, rfl, hF4, hb4⟩
   have hres4 := heap_below Hres.out hb4 (by omega)
   have hrc := cell_of_block hres4 0
   have hrf := frozen_of_block hres4 0
   obtain ⟨a4, c4, rfl, _⟩ := hF4.v2.form
   have hln := Nat.le_of_eq (hullR_len (doorCuts t cuts d cuts.length) n)
   have hrs := cell_of_block (heap_setCell_self (off := 0) hres4 (.slice a4 (hullR (doorCuts t cuts d cuts.length) n).length c4)) 0
   have Hrs := Lib.hid hrs; clear hrs hres4 hV4 hxn
   have HF4 := Lib.hid hF4; clear hF4
   have hz4 := hb4.size
   go_wp2_with fail
   have hrs := Hrs.out
   simp at hrs
   refine bodyPost_ret (v := .agg #[.slice a4 (hullR (doorCuts t cuts d cuts.length) n).length c4]) (by simp [results, Tryz.results112, go_sem, hrs]) rfl ⟨_, rfl, ?_, ?_⟩
   ·exact (F2.set HF4.out (by omega)).mono (by omega)
   ·have hbb := (hB01.trans (hBn.mono (by omega))).trans (hb4.mono (by omega))
    exact by (repeat (first | (with_reducible refine Below.setCell ?_ ?_ _) | (with_reducible refine Below.alloc ?_ ?_ _) | (with_reducible refine Below.drew ?_) | (with_reducible refine below_drewN ?_ _) | (with_reducible exact Below.refl _ _) | (with_reducible assumption) | (with_reducible refine Below.trans ?_ (Below.mono (by with_reducible assumption) ?_)) | go_size))
set_option maxRecDepth 100000 in
set_option maxHeartbeats 2000000 in
theorem l15Locks_any {S S' : Nat → Prop} (m : Mk) (u v : Value) (t cuts : List (List Int)) (n : Nat) (W : World) (hf : Fits m t cuts) (hn : (n : Int) = m.c) (h : V2 S W u t) (hc : V2 S' W v cuts) :
  Calls Tryz.prog 88 #[.agg #[.int .i64 m.c, .int .i64 m.d, .int .i64 m.s, .int .i64 m.e, .int .i64 m.l, u], v] W fun e' w' => ∃ v', e' = .returned v' ∧ V3 (fun b => W.heap.size ≤ b) w' v' (locksTo n t cuts (getl t 0).length) ∧ Below W.heap.size W w' := by
 obtain ⟨a, c, rfl, hmx⟩ := h.form
 obtain ⟨a', c', rfl, hmx'⟩ := hc.form
 have hrows := hf.rows
 have hdoors := hf.doors
 have hfew := hf.few
 have Hf := Lib.hid (And.intro hf hn); clear hf hn
 obtain ⟨W1, hW1, hB01, hz01, HZ01, hc01, hh01⟩ := box_facts W #[.int .i64 m.c, .int .i64 m.d, .int .i64 m.s, .int .i64 m.e, .int .i64 m.l, .slice a t.length c] 35
 have hV1 := (h.below hB01).any
 have hC1 := (hc.below hB01).any
 obtain ⟨b0, off0, a0, c0, rfl, _, hcc0, hr0⟩ := hV1.cell (k := 0) (by omega)
 simp only [Nat.add_zero] at hcc0
 have hl0 := hr0.len
 unfold maxLen at hl0
 have hout0 := OutL.start W1 W1.heap.size (Nat.le_refl _)
 have Hout0 := Lib.hid hout0; clear hout0
 go_enter Tryz.func88, Tryz.ntmps88
 go_wp2_with fail
 rw [← hW1, show W.heap.size + 1 = W1.heap.size from HZ01.out.symm]
 have HW1 := Lib.hid hW1; clear hW1 hh01
 have Hc01 := Lib.hid hc01; clear hc01
 have Hcc0 := Lib.hid hcc0; clear hcc0
 go_loopw [5, 6] (fun ou i wr => ∃ x : Nat, x ≤ (getl t 0).length ∧ i = .int .i64 (x : Int) ∧ OutL W1.heap.size wr ou (locksTo n t cuts x) ∧ Below W1.heap.size W1 wr) (fun _ i _ => (getl t 0).length - (intOf i).toNat)
 case atStart => exact ⟨0, Nat.zero_le _, rfl, Hout0.out, (Below.refl _ _).alloc (Nat.le_refl _) _⟩
 case round =>
  obtain ⟨x, hx, rfl, hO, hB⟩ := hrel
  obtain ⟨wo, rfl⟩ : ∃ wo, wo = wr := ⟨_, rfl⟩
  have hzr := hB.size
  have hzo : W.heap.size < wo.heap.size := by omega
  have hxo : ∀ o, wo.cell? ⟨W.heap.size, o, none⟩ = (#[.int .i64 m.c, .int .i64 m.d, .int .i64 m.s, .int .i64 m.e, .int .i64 m.l, .slice (some ⟨b0, off0, none⟩) t.length c] : Array Value)[o]? := fun o => by rw [(bcell hB).1 _ _ hz01, Hc01.out]
  have hcc := cell_keep Hcc0.out (hB.block _ (lt_of_cell Hcc0.out))
  by_cases hxn : x < (getl t 0).length
  ·obtain ⟨vs4, g1, g2⟩ := hO
   have G := Lib.hid (And.intro g1 g2); clear g1 g2
   go_wp2_with fail
   refine (l15Lock_any m _ _ t cuts x n _ Hf.out.1 Hf.out.2 hxn (hV1.below hB) (hC1.below hB)).mono ?_
   rintro e' w4 ⟨v4, rfl, hF4, hb4⟩
   have hO4 := own_chg G.out.1 (Chg.of_below (F := fun _ => False) hb4) (fun _ _ h => h)
   have hz4 := hb4.size
   obtain ⟨a4, c4, rfl, _⟩ := hF4.v2.form
   have hlx := Nat.le_of_eq (locksTo_len n t cuts x)
   have HF4 := Lib.hid hF4; clear hF4 hxo hcc
   go_wp2_with (at_builtin; refine wp_app1 _ rfl _ _ 113 rfl W1.heap.size 116 (.agg #[.slice none 0 0]) 24 Tryz.underlying113 inf_lock rfl _ _ _ rfl hO4 (.slice a4 (lockR n t cuts x).length c4) _ rfl rfl (by omega) (by omega) (by omega) ?_; intro v1 w1 hown1 hgrow1 hblk1 hB1)
   go_roundw
   case rel => exact ⟨x + 1, by omega, by go_num, by rw [locksTo]; exact OutL.push G.out.1 G.out.2 hzr hb4 HF4.out (Nat.le_refl _) hown1 hgrow1 hblk1, (hB.trans (hb4.mono hzr)).trans hB1⟩
   case measure => simp [intOf]; omega
  ·obtain rfl : x = (getl t 0).length := by omega
   have hfx := hO.v3
   have Hfx := Lib.hid hfx; clear hfx
   go_wp2_with fail
   go_ret
   exact ⟨_, rfl, Hfx.out.mono (fun b h _ => by have : W1.heap.size ≤ b := h; omega) (fun _ _ _ => rfl), hB01.trans (hB.mono (by omega))⟩
end Go.Proofs.YtbekpololmahoaaGreatDoor
