/- Contracts of slices.Clone, Compact and Sort at []int64, as the kit lays them (a part of what it lays). No conditions. -/
import Derived.Shelf.SlicesG.Turned
import Derived.Shelf.SlicesG.Clone
import Derived.Shelf.SlicesG.CompactI
import Derived.Shelf.SortM.Plain
import Derived.Shelf.SortM.SortNone
import Derived.Ground.SlgnProg
import Derived.Ground.SlgmProg
import Derived.Test.YtmjplkbmhdkggaaGreatProg
import Derived.Test.YtmjplkbmhdkggaaGreatMSys2
import Derived.Test.YtmjplkbmhdkggaaGreatMCopy
import Derived.Test.YtmjplkbmhdkggaaGreatMLib
namespace Go.Proofs
open Go.Shelf
def Tryz.laysSlN41_f62_ren : Go.Shelf.Ren := ⟨fun | 41 => 62 | n => n, fun | 22 => 44 | 23 => 2 | 4 => 4 | n => n, fun | n => n⟩
theorem Tryz.laysSlN41_f62 : Go.Proofs.SlLaysN.n41 Tryz.prog Tryz.laysSlN41_f62_ren := {
 mixed := by kernel_rfl
 f41 := ⟨Tryz.f62.name, by decide, Tryz.func62.trans (congrArg some (by kernel_rfl))⟩
 t4 := Tryz.underlying4
 a4 := Tryz.isAgg4
 z4 := Tryz.sizeOf4
 v4 := Tryz.zeroValue4
 t22 := Tryz.underlying44
 a22 := Tryz.isAgg44
 z22 := Tryz.sizeOf44
 v22 := Tryz.zeroValue44
 t23 := Tryz.underlying2
 a23 := Tryz.isAgg2
 z23 := Tryz.sizeOf2
 v23 := Tryz.zeroValue2
 i23 := by kernel_rfl }
open Go.RowKit Go.Lib in
/-- slices.Clone at []int: "Clone returns a copy of the slice. The elements are copied using assignment, so this is a shallow clone. The result may have additional unused capacity. The result preserves the nilness of s.": OF A SLICE THAT IS NOT nil IT RETURNS A SLICE THAT IS NOT nil, OF THE SAME ELEMENTS, IN MEMORY OF THE CALL's OWN: in the how-to's words (6f): 'w'.ownsRow B e 1 v' n cells': v' begins at the head of a row among the blocks from B on (B: the heap's size at the call), not frozen, whose first cells are the elements · 'Below B w w'': below B all is as it was. The capacity is whatever the run-time gives. 'zs': what the cells behind the slice's address hold; 'zs.take n': its elements. (LAID AT THE INSTANCE 'slices.Clone[[]int64,int64]': no walk: one application.) -/
theorem Tryz.slices_Clone_int (b off n c : Nat) (zs : List Int) (w : World) (hz : n ≤ zs.length) (hbig : n * 8 ≤ 140737488355328) (hc : ∀ j, j < zs.length → w.cell? ⟨b, off + j, none⟩ = some (.int .i64 (zs.getD j 0))) :
  Calls Tryz.prog 62 #[.slice (some ⟨b, off, none⟩) n c] w fun e w' => ∃ v', e = .returned v' ∧ w'.ownsRow w.heap.size 2 1 v' n ((zs.take n).map (Value.int .i64)) ∧ v' ≠ .slice none 0 0 ∧ Below w.heap.size w w' := AnyG.slices_Clone_int Tryz.laysSlN41_f62 b off n c zs w hz hbig hc
open Go.RowKit Go.Lib in
/-- The same at nil: nil comes back; the world is as it was. (LAID AT THE INSTANCE 'slices.Clone[[]int64,int64]': no walk: one application.) -/
theorem Tryz.slices_Clone_int_nil (n c : Nat) (w : World) :
  Calls Tryz.prog 62 #[.slice none n c] w fun e w' => e = .returned (.slice none 0 0) ∧ w' = w := AnyG.slices_Clone_int_nil Tryz.laysSlN41_f62 n c w
open Go.RowKit Go.Lib in
/-- The same at a slice of length 0 that is not nil, WHATEVER ITS ADDRESS (no cell is asked for): a slice that is not nil and owns nothing comes back. (LAID AT THE INSTANCE 'slices.Clone[[]int64,int64]': no walk: one application.) -/
theorem Tryz.slices_Clone_int_zero (a : Addr) (c : Nat) (w : World) :
  Calls Tryz.prog 62 #[.slice (some a) 0 c] w fun e w' => ∃ v', e = .returned v' ∧ w'.ownsRow w.heap.size 2 1 v' 0 [] ∧ v' ≠ .slice none 0 0 ∧ Below w.heap.size w w' := AnyG.slices_Clone_int_zero Tryz.laysSlN41_f62 a c w
def Tryz.laysSlN43_f133_ren : Go.Shelf.Ren := ⟨fun | 43 => 133 | n => n, fun | 22 => 44 | 23 => 2 | 3 => 3 | 4 => 4 | 0 => 0 | n => n, fun | n => n⟩
theorem Tryz.laysSlN43_f133 : Go.Proofs.SlLaysN.n43 Tryz.prog Tryz.laysSlN43_f133_ren := {
 mixed := by kernel_rfl
 f43 := ⟨Tryz.f133.name, by decide, Tryz.func133.trans (congrArg some (by kernel_rfl))⟩
 t0 := Tryz.underlying0
 a0 := Tryz.isAgg0
 z0 := Tryz.sizeOf0
 v0 := Tryz.zeroValue0
 t3 := Tryz.underlying3
 a3 := Tryz.isAgg3
 z3 := Tryz.sizeOf3
 v3 := Tryz.zeroValue3
 t4 := Tryz.underlying4
 a4 := Tryz.isAgg4
 z4 := Tryz.sizeOf4
 v4 := Tryz.zeroValue4
 t22 := Tryz.underlying44
 a22 := Tryz.isAgg44
 z22 := Tryz.sizeOf44
 v22 := Tryz.zeroValue44
 t23 := Tryz.underlying2
 a23 := Tryz.isAgg2
 z23 := Tryz.sizeOf2
 v23 := Tryz.zeroValue2
 i23 := by kernel_rfl }
open Go.RowKit Go.Lib Go.Sort in
open Go.RowKit Go.Lib Go.Sort in
/-- slices.Compact at []int: "Compact replaces consecutive runs of equal elements with a single copy. This is like the uniq command found on Unix. Compact modifies the contents of the slice s and returns the modified slice, which may have a smaller length. Compact zeroes the elements between the new length and the original length. The result preserves the nilness of s.": IT RETURNS THE SLICE CUT TO 'Lib.compact zs'; ITS CELLS HOLD 'Lib.compact zs', THEN ZERO VALUES up to the old length; all else is as it was, but for the count of draws. IN THE WORDS OF slices.Sort's CONTRACT ('Holds', 'putRow'): so the everyday 'slices.Sort(xs); xs = slices.Compact(xs)' goes from the one contract to the other. It asks 'zs.length ≤ cap' (every slice's: the reslicing 's[:k]' looks at it). Length 0, nil: '.._empty'. (LAID AT THE INSTANCE 'slices.Compact[[]int64,int64]': no walk: one application.) -/
theorem Tryz.slices_Compact_int (blk off cap : Nat) (zs : List Int) (w : World) (hH : Holds (Value.int .i64) w blk off zs.toArray) (hsz : zs.length ≤ 9223372036854775807) (hcap : zs.length ≤ cap) :
  Calls Tryz.prog 133 #[.slice (some ⟨blk, off, none⟩) zs.length cap] w fun e w' => e = .returned (.slice (some ⟨blk, off, none⟩) (Lib.compact zs).length cap) ∧ ∃ q, w' = putRow (Value.int .i64) (Sort.ahead w q) blk off (Lib.compact zs ++ List.replicate (zs.length - (Lib.compact zs).length) 0).toArray := AnyG.slices_Compact_int Tryz.laysSlN43_f133 blk off cap zs w hH hsz hcap
open Go.RowKit Go.Lib Go.Sort in
/-- The same at a slice of length 0, a nil one too: it comes back as it is. (LAID AT THE INSTANCE 'slices.Compact[[]int64,int64]': no walk: one application.) -/
theorem Tryz.slices_Compact_int_empty (a : Option Addr) (cap : Nat) (w : World) :
  Calls Tryz.prog 133 #[.slice a 0 cap] w fun e w' => e = .returned (.slice a 0 cap) ∧ w' = w := AnyG.slices_Compact_int_empty Tryz.laysSlN43_f133 a cap w
def Tryz.laysSlM5_f132_ren : Go.Shelf.Ren := ⟨fun | 5 => 132 | 8 => 183 | 7 => 182 | 19 => 212 | 20 => 213 | 10 => 203 | 11 => 204 | 12 => 205 | 13 => 206 | 14 => 207 | 15 => 208 | 16 => 209 | 17 => 210 | 18 => 211 | 30 => 225 | 31 => 226 | 32 => 227 | 33 => 228 | 34 => 229 | 35 => 214 | 40 => 231 | n => n, fun | 23 => 44 | 25 => 2 | 3 => 3 | 32 => 169 | 22 => 44 | 0 => 0 | 44 => 193 | 46 => 195 | 4 => 4 | 36 => 186 | 35 => 185 | 41 => 116 | 5 => 5 | 9 => 9 | 53 => 205 | 57 => 209 | 63 => 212 | 64 => 213 | n => n, fun | n => n⟩
theorem Tryz.laysSlM5_f132 : Go.Proofs.SlLaysM.n5 Tryz.prog Tryz.laysSlM5_f132_ren := {
 mixed := by kernel_rfl
 f5 := ⟨Tryz.f132.name, by decide, Tryz.func132.trans (congrArg some (by kernel_rfl))⟩
 f7 := ⟨Tryz.f182.name, by decide, Tryz.func182.trans (congrArg some (by kernel_rfl))⟩
 f8 := Tryz.func183.trans (congrArg some (by kernel_rfl))
 f10 := ⟨Tryz.f203.name, by decide, Tryz.func203.trans (congrArg some (by kernel_rfl))⟩
 f11 := ⟨Tryz.f204.name, by decide, Tryz.func204.trans (congrArg some (by kernel_rfl))⟩
 f12 := ⟨Tryz.f205.name, by decide, Tryz.func205.trans (congrArg some (by kernel_rfl))⟩
 f13 := ⟨Tryz.f206.name, by decide, Tryz.func206.trans (congrArg some (by kernel_rfl))⟩
 f14 := ⟨Tryz.f207.name, by decide, Tryz.func207.trans (congrArg some (by kernel_rfl))⟩
 f15 := ⟨Tryz.f208.name, by decide, Tryz.func208.trans (congrArg some (by kernel_rfl))⟩
 f16 := ⟨Tryz.f209.name, by decide, Tryz.func209.trans (congrArg some (by kernel_rfl))⟩
 f17 := ⟨Tryz.f210.name, by decide, Tryz.func210.trans (congrArg some (by kernel_rfl))⟩
 f18 := ⟨Tryz.f211.name, by decide, Tryz.func211.trans (congrArg some (by kernel_rfl))⟩
 f19 := Tryz.func212.trans (congrArg some (by kernel_rfl))
 f20 := Tryz.func213.trans (congrArg some (by kernel_rfl))
 f30 := ⟨Tryz.f225.name, by decide, Tryz.func225.trans (congrArg some (by kernel_rfl))⟩
 f31 := Tryz.func226.trans (congrArg some (by kernel_rfl))
 f32 := Tryz.func227.trans (congrArg some (by kernel_rfl))
 f33 := ⟨Tryz.f228.name, by decide, Tryz.func228.trans (congrArg some (by kernel_rfl))⟩
 f34 := ⟨Tryz.f229.name, by decide, Tryz.func229.trans (congrArg some (by kernel_rfl))⟩
 f35 := ⟨Tryz.f214.name, by decide, Tryz.func214.trans (congrArg some (by kernel_rfl))⟩
 f40 := ⟨Tryz.f231.name, by decide, Tryz.func231.trans (congrArg some (by kernel_rfl))⟩
 t0 := Tryz.underlying0
 a0 := Tryz.isAgg0
 z0 := Tryz.sizeOf0
 v0 := Tryz.zeroValue0
 t3 := Tryz.underlying3
 a3 := Tryz.isAgg3
 z3 := Tryz.sizeOf3
 v3 := Tryz.zeroValue3
 t4 := Tryz.underlying4
 a4 := Tryz.isAgg4
 z4 := Tryz.sizeOf4
 v4 := Tryz.zeroValue4
 t5 := Tryz.underlying5
 a5 := Tryz.isAgg5
 z5 := Tryz.sizeOf5
 v5 := Tryz.zeroValue5
 t9 := Tryz.underlying9
 a9 := Tryz.isAgg9
 z9 := Tryz.sizeOf9
 v9 := Tryz.zeroValue9
 t22 := Tryz.underlying44
 a22 := Tryz.isAgg44
 z22 := Tryz.sizeOf44
 v22 := Tryz.zeroValue44
 t23 := Tryz.underlying44
 a23 := Tryz.isAgg44
 z23 := Tryz.sizeOf44
 v23 := Tryz.zeroValue44
 t25 := Tryz.underlying2
 a25 := Tryz.isAgg2
 z25 := Tryz.sizeOf2
 v25 := Tryz.zeroValue2
 t32 := Tryz.underlying169
 a32 := Tryz.isAgg169
 z32 := Tryz.sizeOf169
 v32 := Tryz.zeroValue169
 t35 := Tryz.underlying185
 a35 := Tryz.isAgg185
 z35 := Tryz.sizeOf185
 v35 := Tryz.zeroValue185
 t36 := Tryz.underlying186
 a36 := Tryz.isAgg186
 z36 := Tryz.sizeOf186
 v36 := Tryz.zeroValue186
 t41 := Tryz.underlying116
 a41 := Tryz.isAgg116
 z41 := Tryz.sizeOf116
 v41 := Tryz.zeroValue116
 t44 := Tryz.underlying193
 a44 := Tryz.isAgg193
 z44 := Tryz.sizeOf193
 v44 := Tryz.zeroValue193
 t46 := Tryz.underlying195
 a46 := Tryz.isAgg195
 z46 := Tryz.sizeOf195
 v46 := Tryz.zeroValue195
 t53 := Tryz.underlying205
 a53 := Tryz.isAgg205
 z53 := Tryz.sizeOf205
 v53 := Tryz.zeroValue205
 t57 := Tryz.underlying209
 a57 := Tryz.isAgg209
 z57 := Tryz.sizeOf209
 v57 := Tryz.zeroValue209
 t63 := Tryz.underlying212
 a63 := Tryz.isAgg212
 z63 := Tryz.sizeOf212
 v63 := Tryz.zeroValue212
 t64 := Tryz.underlying213
 a64 := Tryz.isAgg213
 z64 := Tryz.sizeOf213
 v64 := Tryz.zeroValue213 }
open Go.Sort Go.RowKit in
theorem Tryz.slices_Sort_int (blk off cap : Nat) (zs : List Int) (w : World) (hH : Holds (Value.int .i64) w blk off zs.toArray) (hblk : blk < w.heap.size) (hsz : zs.length < 4611686018427387904) :
  Calls Tryz.prog 132 #[.slice (some ⟨blk, off, none⟩) zs.length cap] w fun e w' =>
   e = .returned (.tuple #[]) ∧ ∃ n os, w' = grow (putRow (Value.int .i64) (Sort.ahead w n) blk off (zs.mergeSort fun x y => decide (x ≤ y)).toArray) os := AnyM.slices_Sort_int Tryz.laysSlM5_f132 blk off cap zs w hH hblk hsz
open Go.RowKit Go.Sort in
/-- .. and plain. (LAID AT THE INSTANCE 'slices.Sort[[]int64,int64]': no walk: one application.) -/
theorem Tryz.slices_Sort_int_none (p : Option Addr) (cap : Nat) (w : World) :
  Calls Tryz.prog 132 #[.slice p 0 cap] w fun e w' => e = .returned (.tuple #[]) ∧ w' = w := AnyM.slices_Sort_int_none Tryz.laysSlM5_f132 p cap w
end Go.Proofs
namespace Go.Proofs.YtmjplkbmhdkggaaGreat
open Go.RowKit
set_option linter.unusedVariables false
set_option linter.unusedSimpArgs false
theorem putRow_self_heap {w : World} {g n off : Nat} {cur : Array Value} {e : TypeId} (d : Array Int) (h : w.heap[g]? = some (.cells cur e (0, 0))) :
  (Go.Sort.putRow (Value.int .i64) (Go.Sort.ahead w n) g off d).heap[g]? = some (.cells (Go.Sort.putCells (Value.int .i64) off d cur) e (0, 0)) := by
 simp [Go.Sort.putRow, Go.Sort.mapBlock, Array.getElem?_modify, h, Go.Sort.onCells]
theorem putRow_chg (w : World) (g n off : Nat) (d : Array Int) : Chg (fun x => x = g) w (Go.Sort.putRow (Value.int .i64) (Go.Sort.ahead w n) g off d) :=
 ⟨rfl, rfl, rfl, by simp, fun k hk hf => by simp [Go.Sort.putRow, Go.Sort.mapBlock, Array.getElem?_modify, show ¬ g = k from fun e => hf e.symm]⟩
theorem grow_below (w : World) (os : Array Obj) : Below w.heap.size w (Go.Sort.grow w os) := ⟨rfl, rfl, rfl, by simp, fun k hk => Go.Sort.heap_grow_old w os hk⟩
theorem putCells_get {off k : Nat} {d : Array Int} {cur : Array Value} (h1 : k < d.size) (h2 : off + k < cur.size) : (Go.Sort.putCells (Value.int .i64) off d cur)[off + k]? = some (.int .i64 d[k]!) := by
 simp only [Go.Sort.putCells, Array.getElem?_mapIdx, Array.getElem?_eq_getElem h2, Option.map_some]
 rw [if_pos ⟨by omega, by omega⟩, show off + k - off = k by omega]
theorem arr_get {l : List Int} {k : Nat} (h : k < l.length) : l.toArray[k]! = geti l k := by
 rw [getElem!_pos _ k (by simpa using h), geti_eq h]; simp
theorem holds_X1 {w : World} {g off : Nat} {cs : Array Value} {e : TypeId} {l : List Int} (hh : w.heap[g]? = some (.cells cs e (0, 0))) (hc : ∀ k, k < l.length → cs[off + k]? = some (.int .i64 (geti l k))) :
  Go.Sort.Holds (Value.int .i64) w g off l.toArray := fun j hj => by
 have hj' : j < l.length := by simpa using hj
 exact ⟨by rw [cell_of_block hh, hc j hj', arr_get hj'], frozen_of_block hh _⟩
theorem slSort_any (v : Value) (l : List Int) (g : Nat) (W : World) (h : X1 W v l g) (hl : l.length ≤ 1048576) :
  Calls Tryz.prog 132 #[v] W fun e' w' => e' = .returned (.tuple #[]) ∧ X1 w' v (l.mergeSort fun x y => decide (x ≤ y)) g ∧ Chg (fun x => l ≠ [] ∧ x = g) W w' := by
 obtain ⟨a, c, rfl, h1, h2, hX⟩ := h
 by_cases hn : l = []
 ·subst hn
  refine (Tryz.slices_Sort_int_none a c W).mono ?_
  rintro e' w' ⟨rfl, rfl⟩
  exact ⟨rfl, ⟨a, c, by simp, by simp, h2, fun h => absurd (by simp) h⟩, Chg.refl _ _⟩
 ·obtain ⟨off, cs, e, rfl, hh, hc⟩ := hX hn
  have hlen : (l.mergeSort fun x y => decide (x ≤ y)).length = l.length := List.length_mergeSort l
  refine (Tryz.slices_Sort_int g off c l W (holds_X1 hh hc) (lt_of_heap hh) (by omega)).mono ?_
  rintro e' w' ⟨rfl, n, os, rfl⟩
  generalize (l.mergeSort fun x y => decide (x ≤ y)) = z at *
  have hz := putRow_chg W g n off z.toArray
  have hgl := lt_of_heap hh
  refine ⟨rfl, ⟨some ⟨g, off, none⟩, c, by rw [hlen], by omega, h2, fun _ => ⟨off, _, e, rfl, by rw [Go.Sort.heap_grow_old _ _ (by simpa using hgl)]; exact putRow_self_heap _ hh, fun k hk => ?_⟩⟩, (hz.mono (fun i hi => ⟨hn, hi⟩)).then_below (grow_below _ _)⟩
  rw [putCells_get (by simpa using hk) (Array.getElem?_eq_some_iff.1 (hc k (by omega))).1, arr_get hk]
theorem slCompact_any (v : Value) (l : List Int) (g : Nat) (W : World) (h : X1 W v l g) (hl : l.length ≤ 1048576) :
  Calls Tryz.prog 133 #[v] W fun e' w' => ∃ v', e' = .returned v' ∧ X1 w' v' (Go.Lib.compact l) g ∧ Chg (fun x => l ≠ [] ∧ x = g) W w' := by
 obtain ⟨a, c, rfl, h1, h2, hX⟩ := h
 by_cases hn : l = []
 ·subst hn
  refine (Tryz.slices_Compact_int_empty a c W).mono ?_
  rintro e' w' ⟨rfl, rfl⟩
  exact ⟨_, rfl, ⟨a, c, by simp [Go.Lib.compact, Go.Lib.compactUpTo], by simp [Go.Lib.compact, Go.Lib.compactUpTo], h2, fun h => absurd (by simp [Go.Lib.compact, Go.Lib.compactUpTo]) h⟩, Chg.refl _ _⟩
 ·obtain ⟨off, cs, e, rfl, hh, hc⟩ := hX hn
  have hle : (Go.Lib.compact l).length ≤ l.length := by
   unfold Go.Lib.compact Go.Lib.compactUpTo
   rw [List.length_map]
   exact Nat.le_trans (List.length_filter_le _ _) (by simp)
  refine (Tryz.slices_Compact_int g off c l W (holds_X1 hh hc) (by omega) h1).mono ?_
  rintro e' w' ⟨rfl, q, rfl⟩
  generalize Go.Lib.compact l = z at *
  have hz := putRow_chg W g q off (z ++ List.replicate (l.length - z.length) 0).toArray
  refine ⟨_, rfl, ⟨some ⟨g, off, none⟩, c, rfl, by omega, h2, fun _ => ⟨off, _, e, rfl, putRow_self_heap _ hh, fun k hk => ?_⟩⟩, hz.mono (fun i hi => ⟨hn, hi⟩)⟩
  rw [putCells_get (by simp; omega) (Array.getElem?_eq_some_iff.1 (hc k (by omega))).1, arr_get (by simp; omega), geti_append hk]
theorem slClone_any {S : Nat → Prop} (v : Value) (l : List Int) (W : World) (h : V1 S W v l) (hl : l.length ≤ 1048576) :
  Calls Tryz.prog 62 #[v] W fun e' w' => ∃ v', e' = .returned v' ∧ F1 W.heap.size w' v' l ∧ Below W.heap.size W w' := by
 obtain ⟨a, c, rfl, hm⟩ := h.form
 by_cases hn : l = []
 ·subst hn
  cases a with
  | none =>
    refine (Tryz.slices_Clone_int_nil 0 c W).mono ?_
    rintro e' w' ⟨rfl, rfl⟩
    exact ⟨_, rfl, ⟨0, ⟨none, 0, rfl, Nat.le_refl _, Nat.zero_le _, fun hn => absurd rfl hn⟩, fun hn => absurd rfl hn⟩, Below.refl _ _⟩
  | some a =>
    refine (Tryz.slices_Clone_int_zero a c W).mono ?_
    rintro e' w' ⟨v', rfl, hown, _, hB⟩
    exact ⟨_, rfl, own_F1 (l := []) hown, hB⟩
 ·have hp : 0 < l.length := List.length_pos_iff.2 hn
  obtain ⟨b1, off1, rfl, _, _⟩ := h.cell hp
  refine (Tryz.slices_Clone_int b1 off1 l.length c l W (Nat.le_refl _) (by omega) (fun j hj => ?_)).mono ?_
  ·obtain ⟨b2, off2, e, _, hc⟩ := h.cell hj
   injection e with e
   injection e with e1 e2 _
   subst e1 e2
   rw [hc, geti_eq hj]
   simp [List.getD, hj]
  ·rintro e' w' ⟨v', rfl, hown, _, hB⟩
   rw [List.take_length] at hown
   exact ⟨_, rfl, own_F1 hown, hB⟩
theorem getl_app1 {ls : List (List Int)} {l : List Int} {k : Nat} (h : k < ls.length) : getl (ls ++ [l]) k = getl ls k := by
 simp [getl, List.getElem?_append_left h]
theorem getl_app2 {ls : List (List Int)} {l : List Int} : getl (ls ++ [l]) ls.length = l := by
 unfold getl; simp
/-- v is a slice of the call's own (from block B on); its rows hold ls, each in a block of its own. -/
def Out2 (B : Nat) (w : World) (v : Value) (ls : List (List Int)) : Prop :=
 ∃ (vs : List Value) (bk : Nat → Nat), w.ownsRow B 44 1 v ls.length vs ∧ (∀ k, k < ls.length → ∃ rv, vs[k]? = some rv ∧ X1 w rv (getl ls k) (bk k)) ∧
   (∀ k, k < ls.length → getl ls k ≠ [] → B ≤ bk k ∧ v.ownBlock ≠ some (bk k) ∧ ∀ j, j < ls.length → j ≠ k → getl ls j ≠ [] → bk j ≠ bk k)
theorem Out2.nil {B : Nat} {w : World} {v : Value} (h : w.ownsRow B 44 1 v 0 []) : Out2 B w v [] := ⟨[], fun _ => 0, h, fun k hk => by simp at hk, fun k hk => by simp at hk⟩
theorem Out2.start (w : World) (B : Nat) (hb : B ≤ w.heap.size) : Out2 B (w.alloc (.cells #[] 44)) (.slice (some ⟨w.heap.size, 0, none⟩) 0 0) [] := Out2.nil (own_lit0 w B _ 1 hb)
theorem Out2.keep {B : Nat} {w w' : World} {v : Value} {ls : List (List Int)} (h : Out2 B w v ls) (hb : Below w.heap.size w w') : Out2 B w' v ls := by
 obtain ⟨vs, bk, h1, h2, h3⟩ := h
 refine ⟨vs, bk, own_chg h1 (Chg.of_below (F := fun _ => False) hb) (fun _ _ h => h), fun k hk => ?_, h3⟩
 obtain ⟨rv, h4, h5⟩ := h2 k hk
 exact ⟨rv, h4, h5.keep fun hn => hb.block _ (h5.lt hn)⟩
theorem Out2.form {B : Nat} {w : World} {v : Value} {ls : List (List Int)} (h : Out2 B w v ls) : ∃ a c, v = .slice a ls.length c ∧ ls.length ≤ c ∧ c ≤ maxLen := by
 obtain ⟨vs, bk, h1, h2, h3⟩ := h; exact own_form h1
theorem Out2.own {B : Nat} {w : World} {v : Value} {ls : List (List Int)} (h : Out2 B w v ls) : ∃ vs, w.ownsRow B 44 1 v ls.length vs := by
 obtain ⟨vs, bk, h1, h2, h3⟩ := h; exact ⟨vs, h1⟩
/-- One row more, made since. w: before the row was begun; w2: the row is made; w1: it is appended. -/
theorem Out2.push {B : Nat} {w w2 w1 : World} {v v1 rv : Value} {ls : List (List Int)} {l : List Int} {b : Nat} {vs : List Value} {bk : Nat → Nat}
  (h1 : w.ownsRow B 44 1 v ls.length vs) (h2 : ∀ k, k < ls.length → ∃ rv, vs[k]? = some rv ∧ X1 w rv (getl ls k) (bk k))
  (h3 : ∀ k, k < ls.length → getl ls k ≠ [] → B ≤ bk k ∧ v.ownBlock ≠ some (bk k) ∧ ∀ j, j < ls.length → j ≠ k → getl ls j ≠ [] → bk j ≠ bk k)
  (hB : B ≤ w.heap.size) (hb : Below w.heap.size w w2) (hx : X1 w2 rv l b) (hbn : l ≠ [] → w.heap.size ≤ b)
  (hown : w1.ownsRow B 44 1 v1 (ls.length + 1) (vs ++ [rv])) (hg : w2.grownBy w1 v.ownBlock) (hblk : v1.ownBlock = v.ownBlock ∨ ∃ g, v1.ownBlock = some g ∧ w2.heap.size ≤ g) : Out2 B w1 v1 (ls ++ [l]) := by
 have hvl : ∀ g, v.ownBlock = some g → g < w.heap.size := fun g hgg => (h1.lt g hgg).2
 have hxl : ∀ k, k < ls.length → getl ls k ≠ [] → bk k < w.heap.size := fun k hk hn => by
  obtain ⟨rv, _, h⟩ := h2 k hk; exact h.lt hn
 have hne1 : ∀ c, c < w2.heap.size → v.ownBlock ≠ some c → v1.ownBlock ≠ some c := fun c hc hn e => by
  rcases hblk with e1 | ⟨g, e1, hge⟩
  ·exact hn (e1.symm.trans e)
  ·rw [e] at e1; cases e1; omega
 have hvl1 := h1.1
 refine ⟨vs ++ [rv], fun k => if k < ls.length then bk k else b, by simpa using hown, fun k hk => ?_, fun k hk hn => ?_⟩
 ·by_cases hkl : k < ls.length
  ·obtain ⟨rv', h4, h5⟩ := h2 k hkl
   refine ⟨rv', by rw [List.getElem?_append_left (by omega)]; exact h4, ?_⟩
   rw [getl_app1 hkl]
   simp only [hkl, if_true]
   exact h5.keep fun hn => by
    rw [hg.block _ (Nat.lt_of_lt_of_le (hxl k hkl hn) hb.size) (fun e => (h3 k hkl hn).2.1 e.symm), hb.block _ (hxl k hkl hn)]
  ·have e : k = ls.length := by simp at hk; omega
   subst e
   refine ⟨rv, by rw [List.getElem?_append_right (by omega)]; simp [show ls.length - vs.length = 0 by omega], ?_⟩
   rw [getl_app2]
   simp only [Nat.lt_irrefl, if_false]
   exact hx.keep fun hn => hg.block _ (hx.lt hn) (fun e => by have := hvl b e.symm; have := hbn hn; omega)
 ·by_cases hkl : k < ls.length
  ·rw [getl_app1 hkl] at hn
   simp only [hkl, if_true]
   obtain ⟨h4, h5, h6⟩ := h3 k hkl hn
   refine ⟨h4, hne1 _ (Nat.lt_of_lt_of_le (hxl k hkl hn) hb.size) h5, fun j hj hjk hnj => ?_⟩
   by_cases hjl : j < ls.length
   ·rw [getl_app1 hjl] at hnj
    simp only [hjl, if_true]
    exact h6 j hjl hjk hnj
   ·have e : j = ls.length := by simp at hj; omega
    subst e
    rw [getl_app2] at hnj
    simp only [Nat.lt_irrefl, if_false]
    have := hbn hnj; have := hxl k hkl hn; omega
  ·have e : k = ls.length := by simp at hk; omega
   subst e
   rw [getl_app2] at hn
   simp only [Nat.lt_irrefl, if_false]
   refine ⟨by have := hbn hn; omega, hne1 _ (hx.lt hn) (fun e => by have := hvl b e; have := hbn hn; omega), fun j hj hjk hnj => ?_⟩
   have hjl : j < ls.length := by simp at hj; omega
   rw [getl_app1 hjl] at hnj
   simp only [hjl, if_true]
   have := hbn hn; have := hxl j hjl hnj; omega
theorem Out2.f2 {B : Nat} {w : World} {v : Value} {ls : List (List Int)} (h : Out2 B w v ls) : F2 B w v ls := by
 obtain ⟨vs, bk, h1, h2, h3⟩ := h
 have hvl := h1.1
 have hB := h1.lt
 rcases h1.2 with ⟨rfl, h0⟩ | ⟨g, cap, cur, rfl, hb, hh, hc, hm, hs, ht⟩
 ·refine ⟨0, bk, ⟨none, 0, by rw [h0], by omega, Nat.zero_le _, fun hn => absurd (List.eq_nil_of_length_eq_zero h0) hn, fun k hk => by omega⟩, fun hn => absurd (List.eq_nil_of_length_eq_zero h0) hn, fun k hk => by omega⟩
 ·refine ⟨g, bk, ⟨_, cap, rfl, hc, hm, fun _ => ⟨0, cur, _, rfl, hh, fun k hk => ?_⟩, fun k hk hn => ?_⟩, fun _ => hb, fun k hk hn => (h3 k hk hn).1⟩
  ·obtain ⟨rv, h4, h5⟩ := h2 k hk
   refine ⟨rv, ?_, h5⟩
   have h6 : (cur.toList.take (ls.length * 1))[k]? = vs[k]? := by rw [ht]
   rw [List.getElem?_take, if_pos (by omega), h4] at h6
   rw [Nat.zero_add, ← Array.getElem?_toList, h6]
  ·obtain ⟨h4, h5, h6⟩ := h3 k hk hn
   exact ⟨fun e => h5 (by rw [e]; rfl), h6⟩
theorem sorted_ext : ∀ {a b : List Int}, a.Pairwise (· < ·) → b.Pairwise (· < ·) → (∀ x, x ∈ a ↔ x ∈ b) → a = b
 | [], [], _, _, _ => rfl
 | [], y :: b, _, _, h => by have := (h y).2 (List.mem_cons_self ..); cases this
 | x :: a, [], _, _, h => by have := (h x).1 (List.mem_cons_self ..); cases this
 | x :: a, y :: b, ha, hb, h => by
   rw [List.pairwise_cons] at ha hb
   have hxy : x = y := by
    rcases List.mem_cons.1 ((h x).1 (List.mem_cons_self ..)) with e | e
    ·exact e
    ·rcases List.mem_cons.1 ((h y).2 (List.mem_cons_self ..)) with e2 | e2
     ·exact e2.symm
     ·have := ha.1 y e2; have := hb.1 x e; omega
   subst hxy
   congr 1
   refine sorted_ext ha.2 hb.2 fun z => ⟨fun hz => ?_, fun hz => ?_⟩
   ·rcases List.mem_cons.1 ((h z).1 (List.mem_cons_of_mem _ hz)) with e | e
    ·subst e; have := ha.1 z hz; omega
    ·exact e
   ·rcases List.mem_cons.1 ((h z).2 (List.mem_cons_of_mem _ hz)) with e | e
    ·subst e; have := hb.1 z hz; omega
    ·exact e
/-- Cut i of each key. -/
def colOf (keys : List (List Int)) (i : Nat) : List Int := keys.map fun k => geti k i
theorem colOf_len (keys : List (List Int)) (i : Nat) : (colOf keys i).length = keys.length := by simp [colOf]
theorem colOf_take {keys : List (List Int)} {i k : Nat} (h : k < keys.length) : (colOf keys i).take (k + 1) = (colOf keys i).take k ++ [geti (getl keys k) i] := by
 rw [take_geti (by rw [colOf_len]; exact h)]
 congr 2
 rw [geti_eq (by rw [colOf_len]; exact h)]
 simp [colOf, getl_eq h]
/-- The sets of the first n chambers. -/
def hullR (keys : List (List Int)) : Nat → List (List Int)
 | 0 => []
 | n + 1 => hullR keys n ++ [diffI (colOf keys n)]
theorem hullR_len (keys : List (List Int)) : ∀ n, (hullR keys n).length = n
 | 0 => rfl
 | n + 1 => by simp [hullR, hullR_len keys n]
/-- One of the first k keys has cut d in chamber i. -/
def isCut (keys : List (List Int)) (i : Nat) (d : Int) : Nat → Bool
 | 0 => false
 | k + 1 => isCut keys i d k || decide (geti (getl keys k) i = d)
theorem isCut_iff {keys : List (List Int)} {i : Nat} {d : Int} : ∀ {k}, isCut keys i d k = true ↔ ∃ j, j < k ∧ geti (getl keys j) i = d
 | 0 => by simp [isCut]
 | k + 1 => by
   simp only [isCut, Bool.or_eq_true, decide_eq_true_eq, isCut_iff (k := k)]
   constructor
   ·rintro (⟨j, h1, h2⟩ | h)
    ·exact ⟨j, by omega, h2⟩
    ·exact ⟨k, by omega, h⟩
   ·rintro ⟨j, h1, h2⟩
    by_cases e : j = k
    ·subst e; exact .inr h2
    ·exact .inl ⟨j, by omega, h2⟩
/-- The depths below D that some key has in chamber i. -/
def dset (keys : List (List Int)) (i : Nat) : Nat → List Int
 | 0 => []
 | d + 1 => if isCut keys i d keys.length = true then dset keys i d ++ [(d : Int)] else dset keys i d
theorem dset_len (keys : List (List Int)) (i : Nat) : ∀ d, (dset keys i d).length ≤ d
 | 0 => Nat.le_refl _
 | d + 1 => by have := dset_len keys i d; unfold dset; split <;> simp <;> omega
theorem mem_dset {keys : List (List Int)} {i : Nat} {x : Int} : ∀ {D}, x ∈ dset keys i D ↔ 0 ≤ x ∧ x < D ∧ ∃ j, j < keys.length ∧ geti (getl keys j) i = x
 | 0 => by simp [dset]; intros; omega
 | D + 1 => by
   unfold dset
   split
   ·rename_i h
    rw [List.mem_append, mem_dset]
    constructor
    ·rintro (⟨h1, h2, h3⟩ | h1)
     ·exact ⟨h1, by omega, h3⟩
     ·simp at h1; subst h1; exact ⟨by omega, by omega, isCut_iff.1 h⟩
    ·rintro ⟨h1, h2, h3⟩
     by_cases e : x = D
     ·subst e; right; simp
     ·exact .inl ⟨h1, by omega, h3⟩
   ·rename_i h
    rw [mem_dset]
    constructor
    ·rintro ⟨h1, h2, h3⟩; exact ⟨h1, by omega, h3⟩
    ·rintro ⟨h1, h2, h3⟩
     refine ⟨h1, ?_, h3⟩
     by_cases e : x = D
     ·subst e; exact absurd (isCut_iff.2 h3) h
     ·omega
theorem dset_sorted (keys : List (List Int)) (i : Nat) : ∀ D, (dset keys i D).Pairwise (· < ·)
 | 0 => List.Pairwise.nil
 | D + 1 => by
   unfold dset
   split
   ·rw [List.pairwise_append]
    refine ⟨dset_sorted keys i D, List.pairwise_singleton _ _, fun x hx y hy => ?_⟩
    obtain rfl := List.mem_singleton.1 hy
    exact (mem_dset.1 hx).2.1
   ·exact dset_sorted keys i D
theorem dset_eq {keys : List (List Int)} {i D : Nat} (h : ∀ j, j < keys.length → 0 ≤ geti (getl keys j) i ∧ geti (getl keys j) i < D) : dset keys i D = diffI (colOf keys i) := by
 obtain ⟨h1, h2⟩ := diffI_sort (colOf keys i)
 refine sorted_ext (dset_sorted _ _ _) h1 fun x => ?_
 rw [h2, mem_dset]
 unfold colOf
 rw [List.mem_map]
 constructor
 ·rintro ⟨_, _, j, hj, rfl⟩; exact ⟨_, getl_mem hj, rfl⟩
 ·rintro ⟨k, hk, rfl⟩
  obtain ⟨j, hj, rfl⟩ := List.getElem_of_mem hk
  rw [← getl_eq hj]
  exact ⟨(h j hj).1, (h j hj).2, j, hj, rfl⟩
/-- The cuts among the first k rows that open door d. -/
def doorCuts (t cuts : List (List Int)) (d : Nat) : Nat → List (List Int)
 | 0 => []
 | k + 1 => if geti (getl t k) d = 1 then doorCuts t cuts d k ++ [getl cuts k] else doorCuts t cuts d k
theorem doorCuts_len (t cuts : List (List Int)) (d : Nat) : ∀ k, (doorCuts t cuts d k).length ≤ k
 | 0 => Nat.le_refl _
 | k + 1 => by have := doorCuts_len t cuts d k; unfold doorCuts; split <;> simp <;> omega
theorem doorCuts_map (t cuts : List (List Int)) (d : Nat) : ∀ k, doorCuts t cuts d k = (rowsF t d k).map fun x => getl cuts x.toNat
 | 0 => rfl
 | k + 1 => by
   rw [doorCuts, rowsF, doorCuts_map t cuts d k]
   split
   ·simp
   ·rfl
theorem mem_doorCuts {t cuts : List (List Int)} {d k : Nat} {x : List Int} (h : x ∈ doorCuts t cuts d k) : ∃ i, i < k ∧ x = getl cuts i ∧ geti (getl t i) d = 1 := by
 rw [doorCuts_map, List.mem_map] at h
 obtain ⟨y, hy, rfl⟩ := h
 obtain ⟨i, h1, rfl, h2⟩ := mem_rowsF.1 hy
 exact ⟨i, h1, by simp, h2⟩
/-- Of the rows rs, the cuts of those below n. -/
def cutsAt (cuts : List (List Int)) (n : Nat) (rs : List Int) : List (List Int) := (rs.filter fun x => decide (x < (n : Int))).map fun x => getl cuts x.toNat
theorem cutsAt_len (cuts : List (List Int)) (n : Nat) (rs : List Int) : (cutsAt cuts n rs).length ≤ rs.length := by
 unfold cutsAt; rw [List.length_map]; exact List.length_filter_le _ _
theorem cutsAt_step {cuts : List (List Int)} {n j : Nat} {rs : List Int} (h : j < rs.length) : cutsAt cuts n (rs.take (j + 1)) = cutsAt cuts n (rs.take j) ++ if geti rs j < n then [getl cuts (geti rs j).toNat] else [] := by
 unfold cutsAt
 rw [take_geti h, List.filter_append, List.map_append]
 congr 1
 split <;> simp_all
theorem cutsAt_all {t cuts : List (List Int)} {d n : Nat} : ∀ {k}, cutsAt cuts n (rowsF t d k) = doorCuts t cuts d (min k n)
 | 0 => by simp [cutsAt, rowsF, doorCuts]
 | k + 1 => by
   have ih := cutsAt_all (t := t) (cuts := cuts) (d := d) (n := n) (k := k)
   unfold cutsAt at ih ⊢
   rw [rowsF]
   by_cases hk : k < n
   ·rw [show min (k + 1) n = min k n + 1 from by omega, doorCuts, ← ih, show min k n = k from by omega]
    split
    ·rw [List.filter_append, List.map_append]; simp [hk]
    ·rfl
   ·rw [show min (k + 1) n = min k n from by omega, ← ih]
    split
    ·rw [List.filter_append, List.map_append]; simp; omega
    ·rfl
/-- The lock of door d, and all locks. -/
def lockR (n : Nat) (t cuts : List (List Int)) (d : Nat) : List (List Int) := hullR (doorCuts t cuts d cuts.length) n
def locksTo (n : Nat) (t cuts : List (List Int)) : Nat → List (List (List Int))
 | 0 => []
 | d + 1 => locksTo n t cuts d ++ [lockR n t cuts d]
theorem locksTo_len (n : Nat) (t cuts : List (List Int)) : ∀ d, (locksTo n t cuts d).length = d
 | 0 => rfl
 | d + 1 => by simp [locksTo, locksTo_len n t cuts d]
theorem getll_append1 {ls : List (List (List Int))} {l : List (List Int)} {k : Nat} (h : k < ls.length) : getll (ls ++ [l]) k = getll ls k := by
 simp [getll, List.getElem?_append_left h]
theorem getll_last {ls : List (List (List Int))} {l : List (List Int)} : getll (ls ++ [l]) ls.length = l := by
 unfold getll; simp
theorem locksTo_get {n : Nat} {t cuts : List (List Int)} : ∀ {D d : Nat}, d < D → getll (locksTo n t cuts D) d = lockR n t cuts d
 | D + 1, d, h => by
   have hl := locksTo_len n t cuts D
   by_cases e : d = D
   ·subst e
    rw [locksTo]
    unfold getll
    rw [List.getD_eq_getElem?_getD, List.getElem?_append_right (by omega)]
    simp [hl]
   ·rw [locksTo, getll_append1 (by omega)]
    exact locksTo_get (by omega)
/-- A lock of sets l is opened by cuts. -/
def opensB (l : List (List Int)) (cuts : List Int) : Bool := upAll (fun i => hasI (getl l i) (geti cuts i)) cuts.length 0
end Go.Proofs.YtmjplkbmhdkggaaGreat
namespace Go.Proofs.YtmjplkbmhdkggaaGreat
set_option linter.unusedVariables false
set_option linter.unusedSimpArgs false
theorem depths_snoc {lo x : Nat} (h : lo ≤ x) : depths lo (x + 1) = depths lo x ++ [(x : Int)] := by
 unfold depths
 rw [show x + 1 - lo = (x - lo) + 1 from by omega, List.range_succ, List.map_append]
 simp only [List.map_cons, List.map_nil]
 rw [show lo + (x - lo) = x from by omega]
/-- A run over a list, with a state, that stops as soon as a step says no. -/
def runL {σ α : Type} (f : σ → α → σ × Bool) : σ → List α → σ × Bool
 | s, [] => (s, true)
 | s, k :: ks => if (f s k).2 = true then runL f (f s k).1 ks else ((f s k).1, false)
theorem runL_append {σ α : Type} (f : σ → α → σ × Bool) : ∀ (a b : List α) (s : σ), runL f s (a ++ b) = if (runL f s a).2 = true then runL f (runL f s a).1 b else ((runL f s a).1, false)
 | [], b, s => by simp [runL]
 | k :: a, b, s => by
   simp only [List.cons_append, runL]
   by_cases h : (f s k).2 = true
   ·simp only [h, if_true]; exact runL_append f a b _
   ·simp only [h, if_false]; simp
theorem runL_go {σ α : Type} (f : σ → α → σ × Bool) {a b : List α} {s : σ} (h : (runL f s a).2 = true) : runL f s (a ++ b) = runL f (runL f s a).1 b := by
 rw [runL_append, if_pos h]
theorem runL_one {σ α : Type} (f : σ → α → σ × Bool) (k : α) (s : σ) : runL f s [k] = f s k := by
 simp only [runL]
 split
 ·rename_i h; rw [← h]
 ·rename_i h; simp only [Bool.not_eq_true] at h; rw [← h]
/-- The keys that begin with pre, rem cuts more, whose cuts are allowed; tight: from the cuts of fr on. -/
def genF (m : Mk) (A : Nat → Int → Bool) (fr : List Int) : Bool → Nat → List Int → List (List Int)
 | _, 0, pre => if m.l ≤ (kinds pre : Int) then [pre] else []
 | tight, rem + 1, pre => (depths (if tight = true then (geti fr pre.length).toNat else 0) m.d.toNat).flatMap fun x =>
   if (A pre.length x && fitAt m (pre ++ [x]) pre.length) = true then genF m A fr (tight && decide (x = geti fr pre.length)) rem (pre ++ [x]) else []
def brF (m : Mk) (A : Nat → Int → Bool) (fr : List Int) (tight : Bool) (rem : Nat) (pre : List Int) (x : Int) : List (List Int) :=
 if (A pre.length x && fitAt m (pre ++ [x]) pre.length) = true then genF m A fr (tight && decide (x = geti fr pre.length)) rem (pre ++ [x]) else []
def lowF (fr : List Int) (tight : Bool) (n : Nat) : Nat := if tight = true then (geti fr n).toNat else 0
theorem genF_succ (m : Mk) (A : Nat → Int → Bool) (fr : List Int) (tight : Bool) (rem : Nat) (pre : List Int) :
  genF m A fr tight (rem + 1) pre = (depths (lowF fr tight pre.length) m.d.toNat).flatMap (brF m A fr tight rem pre) := rfl
theorem genF_free (m : Mk) (fr : List Int) : ∀ (rem : Nat) (pre : List Int), genF m (fun _ _ => true) fr false rem pre = gen m rem pre
 | 0, pre => rfl
 | rem + 1, pre => by
   rw [genF_succ, gen_succ]
   show (depths 0 m.d.toNat).flatMap _ = _
   congr 1
   funext x
   unfold brF branch
   simp only [Bool.true_and, Bool.false_and]
   rw [genF_free m fr rem (pre ++ [x])]
/-- The spec's count, first and next. -/
def genB (m : Mk) (rem : Nat) (pre : List Int) : List (List Int) := if begins m pre = true then gen m rem pre else []
theorem genB_succ {m : Mk} {rem : Nat} {pre : List Int} (h : begins m pre = true) : genB m (rem + 1) pre = (depths 0 m.d.toNat).flatMap fun x => genB m rem (pre ++ [x]) := by
 unfold genB
 rw [if_pos h, gen_succ]
 congr 1
 funext x
 unfold branch
 rw [begins_snoc, h, Bool.true_and]
theorem genB_nil (m : Mk) : genB m m.c.toNat [] = keysOf m := by
 unfold genB keysOf
 rw [if_pos begins_nil]
theorem branch_genB {m : Mk} {rem : Nat} {pre : List Int} {x : Int} (h : begins m pre = true) : branch m rem pre x = genB m rem (pre ++ [x]) := by
 unfold genB branch
 rw [begins_snoc, h, Bool.true_and]
/-- The keys behind k (of C cuts) that share the first n cuts with it, whatever k is. -/
def behindFrom (m : Mk) (C : Nat) (k : List Int) (n : Nat) : List (List Int) :=
 ((List.range (C - n)).map fun j => C - 1 - j).flatMap fun i => (depths ((geti k i).toNat + 1) m.d.toNat).flatMap fun x => genB m (C - 1 - i) (k.take i ++ [x])
theorem behindFrom_step {m : Mk} {C : Nat} {k : List Int} {n : Nat} (h : n < C) :
  behindFrom m C k n = behindFrom m C k (n + 1) ++ (depths ((geti k n).toNat + 1) m.d.toNat).flatMap fun x => genB m (C - 1 - n) (k.take n ++ [x]) := by
 unfold behindFrom
 rw [show C - n = (C - (n + 1)) + 1 from by omega, List.range_succ, List.map_append, List.flatMap_append]
 congr 1
 simp only [List.map_cons, List.map_nil, List.flatMap_cons, List.flatMap_nil, List.append_nil]
 rw [show C - 1 - (C - (n + 1)) = n from by omega]
theorem behindFrom_end {m : Mk} {C : Nat} {k : List Int} : behindFrom m C k C = [] := by
 unfold behindFrom; rw [Nat.sub_self]; rfl
theorem begins_take {m : Mk} {k : List Int} {n : Nat} (h : begins m k = true) : begins m (k.take n) = true := by
 rw [begins_iff] at h ⊢
 intro i hi
 have hi' : i < n ∧ i < k.length := by simp at hi; omega
 have := h i hi'.2
 rw [← this]
 unfold fitAt
 rw [runAt_take hi'.1, geti_take hi'.1]
 cases i with
 | zero => rfl
 | succ j => rw [geti_take (by simpa using (by omega : j < n))]
theorem behind_after {m : Mk} {C : Nat} {k : List Int} (h : begins m k = true) : ∀ n, behindFrom m C k n = afterFrom m C k n := by
 intro n
 unfold behindFrom afterFrom
 congr 1
 funext i
 congr 1
 funext x
 exact (branch_genB (begins_take h)).symm
def behind (m : Mk) (k : List Int) : List (List Int) := behindFrom m m.c.toNat k 0
/-- All keys, from k on: behind the first comes the next. -/
theorem keys_behind {m : Mk} (hc : 0 ≤ m.c) {L1 L2 : List (List Int)} {k : List Int} (h : keysOf m = L1 ++ k :: L2) : behind m k = L2 := by
 have hk : k ∈ keysOf m := by rw [h]; simp
 have hb := (isKey_iff.1 ((mem_keysOf hc).1 hk)).2.2.1
 unfold behind
 rw [behind_after hb]
 exact keys_after h
/-! ### Runs of equal cuts, told otherwise -/
theorem runAt_char {l : List Int} : ∀ (n r : Nat), 1 ≤ r → r ≤ n + 1 → (∀ j, j < r → geti l (n - j) = geti l n) → (r = n + 1 ∨ geti l (n - r) ≠ geti l n) → runAt l n = r
 | 0, r, h1, h2, _, _ => by have : r = 1 := by omega
                            subst this; rfl
 | n + 1, r, h1, h2, h3, h4 => by
   unfold runAt
   by_cases hr : r = 1
   ·subst hr
    have hne : geti l n ≠ geti l (n + 1) := by
     rcases h4 with h | h
     ·omega
     ·simpa using h
    rw [if_neg (fun e => hne e.symm)]
   ·have h5 := h3 1 (by omega)
    simp only [Nat.add_sub_cancel] at h5
    rw [if_pos h5.symm]
    have := runAt_char (l := l) n (r - 1) (by omega) (by omega) (fun j hj => by
     have := h3 (j + 1) (by omega)
     rw [show n + 1 - (j + 1) = n - j from by omega] at this
     rw [this, h5]) (by
     rcases h4 with h | h
     ·left; omega
     ·right
      rw [show n - (r - 1) = n + 1 - r from by omega, h5]; exact h)
    omega
/-- The longest run among the first k cuts. -/
def mostRun (l : List Int) : Nat → Nat
 | 0 => 0
 | k + 1 => max (mostRun l k) (runAt l k)
theorem mostRun_le (l : List Int) : ∀ k, mostRun l k ≤ k
 | 0 => Nat.le_refl _
 | k + 1 => by have := mostRun_le l k; have := runAt_le l k; unfold mostRun; omega
theorem mostRun_bad {m : Mk} {l : List Int} : ∀ k, (0 ≤ m.e) → ((m.e < (mostRun l k : Int)) ↔ (List.range k).any (runBad m l) = true)
 | 0, h => by simp [mostRun]; omega
 | k + 1, h => by
   rw [List.range_succ, List.any_append, Bool.or_eq_true, ← mostRun_bad k h]
   simp only [List.any_cons, List.any_nil, Bool.or_false, runBad, decide_eq_true_eq, mostRun]
   omega
theorem any_range_mono {p : Nat → Bool} {k n : Nat} (h : k < n) (hp : p k = true) : (List.range n).any p = true :=
 List.any_eq_true.2 ⟨k, List.mem_range.2 h, hp⟩
theorem any_range_none {p : Nat → Bool} {n : Nat} (h : ∀ k, k < n → p k = false) : (List.range n).any p = false := by
 rw [List.any_eq_false]; intro k hk; rw [h k (List.mem_range.1 hk)]; decide
/-- The cases of the fault. -/
theorem fault1 {m : Mk} {l : List Int} (h : (l.length : Int) ≠ m.c) : fault m l = 1 := by unfold fault; rw [if_pos h]
theorem fault2 {m : Mk} {l : List Int} (h : (l.length : Int) = m.c) (h2 : (l.all fun n => inB n 0 (m.d - 1)) = false) : fault m l = 2 := by
 unfold fault; rw [if_neg (by omega), if_pos h2]
theorem fault3 {m : Mk} {l : List Int} (h : (l.length : Int) = m.c) (h2 : (l.all fun n => inB n 0 (m.d - 1)) = true) (h3 : (List.range l.length).any (stepBad m l) = true) : fault m l = 3 := by
 unfold fault; rw [if_neg (by omega), if_neg (by rw [h2]; decide), if_pos h3]
theorem fault4 {m : Mk} {l : List Int} (h : (l.length : Int) = m.c) (h2 : (l.all fun n => inB n 0 (m.d - 1)) = true) (h3 : (List.range l.length).any (stepBad m l) = false) (h4 : (List.range l.length).any (runBad m l) = true) : fault m l = 4 := by
 unfold fault; rw [if_neg (by omega), if_neg (by rw [h2]; decide), if_neg (by rw [h3]; decide), if_pos h4]
theorem fault5 {m : Mk} {l : List Int} (h : (l.length : Int) = m.c) (h2 : (l.all fun n => inB n 0 (m.d - 1)) = true) (h3 : (List.range l.length).any (stepBad m l) = false) (h4 : (List.range l.length).any (runBad m l) = false) (h5 : (kinds l : Int) < m.l) : fault m l = 5 := by
 unfold fault; rw [if_neg (by omega), if_neg (by rw [h2]; decide), if_neg (by rw [h3]; decide), if_neg (by rw [h4]; decide), if_pos h5]
theorem fault0 {m : Mk} {l : List Int} (h : (l.length : Int) = m.c) (h2 : (l.all fun n => inB n 0 (m.d - 1)) = true) (h3 : (List.range l.length).any (stepBad m l) = false) (h4 : (List.range l.length).any (runBad m l) = false) (h5 : ¬ (kinds l : Int) < m.l) : fault m l = 0 := by
 unfold fault; rw [if_neg (by omega), if_neg (by rw [h2]; decide), if_neg (by rw [h3]; decide), if_neg (by rw [h4]; decide), if_neg h5]
end Go.Proofs.YtmjplkbmhdkggaaGreat
namespace Go.Proofs.YtmjplkbmhdkggaaGreat
open Go.RowKit
set_option linter.unusedVariables false
set_option linter.unusedSimpArgs false
theorem absolute_any (x : Int) (W : World) (hx : -1000 ≤ x ∧ x ≤ 1000) :
  Calls Tryz.prog 150 #[.int .i64 x] W fun e' w' => e' = .returned (.int .i64 (absI x)) ∧ W = w' := by
 obtain ⟨h1, h2⟩ := hx
 go_enter Tryz.func150, Tryz.ntmps150
 go_wp2
 all_goals go_ret
 all_goals exact ⟨ret_int (by unfold absI; omega), rfl⟩
theorem l01Abs_any (x : Int) (W : World) (hx : -1000 ≤ x ∧ x ≤ 1000) :
  Calls Tryz.prog 199 #[.int .i64 x] W fun e' w' => e' = .returned (.int .i64 (absI x)) ∧ W = w' := by
 obtain ⟨h1, h2⟩ := hx
 go_enter Tryz.func199, Tryz.ntmps199
 go_wp2
 all_goals go_ret
 all_goals exact ⟨ret_int (by unfold absI; omega), rfl⟩
theorem idxR_stepi {g : Int → Bool} {l : List Int} {k : Nat} (h : k < l.length) : idxR g (l.drop k) k = if g (geti l k) then (k : Int) else idxR g (l.drop (k + 1)) (k + 1) := by
 rw [List.drop_eq_getElem_cons h, idxR, geti_eq h]
theorem slIndex_any {S : Nat → Prop} (v : Value) (l : List Int) (x : Int) (W : World) (h : V1 S W v l) :
  Calls Tryz.prog 215 #[v, .int .i64 x] W fun e' w' => e' = .returned (.int .i64 (idxR (fun y => decide (y = x)) l 0)) ∧ W = w' := by
 have hV := h
 obtain ⟨a, c, rfl, hm⟩ := h.form
 go_enter Tryz.func215, Tryz.ntmps215
 go_wp2_with fail
 go_loop [5, 8] (fun _ i => ∃ k : Nat, k ≤ l.length ∧ i = .int .i64 k ∧ idxR (fun y => decide (y = x)) l 0 = idxR (fun y => decide (y = x)) (l.drop k) k) (fun _ i => l.length - (intOf i).toNat)
 case atStart => exact ⟨0, Nat.zero_le _, rfl, rfl⟩
 case round =>
  obtain ⟨k, hk, rfl, hrem⟩ := hrel
  have Hr := Lib.hid hrem; clear hrem
  by_cases hkk : k < l.length
  ·obtain ⟨b1, off1, rfl, _, hc1⟩ := hV.cell hkk
   by_cases he : geti l k = x
   ·have e1 : (x == geti l k) = true := by simp [he]
    have E1 := Lib.hid (decide_eq_true he)
    have He := Lib.hid he; clear he
    go_wp2_with fail
    go_ret
    exact ⟨ret_int (by rw [Hr.out, idxR_stepi hkk, E1.out]; rfl), rfl⟩
   ·have e1 : (x == geti l k) = false := by simp; exact fun e => he e.symm
    have E1 := Lib.hid (decide_eq_false he)
    have He := Lib.hid he; clear he
    go_wp2_with fail
    go_round
    case rel => exact ⟨k + 1, by omega, by go_num, by rw [Hr.out, idxR_stepi hkk, E1.out]; rfl⟩
    case measure => simp [intOf]; omega
  ·have hd : l.drop k = [] := List.drop_of_length_le (by omega)
   have Hd := Lib.hid hd; clear hd
   go_wp2_with fail
   go_ret
   exact ⟨ret_int (by rw [Hr.out, Hd.out]; rfl), rfl⟩
theorem slContains_any {S : Nat → Prop} (v : Value) (l : List Int) (x : Int) (W : World) (h : V1 S W v l) :
  Calls Tryz.prog 186 #[v, .int .i64 x] W fun e' w' => e' = .returned (.bool (hasI l x)) ∧ W = w' := by
 have hfin := (idxR_any (fun y => decide (y = x)) l 0).1
 have Hfin := Lib.hid hfin; clear hfin
 go_enter Tryz.func186, Tryz.ntmps186
 go_wp2_with fail
 refine (slIndex_any _ _ _ _ h).mono ?_
 rintro e' w' ⟨rfl, rfl⟩
 go_wp2_with fail
 go_ret
 exact ⟨ret_bool (by rw [hasI, ← Hfin.out]), rfl⟩
theorem slContains_b {S : Nat → Prop} (v : Value) (l : List Int) (x : Int) (W : World) (r : Bool) (hr : hasI l x = r) (h : V1 S W v l) :
  Calls Tryz.prog 186 #[v, .int .i64 x] W fun e' w' => e' = .returned (.bool r) ∧ W = w' := by subst hr; exact slContains_any v l x W h
theorem hasI_step {l : List Int} {k : Nat} (h : k < l.length) (x : Int) : hasI (l.drop k) x = (decide (geti l k = x) || hasI (l.drop (k + 1)) x) := by
 unfold hasI; rw [any_step _ h, geti_eq h]
theorem l01Has_any {S : Nat → Prop} (v : Value) (l : List Int) (x : Int) (W : World) (h : V1 S W v l) :
  Calls Tryz.prog 177 #[v, .int .i64 x] W fun e' w' => e' = .returned (.bool (hasI l x)) ∧ W = w' := by
 have hV := h
 obtain ⟨a, c, rfl, hm⟩ := h.form
 go_enter Tryz.func177, Tryz.ntmps177
 go_wp2_with fail
 go_loop [5] (fun i => ∃ k : Nat, k ≤ l.length ∧ i = .int .i64 k ∧ hasI l x = hasI (l.drop k) x) (fun i => l.length - (intOf i).toNat)
 case atStart => exact ⟨0, Nat.zero_le _, rfl, rfl⟩
 case round =>
  obtain ⟨k, hk, rfl, hrem⟩ := hrel
  have Hr := Lib.hid hrem; clear hrem
  by_cases hkk : k < l.length
  ·obtain ⟨b1, off1, rfl, _, hc1⟩ := hV.cell hkk
   by_cases he : geti l k = x
   ·have e1 : (geti l k == x) = true := by simp [he]
    have E1 := Lib.hid (decide_eq_true he)
    have He := Lib.hid he; clear he
    go_wp2_with fail
    go_ret
    exact ⟨ret_bool (by rw [Hr.out, hasI_step hkk, E1.out]; rfl), rfl⟩
   ·have e1 : (geti l k == x) = false := by simp [he]
    have E1 := Lib.hid (decide_eq_false he)
    have He := Lib.hid he; clear he
    go_wp2_with fail
    go_round
    case rel => exact ⟨k + 1, by omega, by go_num, by rw [Hr.out, hasI_step hkk, E1.out]; rfl⟩
    case measure => simp [intOf]; omega
  ·have hd : l.drop k = [] := List.drop_of_length_le (by omega)
   have Hd := Lib.hid hd; clear hd
   go_wp2_with fail
   go_ret
   exact ⟨ret_bool (by rw [Hr.out, Hd.out]; rfl), rfl⟩
theorem l01Has_b {S : Nat → Prop} (v : Value) (l : List Int) (x : Int) (W : World) (r : Bool) (hr : hasI l x = r) (h : V1 S W v l) :
  Calls Tryz.prog 177 #[v, .int .i64 x] W fun e' w' => e' = .returned (.bool r) ∧ W = w' := by subst hr; exact l01Has_any v l x W h
theorem different_any {S : Nat → Prop} (v : Value) (l : List Int) (W : World) (h : V1 S W v l) :
  Calls Tryz.prog 149 #[v] W fun e' w' => e' = .returned (.int .i64 (kinds l)) ∧ W = w' := by
 have hV := h
 obtain ⟨a, c, rfl, hm⟩ := h.form
 go_enter Tryz.func149, Tryz.ntmps149
 go_wp2_with fail
 go_loop [3, 4, 5, 8] (fun s _ _ i => ∃ k : Nat, k ≤ l.length ∧ i = .int .i64 k ∧ s = .int .i64 (kindsTo l k)) (fun _ _ _ i => l.length - (intOf i).toNat)
 case atStart => exact ⟨0, Nat.zero_le _, rfl, rfl⟩
 case round =>
  obtain ⟨k, hk, rfl, rfl⟩ := hrel
  have hdl := kindsTo_le l k
  by_cases hkk : k < l.length
  ·obtain ⟨b1, off1, rfl, _, hc1⟩ := hV.cell hkk
   have htk := hV.take (n := k) (by omega)
   have hcap := hV.cap
   cases hh : hasI (l.take k) (geti l k)
   ·have HH := Lib.hid hh; clear hh
    go_wp2_with (go_at_call 186; refine (slContains_b _ _ _ _ _ HH.out htk).mono ?_; rintro e' w' ⟨rfl, rfl⟩)
    go_round
    case rel => exact ⟨k + 1, by omega, by go_num, by rw [kindsTo, if_neg (by rw [HH.out]; decide)]; go_num⟩
    case measure => simp [intOf]; omega
   ·have HH := Lib.hid hh; clear hh
    go_wp2_with (go_at_call 186; refine (slContains_b _ _ _ _ _ HH.out htk).mono ?_; rintro e' w' ⟨rfl, rfl⟩)
    go_round
    case rel => exact ⟨k + 1, by omega, by go_num, by rw [kindsTo, if_pos HH.out]; rfl⟩
    case measure => simp [intOf]; omega
  ·obtain rfl : k = l.length := by omega
   go_wp2_with fail
   go_ret
   exact ⟨rfl, rfl⟩
theorem l02Kinds_q {S : Nat → Prop} (v : Value) (l : List Int) (W : World) (h : V1 S W v l) :
  Calls Tryz.prog 139 #[v] W fun e' w' => e' = .returned (.int .i64 (kinds l)) ∧ ∃ n, w' = W.drewN n := by
 have hV := h
 obtain ⟨a, c, rfl, hm⟩ := h.form
 go_enter Tryz.func139, Tryz.ntmps139
 go_wp2_with fail
 go_loopw [3, 4] (fun s i wr => ∃ k n : Nat, k ≤ l.length ∧ i = .int .i64 k ∧ s = .int .i64 (kindsTo l k) ∧ wr = W.drewN n) (fun _ i _ => l.length - (intOf i).toNat)
 case atStart => exact ⟨0, 0, Nat.zero_le _, rfl, rfl, rfl⟩
 case round =>
  obtain ⟨k, n, hk, rfl, rfl, rfl⟩ := hrel
  have hdl := kindsTo_le l k
  by_cases hkk : k < l.length
  ·obtain ⟨b1, off1, rfl, _, hc1⟩ := hV.cell hkk
   have htk := hV.take (n := k) (by omega)
   have hcap := hV.cap
   cases hh : hasI (l.take k) (geti l k)
   ·have HH := Lib.hid hh; clear hh
    go_wp2_with fail
    go_quiet ((go_at_call 177; first | exact quiet_same (l01Has_b _ _ _ _ _ HH.out (V1.drewN htk)) | exact quiet_same0 (l01Has_b _ _ _ _ _ HH.out (V1.drewN htk))))
    go_wp2_with fail
    go_roundw
    case rel => exact ⟨k + 1, _, by omega, by go_num, by rw [kindsTo, if_neg (by rw [HH.out]; decide)]; go_num, by first | rfl | rw [World.drewN_drewN]⟩
    case measure => simp [intOf]; omega
   ·have HH := Lib.hid hh; clear hh
    go_wp2_with fail
    go_quiet ((go_at_call 177; first | exact quiet_same (l01Has_b _ _ _ _ _ HH.out (V1.drewN htk)) | exact quiet_same0 (l01Has_b _ _ _ _ _ HH.out (V1.drewN htk))))
    go_wp2_with fail
    go_roundw
    case rel => exact ⟨k + 1, _, by omega, by go_num, by rw [kindsTo, if_pos HH.out]; rfl, by first | rfl | rw [World.drewN_drewN]⟩
    case measure => simp [intOf]; omega
  ·obtain rfl : k = l.length := by omega
   go_wp2_with fail
   go_ret
   exact ⟨rfl, _, by first | rfl | rw [World.drewN_drewN]⟩
theorem sameRun_q {S : Nat → Prop} (v : Value) (l : List Int) (W : World) (h : V1 S W v l) (hn : 0 < l.length) :
  Calls Tryz.prog 151 #[v] W fun e' w' => e' = .returned (.int .i64 (runAt l (l.length - 1))) ∧ ∃ n, w' = W.drewN n := by
 have hV := h
 obtain ⟨a, c, rfl, hm⟩ := h.form
 go_enter Tryz.func151, Tryz.ntmps151
 go_wp2_with fail
 go_loopw [3] (fun i wr => ∃ r n : Nat, 1 ≤ r ∧ r ≤ l.length ∧ i = .int .i64 r ∧ (∀ j, j < r → geti l (l.length - 1 - j) = geti l (l.length - 1)) ∧ wr = W.drewN n) (fun i _ => l.length - (intOf i).toNat)
 case atStart => exact ⟨1, 0, Nat.le_refl _, by omega, rfl, fun j hj => by rw [show j = 0 from by omega, Nat.sub_zero], rfl⟩
 case round =>
  obtain ⟨r, n, hr1, hr2, rfl, hall, rfl⟩ := hrel
  have Hall := Lib.hid hall; clear hall
  by_cases hkk : r < l.length
  ·obtain ⟨b1, off1, rfl, _, hc1⟩ := hV.cell (k := l.length - 1 - r) (by omega)
   obtain ⟨b2, off2, e2, _, hc2⟩ := hV.cell (k := l.length - 1) (by omega)
   simp only [Option.some.injEq, Addr.mk.injEq, and_true] at e2
   obtain ⟨rfl, rfl⟩ := e2
   by_cases he : geti l (l.length - 1 - r) = geti l (l.length - 1)
   ·have e1 : (geti l (l.length - 1 - r) == geti l (l.length - 1)) = true := by simp [he]
    have He := Lib.hid he; clear he
    go_wp2_with fail
    go_quiet (fail)
    go_wp2_with fail
    go_roundw
    case rel => exact ⟨r + 1, _, by omega, by omega, by go_num, fun j hj => by
     by_cases e : j = r
     ·subst e; exact He.out
     ·exact Hall.out j (by omega), by first | rfl | rw [World.drewN_drewN]⟩
    case measure => simp [intOf]; omega
   ·have e1 : (geti l (l.length - 1 - r) == geti l (l.length - 1)) = false := by simp [he]
    have hfin : runAt l (l.length - 1) = r := runAt_char _ _ hr1 (by omega) Hall.out (.inr he)
    have He := Lib.hid he; clear he
    have Hf := Lib.hid hfin; clear hfin
    go_wp2_with fail
    go_quiet (fail)
    go_wp2_with fail
    go_ret
    exact ⟨ret_int (by rw [Hf.out]), _, by first | rfl | rw [World.drewN_drewN]⟩
  ·obtain rfl : r = l.length := by omega
   have hfin : runAt l (l.length - 1) = l.length := runAt_char _ _ hr1 (by omega) Hall.out (.inl (by omega))
   have Hf := Lib.hid hfin; clear hfin
   have hd : decide (l.length < l.length) = false := by simp
   go_wp2_with fail
   go_quiet (fail)
   go_wp2_with fail
   go_ret
   exact ⟨ret_int (by rw [Hf.out]), _, by first | rfl | rw [World.drewN_drewN]⟩
theorem sameRun_b {S : Nat → Prop} (v : Value) (l : List Int) (W : World) (r : Int) (hr : ((runAt l (l.length - 1) : Nat) : Int) = r) (h : V1 S W v l) (hn : 0 < l.length) :
  Calls Tryz.prog 151 #[v] W fun e' w' => e' = .returned (.int .i64 r) ∧ ∃ n, w' = W.drewN n := by subst hr; exact sameRun_q v l W h hn
theorem absolute_b (x q : Int) (W : World) (hq : absI x = q) (hx : -1000 ≤ x ∧ x ≤ 1000) :
  Calls Tryz.prog 150 #[.int .i64 x] W fun e' w' => e' = .returned (.int .i64 q) ∧ W = w' := by subst hq; exact absolute_any x W hx
theorem l01Abs_b (x q : Int) (W : World) (hq : absI x = q) (hx : -1000 ≤ x ∧ x ≤ 1000) :
  Calls Tryz.prog 199 #[.int .i64 x] W fun e' w' => e' = .returned (.int .i64 q) ∧ W = w' := by subst hq; exact l01Abs_any x W hx
theorem areCuts_any {S : Nat → Prop} (m : Mk) (v : Value) (l : List Int) (W : World) (hm : m.ok = true) (h : V1 S W v l) :
  Calls Tryz.prog 220 #[.agg #[.int .i64 m.c, .int .i64 m.d, .int .i64 m.s, .int .i64 m.e, .int .i64 m.l], v] W fun e' w' => e' = .returned (.bool (decide ((l.length : Int) = m.c) && allB l 0 (m.d - 1))) ∧ Below W.heap.size W w' := by
 have hk := (Mk.ok_iff.1 hm).2.1
 obtain ⟨hd1, hd2⟩ := hk
 clear hm
 have hV := h
 obtain ⟨a, c, rfl, hm⟩ := h.form
 obtain ⟨mc, md, ms, me, ml⟩ := m
 simp only at hd1 hd2
 by_cases hl : (l.length : Int) = mc
 ·subst hl
  have hfin : (decide ((l.length : Int) = (l.length : Int)) && allB l 0 (md - 1)) = allB l 0 (md - 1) := by simp
  simp only [hfin]
  cases hb : allB l 0 (md - 1)
  ·have Hb := Lib.hid hb; clear hb
   go_enter Tryz.func220, Tryz.ntmps220
   go_wp2_with (go_at_call 144; refine (allWithin_b _ _ _ _ _ _ Hb.out (hV.below ((Below.refl _ _).alloc (Nat.le_refl _) _))).mono ?_; rintro e' w' ⟨rfl, rfl⟩)
   go_ret
   exact ⟨rfl, by (repeat (first | (with_reducible refine Below.setCell ?_ ?_ _) | (with_reducible refine Below.alloc ?_ ?_ _) | (with_reducible refine Below.drew ?_) | (with_reducible refine below_drewN ?_ _) | (with_reducible exact Below.refl _ _) | (with_reducible assumption) | (with_reducible refine Below.trans ?_ (Below.mono (by with_reducible assumption) ?_)) | go_size))⟩
  ·have Hb := Lib.hid hb; clear hb
   go_enter Tryz.func220, Tryz.ntmps220
   go_wp2_with (go_at_call 144; refine (allWithin_b _ _ _ _ _ _ Hb.out (hV.below ((Below.refl _ _).alloc (Nat.le_refl _) _))).mono ?_; rintro e' w' ⟨rfl, rfl⟩)
   go_ret
   exact ⟨rfl, by (repeat (first | (with_reducible refine Below.setCell ?_ ?_ _) | (with_reducible refine Below.alloc ?_ ?_ _) | (with_reducible refine Below.drew ?_) | (with_reducible refine below_drewN ?_ _) | (with_reducible exact Below.refl _ _) | (with_reducible assumption) | (with_reducible refine Below.trans ?_ (Below.mono (by with_reducible assumption) ?_)) | go_size))⟩
 ·have hfin : (decide ((l.length : Int) = mc) && allB l 0 (md - 1)) = false := by rw [decide_eq_false hl]; rfl
  simp only [hfin]
  have e1 : ((l.length : Int) == mc) = false := by simp [hl]
  have Hf := Lib.hid hfin; clear hfin
  have Hl := Lib.hid hl; clear hl
  go_enter Tryz.func220, Tryz.ntmps220
  go_wp2_with fail
  go_ret
  exact ⟨rfl, by (repeat (first | (with_reducible refine Below.setCell ?_ ?_ _) | (with_reducible refine Below.alloc ?_ ?_ _) | (with_reducible refine Below.drew ?_) | (with_reducible refine below_drewN ?_ _) | (with_reducible exact Below.refl _ _) | (with_reducible assumption) | (with_reducible refine Below.trans ?_ (Below.mono (by with_reducible assumption) ?_)) | go_size))⟩
theorem areCuts_b {S : Nat → Prop} (m : Mk) (v : Value) (l : List Int) (W : World) (r : Bool) (hr : (decide ((l.length : Int) = m.c) && allB l 0 (m.d - 1)) = r) (hm : m.ok = true) (h : V1 S W v l) :
  Calls Tryz.prog 220 #[.agg #[.int .i64 m.c, .int .i64 m.d, .int .i64 m.s, .int .i64 m.e, .int .i64 m.l], v] W fun e' w' => e' = .returned (.bool r) ∧ Below W.heap.size W w' := by subst hr; exact areCuts_any m v l W hm h
end Go.Proofs.YtmjplkbmhdkggaaGreat
