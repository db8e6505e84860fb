/- slices.Sort and slices.Compact over numbers in memory that is a call's own; slices.Clone. No conditions. -/
import Derived.Deep.AppendLies
import Derived.Test.YtikdbjaimcciiaaGreatFrame
import Derived.Test.YtikdbjaimcciiaaGreatCopy
import Derived.Test.YtikdbjaimcciiaaGreatMDiff
import Derived.Test.YtikdbjaimcciiaaGreatKeys
import Derived.Test.YtikdbjaimcciiaaGreatShelf0
import Derived.Test.YtikdbjaimcciiaaGreatHullR
namespace Go.Proofs.YtikdbjaimcciiaaGreat
open Go.RowKit
set_option linter.unusedVariables false
set_option linter.unusedSimpArgs false

theorem putRow_self_heap {w : World} {g n off : Nat} {cur : Array Value} {e : TypeId} (d : Array Int) (h : w.heap[g]? = some (.cells cur e (0, 0))) :
    (Go.Sort.putRow (Value.int .i64) (Go.Sort.ahead w n) g off d).heap[g]? = some (.cells (Go.Sort.putCells (Value.int .i64) off d cur) e (0, 0)) := by
  simp [Go.Sort.putRow, Go.Sort.mapBlock, Array.getElem?_modify, h, Go.Sort.onCells]
theorem putRow_chg (w : World) (g n off : Nat) (d : Array Int) : Chg (fun x => x = g) w (Go.Sort.putRow (Value.int .i64) (Go.Sort.ahead w n) g off d) :=
  ⟨rfl, rfl, rfl, by simp, fun k hk hf => by simp [Go.Sort.putRow, Go.Sort.mapBlock, Array.getElem?_modify, show ¬ g = k from fun e => hf e.symm]⟩
theorem grow_below (w : World) (os : Array Obj) : Below w.heap.size w (Go.Sort.grow w os) := ⟨rfl, rfl, rfl, by simp, fun k hk => Go.Sort.heap_grow_old w os hk⟩
theorem putCells_get {off k : Nat} {d : Array Int} {cur : Array Value} (h1 : k < d.size) (h2 : off + k < cur.size) : (Go.Sort.putCells (Value.int .i64) off d cur)[off + k]? = some (.int .i64 d[k]!) := by
  simp only [Go.Sort.putCells, Array.getElem?_mapIdx, Array.getElem?_eq_getElem h2, Option.map_some]
  rw [if_pos ⟨by omega, by omega⟩, show off + k - off = k by omega]
theorem arr_get {l : List Int} {k : Nat} (h : k < l.length) : l.toArray[k]! = geti l k := by
  rw [getElem!_pos _ k (by simpa using h), geti_eq h]; simp
theorem holds_X1 {w : World} {g off : Nat} {cs : Array Value} {e : TypeId} {l : List Int} (hh : w.heap[g]? = some (.cells cs e (0, 0))) (hc : ∀ k, k < l.length → cs[off + k]? = some (.int .i64 (geti l k))) :
    Go.Sort.Holds (Value.int .i64) w g off l.toArray := fun j hj => by
  have hj' : j < l.length := by simpa using hj
  exact ⟨by rw [cell_of_block hh, hc j hj', arr_get hj'], frozen_of_block hh _⟩

theorem slSort_any (v : Value) (l : List Int) (g : Nat) (W : World) (h : X1 W v l g) (hl : l.length ≤ 1048576) :
    Calls Tryz.prog 201 #[v] W fun e' w' => e' = .returned (.tuple #[]) ∧ X1 w' v (l.mergeSort fun x y => decide (x ≤ y)) g ∧ Chg (fun x => l ≠ [] ∧ x = g) W w' := by
  obtain ⟨a, c, rfl, h1, h2, hX⟩ := h
  by_cases hn : l = []
  · subst hn
    refine (Tryz.slices_Sort_int_none a c W).mono ?_
    rintro e' w' ⟨rfl, rfl⟩
    exact ⟨rfl, ⟨a, c, by simp, by simp, h2, fun h => absurd (by simp) h⟩, Chg.refl _ _⟩
  · obtain ⟨off, cs, e, rfl, hh, hc⟩ := hX hn
    have hlen : (l.mergeSort fun x y => decide (x ≤ y)).length = l.length := List.length_mergeSort l
    refine (Tryz.slices_Sort_int g off c l W (holds_X1 hh hc) (lt_of_heap hh) (by omega)).mono ?_
    rintro e' w' ⟨rfl, n, os, rfl⟩
    generalize (l.mergeSort fun x y => decide (x ≤ y)) = z at *
    have hz := putRow_chg W g n off z.toArray
    have hgl := lt_of_heap hh
    refine ⟨rfl, ⟨some ⟨g, off, none⟩, c, by rw [hlen], by omega, h2, fun _ => ⟨off, _, e, rfl, by rw [Go.Sort.heap_grow_old _ _ (by simpa using hgl)]; exact putRow_self_heap _ hh, fun k hk => ?_⟩⟩, (hz.mono (fun i hi => ⟨hn, hi⟩)).then_below (grow_below _ _)⟩
    rw [putCells_get (by simpa using hk) (Array.getElem?_eq_some_iff.1 (hc k (by omega))).1, arr_get hk]

theorem slCompact_any (v : Value) (l : List Int) (g : Nat) (W : World) (h : X1 W v l g) (hl : l.length ≤ 1048576) :
    Calls Tryz.prog 202 #[v] W fun e' w' => ∃ v', e' = .returned v' ∧ X1 w' v' (Go.Lib.compact l) g ∧ Chg (fun x => l ≠ [] ∧ x = g) W w' := by
  obtain ⟨a, c, rfl, h1, h2, hX⟩ := h
  by_cases hn : l = []
  · subst hn
    refine (Tryz.slices_Compact_int_empty a c W).mono ?_
    rintro e' w' ⟨rfl, rfl⟩
    exact ⟨_, rfl, ⟨a, c, by simp [Go.Lib.compact, Go.Lib.compactUpTo], by simp [Go.Lib.compact, Go.Lib.compactUpTo], h2, fun h => absurd (by simp [Go.Lib.compact, Go.Lib.compactUpTo]) h⟩, Chg.refl _ _⟩
  · obtain ⟨off, cs, e, rfl, hh, hc⟩ := hX hn
    have hle : (Go.Lib.compact l).length ≤ l.length := by
      unfold Go.Lib.compact Go.Lib.compactUpTo
      rw [List.length_map]
      exact Nat.le_trans (List.length_filter_le _ _) (by simp)
    refine (Tryz.slices_Compact_int g off c l W (holds_X1 hh hc) (by omega) h1).mono ?_
    rintro e' w' ⟨rfl, q, rfl⟩
    generalize Go.Lib.compact l = z at *
    have hz := putRow_chg W g q off (z ++ List.replicate (l.length - z.length) 0).toArray
    refine ⟨_, rfl, ⟨some ⟨g, off, none⟩, c, rfl, by omega, h2, fun _ => ⟨off, _, e, rfl, putRow_self_heap _ hh, fun k hk => ?_⟩⟩, hz.mono (fun i hi => ⟨hn, hi⟩)⟩
    rw [putCells_get (by simp; omega) (Array.getElem?_eq_some_iff.1 (hc k (by omega))).1, arr_get (by simp; omega), geti_append hk]

theorem slClone_any {S : Nat → Prop} (v : Value) (l : List Int) (W : World) (h : V1 S W v l) (hl : l.length ≤ 1048576) :
    Calls Tryz.prog 109 #[v] W fun e' w' => ∃ v', e' = .returned v' ∧ F1 W.heap.size w' v' l ∧ Below W.heap.size W w' := by
  obtain ⟨a, c, rfl, hm⟩ := h.form
  by_cases hn : l = []
  · subst hn
    cases a with
    | none =>
      refine (Tryz.slices_Clone_int_nil 0 c W).mono ?_
      rintro e' w' ⟨rfl, rfl⟩
      exact ⟨_, rfl, ⟨0, ⟨none, 0, rfl, Nat.le_refl _, Nat.zero_le _, fun hn => absurd rfl hn⟩, fun hn => absurd rfl hn⟩, Below.refl _ _⟩
    | some a =>
      refine (Tryz.slices_Clone_int_zero a c W).mono ?_
      rintro e' w' ⟨v', rfl, hown, _, hB⟩
      exact ⟨_, rfl, own_F1 (l := []) hown, hB⟩
  · have hp : 0 < l.length := List.length_pos_iff.2 hn
    obtain ⟨b1, off1, rfl, _, _⟩ := h.cell hp
    refine (Tryz.slices_Clone_int b1 off1 l.length c l W (Nat.le_refl _) (by omega) (fun j hj => ?_)).mono ?_
    · obtain ⟨b2, off2, e, _, hc⟩ := h.cell hj
      injection e with e
      injection e with e1 e2 _
      subst e1 e2
      rw [hc, geti_eq hj]
      simp [List.getD, hj]
    · rintro e' w' ⟨v', rfl, hown, _, hB⟩
      rw [List.take_length] at hown
      exact ⟨_, rfl, own_F1 hown, hB⟩
end Go.Proofs.YtikdbjaimcciiaaGreat

namespace Go.Proofs.YtikdbjaimcciiaaGreat
open Go.RowKit
set_option linter.unusedVariables false
set_option linter.unusedSimpArgs false

theorem Out2.lo {B : Nat} {w w' : World} {F : Nat → Prop} {v : Value} {ls : List (List Int)} (h : Out2 B w v ls) (hc : Chg F w w') (hF : ∀ b, F b → b < B) : Out2 B w' v ls := by
  obtain ⟨vs, bk, h1, h2, h3⟩ := h
  refine ⟨vs, bk, own_chg h1 hc (fun g hg hf => by have := (h1.lt g hg).1; have := hF g hf; omega), fun k hk => ?_, h3⟩
  obtain ⟨rv, h4, h5⟩ := h2 k hk
  exact ⟨rv, h4, h5.keep fun hn => hc.block _ (h5.lt hn) (fun hf => by have := (h3 k hk hn).1; have := hF _ hf; omega)⟩

theorem opens_any {S S' : Nat → Prop} (u v : Value) (l : List (List Int)) (cuts : List Int) (W : World) (h : V2 S W u l) (hc : V1 S' W v cuts) (hl : cuts.length ≤ l.length) :
    Calls Tryz.prog 162 #[.agg #[u], v] W fun e' w' => e' = .returned (.bool (opensB l cuts)) ∧ Below W.heap.size W w' := by
  obtain ⟨a, c, rfl, hmx⟩ := h.form
  obtain ⟨a', c', rfl, hmx'⟩ := hc.form
  obtain ⟨r, hr⟩ : ∃ r, opensB l cuts = r := ⟨_, rfl⟩
  rw [hr]
  have Hr := Lib.hid hr; clear hr
  obtain ⟨W1, hW1, hB01, hz01, HZ01, hc01, hh01⟩ := box_facts W #[.slice a l.length c] 155
  have hV1 := h.below hB01
  have hC1 := hc.below hB01
  go_enter Tryz.func162, Tryz.ntmps162
  go_wp2_with fail
  rw [← hW1]
  have HW1 := Lib.hid hW1; clear hW1 hh01
  go_loop [5, 6, 9] (fun _ _ i => ∃ k : Nat, k ≤ cuts.length ∧ i = .int .i64 (k : Int) ∧ r = upAll (fun i => hasI (getl l i) (geti cuts i)) cuts.length k) (fun _ _ i => cuts.length - (intOf i).toNat)
  case atStart => exact ⟨0, Nat.zero_le _, rfl, Hr.out.symm⟩
  case round =>
    obtain ⟨k, hk, rfl, hrem⟩ := hrel
    have Hm := Lib.hid hrem; clear hrem
    by_cases hkk : k < cuts.length
    · obtain ⟨b1, off1, rfl, _, hc1⟩ := hC1.cell hkk
      obtain ⟨b2, off2, a2, c2, rfl, _, hc2, hr2⟩ := hV1.cell (k := k) (by omega)
      cases hg : hasI (getl l k) (geti cuts k)
      · have HG := Lib.hid hg; clear hg
        go_wp2_with (go_at_call 160; refine (slContains_b _ _ _ _ _ HG.out hr2).mono ?_; rintro e' w' ⟨rfl, rfl⟩)
        go_ret
        exact ⟨ret_bool (by rw [Hm.out, upAll_step hkk, HG.out]; rfl), hB01⟩
      · have HG := Lib.hid hg; clear hg
        go_wp2_with (go_at_call 160; refine (slContains_b _ _ _ _ _ HG.out hr2).mono ?_; rintro e' w' ⟨rfl, rfl⟩)
        go_round
        case rel => exact ⟨k + 1, by omega, by go_num, by rw [Hm.out, upAll_step hkk, HG.out]; rfl⟩
        case measure => simp [intOf]; omega
    · obtain rfl : k = cuts.length := by omega
      go_wp2_with fail
      go_ret
      exact ⟨ret_bool (by rw [Hm.out, upAll_end]), hB01⟩
theorem opens_b {S S' : Nat → Prop} (u v : Value) (l : List (List Int)) (cuts : List Int) (W : World) (r : Bool) (hr : opensB l cuts = r) (h : V2 S W u l) (hc : V1 S' W v cuts) (hl : cuts.length ≤ l.length) :
    Calls Tryz.prog 162 #[.agg #[u], v] W fun e' w' => e' = .returned (.bool r) ∧ Below W.heap.size W w' := by subst hr; exact opens_any u v l cuts W h hc hl

theorem hull_after {B LB : Nat} {wo w3 : World} {lv : Value} {n : Nat} {vs : List Value} {T : TypeId} (h1 : wo.ownsRow B 35 1 lv n vs) (hlv : wo.heap[LB]? = some (.cells #[lv] T (0, 0))) (hb : Below wo.heap.size wo w3) :
    w3.ownsRow B 35 1 lv n vs ∧ w3.heap[LB]? = some (.cells #[lv] T (0, 0)) ∧ w3.cell? ⟨LB, 0, none⟩ = some lv ∧ w3.frozen? ⟨LB, 0, none⟩ = false := by
  have h3 := heap_below hlv hb (lt_of_heap hlv)
  exact ⟨own_chg h1 (Chg.of_below (F := fun _ => False) hb) (fun _ _ h => h), h3, cell_of_block h3 0, frozen_of_block h3 0⟩
theorem grown_at {w w' : World} {LB : Nat} {lv : Value} {T : TypeId} {o : Option Nat} (h : w.heap[LB]? = some (.cells #[lv] T (0, 0))) (hg : w.grownBy w' o) (hn : o ≠ some LB) :
    w'.heap[LB]? = some (.cells #[lv] T (0, 0)) ∧ w'.cell? ⟨LB, 0, none⟩ = some lv ∧ w'.frozen? ⟨LB, 0, none⟩ = false := by
  have h3 : w'.heap[LB]? = some (.cells #[lv] T (0, 0)) := by rw [hg.block LB (lt_of_heap h) (fun e => hn e.symm)]; exact h
  exact ⟨h3, cell_of_block h3 0, frozen_of_block h3 0⟩
theorem grown_alloc_at {w w' : World} {LB : Nat} {lv : Value} {T : TypeId} {o : Option Nat} {ob : Obj} (h : w.heap[LB]? = some (.cells #[lv] T (0, 0))) (hg : (w.alloc ob).grownBy w' o) (hn : o ≠ some LB) :
    w'.heap[LB]? = some (.cells #[lv] T (0, 0)) ∧ w'.cell? ⟨LB, 0, none⟩ = some lv ∧ w'.frozen? ⟨LB, 0, none⟩ = false :=
  grown_at (by rw [Below.heap_alloc _ _ _ (lt_of_heap h)]; exact h) hg hn
theorem blk_or {v1 v : Value} {gg H : Nat} (h1 : v1.ownBlock = some gg) (h : v.ownBlock = some gg ∨ gg = H) : v1.ownBlock = v.ownBlock ∨ ∃ g, v1.ownBlock = some g ∧ H ≤ g := by
  rcases h with e | e
  · exact .inl (h1.trans e.symm)
  · exact .inr ⟨gg, h1, by omega⟩
theorem X1.alloc {w : World} {v : Value} {l : List Int} {b : Nat} (h : X1 w v l b) (o : Obj) : X1 (w.alloc o) v l b := h.keep fun hn => Below.heap_alloc _ _ _ (h.lt hn)

set_option maxRecDepth 100000 in
set_option maxHeartbeats 2000000 in
theorem hullOf_any {S : Nat → Prop} (m : Mk) (hm : m.ok = true) (v : Value) (keys : List (List Int)) (n : Nat) (W : World) (hn : (n : Int) = m.c) (h : V2 S W v keys) (hl : keys.length ≤ 300)
    (hlen : ∀ k, k < keys.length → (getl keys k).length = n) :
    Calls Tryz.prog 173 #[.agg #[.int .i64 m.c, .int .i64 m.d, .int .i64 m.s, .int .i64 m.e, .int .i64 m.l], v] W fun e' w' => ∃ v', e' = .returned (.agg #[v']) ∧ F2 W.heap.size w' v' (hullR keys n) ∧ Below W.heap.size W w' := by
  have hmk := Mk.ok_iff.1 hm
  obtain ⟨a, c, rfl, hmx⟩ := h.form
  have hn1 : (n : Int) ≤ m.c := by omega
  have hn2 : m.c ≤ n := by omega
  have hn6 : n ≤ 6 := by omega
  have Hlen := Lib.hid hlen; clear hlen hmk hm hn
  obtain ⟨W1, hW1, hB01, hz01, HZ01, hc01, hh01, hc02, hh02⟩ := two_boxes W #[.int .i64 m.c, .int .i64 m.d, .int .i64 m.s, .int .i64 m.e, .int .i64 m.l] #[.slice none 0 0] 25 155
  obtain ⟨W2, hW2, hB12, hz12, HZ12, hc12, hh12⟩ := box_facts W1 #[.slice none 0 0] 155
  have hB02 := hB01.trans (hB12.mono hB01.size)
  have hV2 := h.below hB02
  obtain ⟨i0, hi, hz0, hz1, hz2⟩ := info_parts inf_ints
  have Hh := Lib.hid (And.intro hh01 (And.intro hh02 hh12)); clear hh01 hh02 hh12 hc01 hc02 hc12
  go_enter Tryz.func173, Tryz.ntmps173
  go_wp2_with fail
  rw [← hW1, ← hW2, show W.heap.size + 1 + 1 = W1.heap.size from HZ01.out.symm]
  have HW1 := Lib.hid (And.intro hW1 hW2); clear hW1 hW2
  have h0 : Out2 W2.heap.size W2 (.slice none 0 0) [] := Out2.nil ⟨rfl, .inl ⟨rfl, rfl⟩⟩
  have H0 := Lib.hid h0; clear h0
  go_loopw [6, 7, 9, 13] (fun _ _ _ i wr => ∃ (x : Nat) (lv : Value), x ≤ n ∧ i = .int .i64 (x : Int) ∧ wr.heap[W1.heap.size]? = some (.cells #[lv] 155 (0, 0)) ∧ Out2 W2.heap.size wr lv (hullR keys x) ∧ Below W1.heap.size W1 wr ∧ W2.heap.size ≤ wr.heap.size) (fun _ _ _ i _ => n - (intOf i).toNat)
  case atStart => exact ⟨0, _, Nat.zero_le _, rfl, Hh.out.2.2, H0.out, hB12, Nat.le_refl _⟩
  case round =>
    obtain ⟨x, lv, hx, rfl, hlv, hO, hB, hzr⟩ := hrel
    obtain ⟨wo, rfl⟩ : ∃ wo, wo = wr := ⟨_, rfl⟩
    by_cases hxn : x < n
    · obtain ⟨B, hB0⟩ : ∃ B, B = wo.heap.size := ⟨_, rfl⟩
      have hown0 := own_lit0 wo B 2 1 (by omega)
      have HO := Lib.hid hO; clear hO
      have Hlv := Lib.hid hlv; clear hlv
      have hxd : decide ((x : Int) < m.c) = true := by simp; omega
      go_wp2_with fail
      go_loopw [7, 9, 19] (fun ro _ j wn => ∃ q : Nat, q ≤ keys.length ∧ j = .int .i64 (q : Int) ∧ wn.ownsRow B 2 1 ro q (((colOf keys x).take q).map (Value.int .i64)) ∧ Below B wo wn) (fun _ _ j _ => keys.length - (intOf j).toNat)
      case atStart => exact ⟨0, Nat.zero_le _, rfl, hown0, (Below.refl _ _).alloc (by omega) _⟩
      case round =>
        obtain ⟨q, hq, rfl, hown, hBn⟩ := hrel
        have hzn := hBn.size
        have hBW := hB.trans (hBn.mono (by omega))
        by_cases hqq : q < keys.length
        · obtain ⟨b1, off1, a1, c1, rfl, _, hc1, hr1⟩ := ((h.below hB01).below hBW).cell hqq
          have hxq : x < (getl keys q).length := by rw [Hlen.out q hqq]; exact hxn
          obtain ⟨b2, off2, rfl, _, hc2⟩ := hr1.cell hxq
          have hll := hr1.len
          unfold maxLen at hll
          have hst := colOf_take (i := x) hqq
          have Hst := Lib.hid hst; clear hst
          go_wp2_with (at_builtin; refine wp_app1 _ rfl _ _ 35 rfl B 2 (.int .i64 0) 8 Tryz.underlying35 inf_int rfl _ _ _ rfl hown (.int .i64 (geti (getl keys q) x)) _ rfl rfl (by omega) (by omega) (by omega) ?_; intro v1 w1 hown1 hgrow1 hblk1 hB1)
          go_roundw
          case rel => exact ⟨q + 1, by omega, by go_num, by rw [Hst.out, List.map_append]; exact hown1, hBn.trans (hB1.mono (Nat.le_refl _))⟩
          case measure => simp [intOf]; omega
        · obtain rfl : q = keys.length := by omega
          have hBwo : Below wo.heap.size wo wr := hBn.mono (by omega)
          have hcl : (colOf keys x).take keys.length = colOf keys x := List.take_of_length_le (by rw [colOf_len]; omega)
          rw [hcl] at hown
          have hcll : (colOf keys x).length = keys.length := colOf_len keys x
          obtain ⟨bx, hx1, hbx⟩ := own_F1 (l := colOf keys x) hown
          obtain ⟨ra, rc, rfl, hrc1, hrc2⟩ := own_form hown
          have hcl300 : (colOf keys x).length ≤ 300 := by omega
          have Hcll := Lib.hid (And.intro hcl hcll); clear hcl hcll hown
          go_wp2_with fail
          refine (slSort_any _ (colOf keys x) bx _ hx1 (by omega)).mono ?_
          rintro e' w2 ⟨rfl, hx2, hc2⟩
          have hnb : colOf keys x ≠ [] → B ≤ bx := hbx
          have hBs : Below wo.heap.size wo w2 := hBwo.trans (hc2.to_below (fun i hi => by have := hnb hi.1; omega) hBwo.size)
          have hlz : ((colOf keys x).mergeSort fun x y => decide (x ≤ y)).length = (colOf keys x).length := List.length_mergeSort _
          have hnz : ((colOf keys x).mergeSort fun x y => decide (x ≤ y)) ≠ [] ↔ colOf keys x ≠ [] := by rw [Ne, ← List.length_eq_zero_iff, hlz, List.length_eq_zero_iff]
          have hlz2 : ((colOf keys x).mergeSort fun x y => decide (x ≤ y)).length ≤ 1048576 := by omega
          have hdf : Go.Lib.compact ((colOf keys x).mergeSort fun x y => decide (x ≤ y)) = diffI (colOf keys x) := rfl
          have hdn : diffI (colOf keys x) ≠ [] → colOf keys x ≠ [] := fun hn e => hn (by rw [e]; simp [diffI, Go.Lib.compact, Go.Lib.compactUpTo])
          obtain ⟨vs, bk, g1, g2, g3⟩ := HO.out
          obtain ⟨oa, oc, rfl, ho1, ho2⟩ := own_form g1
          have hlx := Nat.le_of_eq (hullR_len keys x)
          obtain ⟨hown2, hh2, hcl2, hfl2⟩ := hull_after g1 Hlv.out hBs
          have G := Lib.hid (And.intro g1 (And.intro g2 g3)); clear g1 g2 g3
          have Hx2 := Lib.hid (hx2.keep (w' := w2.drew) (fun _ => rfl)); clear hx2 hx1
          have Hn := Lib.hid (And.intro hnb (And.intro hnz (And.intro hdf hdn))); clear hnb hnz hdf hdn hbx hc2
          have Hh2 := Lib.hid (And.intro hown2 hh2); clear hown2 hh2
          have Hlz := Lib.hid (And.intro hlz hlz2); clear hlz hlz2
          have hzB : W2.heap.size ≤ w2.heap.size := by have := hBs.size; omega
          go_wp2_with fail
          go_region_law (first | (go_simp; go_at_call 202; refine (slCompact_any _ _ bx _ Hx2.out Hlz.out.2).mono ?_; rintro e' w3 ⟨v3, rfl, hx3, hc3⟩; rw [Hn.out.2.2.1] at hx3; obtain ⟨a3, c3, rfl, hcc3, _⟩ := id hx3; have hb3 : Below wo.heap.size wo w3 := (hBs.drew).trans (hc3.to_below (fun i hi => by have := Hn.out.1 (Hn.out.2.1.1 hi.1); omega) hBs.size); obtain ⟨hown3, hh3, hcl3, hfl3⟩ := hull_after G.out.1 Hlv.out hb3; have hz3 := lt_of_heap hh3; have hcl3a : ∀ o, (w3.alloc o).cell? ⟨W1.heap.size, 0, none⟩ = some (.slice oa (hullR keys x).length oc) := (fun o => cell_keep hcl3 (Below.heap_alloc _ _ _ hz3)); (try dsimp only)) | (refine step_append_lies _ (by rfl) _ _ _ (by rfl) W2.heap.size 35 i0 _ 1 24 Tryz.underlying26 hi hz0 hz1 hz2 rfl (by omega) _ (hullR keys x).length _ (by rfl) (hown3.alloc _) ⟨_, 0, none⟩ 1 1 [.slice a3 (diffI (colOf keys x)).length c3] (by rfl) (by rfl) (World.news_of_block (heap_alloc_new _ _)) (by simp [Value.oneCell']) (by omega) (by unfold maxLen; omega) (by omega) (by have := hb3.size; simp; omega) _ rfl ?_; intro gg cap w4 hown4 hgrow4 hat4 hlt4; obtain ⟨hh4, hcl4, hfl4⟩ := grown_alloc_at hh3 hgrow4 (fun e => by have := (hown3.lt _ e).1; omega)))
          all_goals
            have hz4 := hgrow4.size
            simp only [World.size_alloc] at hz4
            have hb3a : Below wo.heap.size wo (w3.alloc (.cells #[.slice a3 (diffI (colOf keys x)).length c3] 35)) := hb3.alloc hb3.size _
            have hO4 := Out2.push G.out.1 G.out.2.1 G.out.2.2 (by omega) hb3a (hx3.alloc _) (fun hn => by have := Hn.out.1 (Hn.out.2.2.2 hn); omega) hown4 hgrow4 (blk_or rfl hat4)
            have hs4 := heap_setCell_self (off := 0) hh4 (.slice (some ⟨gg, 0, none⟩) ((hullR keys x).length + 1) cap)
            have hO5 := Out2.lo hO4 ((Chg.refl (fun b => b = W1.heap.size) _).setCell (.inl rfl) (p := ⟨W1.heap.size, 0, none⟩) (.slice (some ⟨gg, 0, none⟩) ((hullR keys x).length + 1) cap)) (fun b hb => by omega)
            have hb34 : Below W1.heap.size w3 w4 := ((Below.refl _ _).alloc (by have := hb3.size; have := hB.size; omega) _).grown hgrow4 (by have := hb3.size; have := hB.size; simp; omega) (fun k hk => by have := (hown3.lt _ hk).1; omega)
            have hB4 := ((hB.trans (hb3.mono (by omega))).trans hb34).setCell (p := ⟨W1.heap.size, 0, none⟩) (Nat.le_refl _) (.slice (some ⟨gg, 0, none⟩) ((hullR keys x).length + 1) cap)
            have H5 := Lib.hid (And.intro hs4 (And.intro hO5 hB4)); clear hs4 hO5 hB4 hO4
            have hzf : W2.heap.size ≤ w4.heap.size := by have := hb3.size; omega
            go_wp2_with fail
            go_roundw
            case rel => exact ⟨x + 1, _, by omega, by go_num, H5.out.1, H5.out.2.1, H5.out.2.2, by simp; omega⟩
            case measure => simp [intOf]; omega
    · obtain rfl : x = n := by omega
      have hfx := hO.f2
      have hlx := Nat.le_of_eq (hullR_len keys x)
      obtain ⟨oa, oc, rfl, ho1, ho2⟩ := hO.form
      have hcl := cell_of_block hlv 0
      have hzx := hB01.size
      have hres : wo.heap[W.heap.size + 1]? = some (.cells #[.slice none 0 0] 155 (0, 0)) := heap_below Hh.out.2.1 hB hz01
      have hrc := cell_of_block hres 0
      have hrf := frozen_of_block hres 0
      have hrs := cell_of_block (heap_setCell_self (off := 0) hres (.slice oa (hullR keys x).length oc)) 0
      have Hrs := Lib.hid hrs; clear hrs hres hlv
      have Hfx := Lib.hid hfx; clear hfx
      go_wp2_with fail
      have hrs := Hrs.out
      simp at hrs
      refine bodyPost_ret (v := .agg #[.slice oa (hullR keys x).length oc]) (by simp [results, Tryz.results173, go_sem, hrs]) rfl ⟨_, rfl, ?_, ?_⟩
      · exact (F2.set Hfx.out (by omega)).mono (by omega)
      · have hbb := hB01.trans (hB.mono (by omega))
        exact by (repeat (first | (with_reducible refine Below.setCell ?_ ?_ _) | (with_reducible refine Below.alloc ?_ ?_ _) | (with_reducible refine Below.drew ?_) | (with_reducible refine below_drewN ?_ _) | (with_reducible exact Below.refl _ _) | (with_reducible assumption) | (with_reducible refine Below.trans ?_ (Below.mono (by with_reducible assumption) ?_)) | go_size))
end Go.Proofs.YtikdbjaimcciiaaGreat
