/- The worst ghosts, as the program gives them. No conditions. -/
import Derived.Maps.AppendAt
import Derived.Test.YtmjplkbmhdkggaaGreatMWorst
import Derived.Test.YtmjplkbmhdkggaaGreatMWstL
import Derived.Test.YtmjplkbmhdkggaaGreatMDraw36
namespace Go.Proofs.YtmjplkbmhdkggaaGreat
open Go.RowKit Go.Shelf
set_option linter.unusedVariables false
set_option linter.unusedSimpArgs false
attribute [local go_sem] Oper.semAt_some
theorem wpIn_mk {F : Fence} {f : Nat} {P : Program} (w : World) {ops : Array Oper} {rest : List Oper} {o : Oper} {a : Act} {Q : Exit → Act → World → Prop}
  (hg : o.guard = none) (l c : Operand) (t : TypeId) (hop : o.op = Op.makeSlice t l c)
  (e : TypeId) (z : Value) (size bytes : Nat) (h1 : P.underlying t = some (.slice e)) (h2 : (P.info? e).map (fun i => (i.zero, i.size, i.bytes)) = some (some z, size, bytes))
  (n : Nat) (hl : a.eval l = .int .i64 (n : Int)) (hc : a.eval c = .int .i64 (n : Int)) (b2 : bytes * n ≤ 281474976710656) (b3 : n ≤ 9223372036854775807)
  (hK : ∀ w' cs, w'.heap[w.heap.size]? = some (.cells cs e (0, 0)) → cs.size = n * size → cs.toList = (madeCells z.cells (n * size)).toList → Below w.heap.size w w' → w.heap.size < w'.heap.size → wpListIn F f P ops Q rest (a.put o.dst (.slice (some ⟨w.heap.size, 0, none⟩) n n)) w') :
  wpListIn F f P ops Q (o :: rest) a w := by
 obtain ⟨i, hi, hz0, hz1, hz2⟩ := info_parts h2
 refine wpListIn_plain hg fun K hK' => ?_
 obtain ⟨w', hrun, hown, hgrow⟩ := run_make_full (P := P) w w.heap.size t e i z size h1 hi hz0 hz1 .i64 .i64 n (by rw [hz2]; exact b2) (by unfold maxLen; omega) (Nat.le_refl _)
 unfold Oper.wpIn
 refine ⟨?_, ?_⟩
 ·simp [Oper.about, hop]
 ·rw [Oper.semAt_plain F _ _ (by rw [hop]; intro c hc'; cases hc')]
  simp [execOp, hop, hl, hc, hrun, Result.andThen]
  refine hK' _ _ ?_
  obtain ⟨hlen, ⟨hv, _⟩ | ⟨g, cap, cur, hv, hg1, hh, _, _, hs, htake⟩⟩ := hown
  ·cases hv
  ·simp at hv
   obtain ⟨rfl, rfl⟩ := hv
   have ht : cur.toList = (madeCells z.cells (n * size)).toList := by
    rw [← htake, List.take_of_length_le]
    simp [hs]
   exact hK w' cur hh hs ht ((Below.refl _ _).grown hgrow (Nat.le_refl _) (fun k hk => by cases hk)) (lt_of_heap hh)
set_option maxRecDepth 100000 in
set_option maxHeartbeats 12000000 in
theorem WorstGhosts_any {S S' : Nat → Prop} (m : Mk) (u v : Value) (t cuts : List (List Int)) (most : Int) (W : World) (h : V2 S W u t) (hc : V2 S' W v cuts) :
  Calls Tryz.prog 12 #[.agg #[.int .i64 m.c, .int .i64 m.d, .int .i64 m.s, .int .i64 m.e, .int .i64 m.l, u], v, .int .i64 most] W fun e' w' => ∃ v', e' = .returned (.tuple #[v', .int .i64 (wghAns m t cuts most).2]) ∧ F2 W.heap.size w' v' (wghAns m t cuts most).1 ∧ Below W.heap.size W w' := by
 obtain ⟨a, c, rfl, hmx⟩ := h.form
 obtain ⟨a', c', rfl, hmx'⟩ := hc.form
 obtain ⟨WA, hWA⟩ : ∃ WA, WA = (W.alloc (.cells #[.int .i64 m.c, .int .i64 m.d, .int .i64 m.s, .int .i64 m.e, .int .i64 m.l, .slice a t.length c] 33)).alloc (.cells #[.int .i64 most] 2) := ⟨_, rfl⟩
 have hbA : Below W.heap.size W WA := by rw [hWA]; exact by (repeat (first | (with_reducible refine Below.setCell ?_ ?_ _) | (with_reducible refine Below.alloc ?_ ?_ _) | (with_reducible refine Below.drew ?_) | (with_reducible refine below_drewN ?_ _) | (with_reducible exact Below.refl _ _) | (with_reducible assumption) | (with_reducible refine Below.trans ?_ (Below.mono (by with_reducible assumption) ?_)) | go_size))
 have hzA : WA.heap.size = W.heap.size + 2 := by rw [hWA]; simp
 have hA0 : WA.heap[W.heap.size]? = some (.cells #[.int .i64 m.c, .int .i64 m.d, .int .i64 m.s, .int .i64 m.e, .int .i64 m.l, .slice a t.length c] 33 (0, 0)) := by rw [hWA]; simp only [heap_alloc_at, World.size_alloc]; simp
 have hA1 : WA.heap[W.heap.size + 1]? = some (.cells #[.int .i64 most] 2 (0, 0)) := by rw [hWA]; simp only [heap_alloc_at, World.size_alloc]; simp
 have HA := Lib.hid (And.intro hA0 hA1); clear hA0 hA1
 have hV1 := (h.below hbA).any
 have hC1 := (hc.below hbA).any
 have hcode := designCode_any m _ _ t cuts WA hV1 hC1
 by_cases hp : designC m t cuts = 0
 ·rw [hp] at hcode
  have hf := (design_fits hp).1
  have hmc := mc_nat hf.ok
  cases hi : inB most 0 300
  ·have hfin : wghAns m t cuts most = ([], 2) := by unfold wghAns; rw [if_neg (by rw [hp]; decide), if_pos hi]
   rw [hfin]
   have Hp := Lib.hid (And.intro hp (And.intro hf (And.intro hmc hfin))); clear hp hf hmc hfin
   have Hi := Lib.hid hi; clear hi
   go_enter Tryz.func12, Tryz.ntmps12
   go_wp2_with fail
   rw [← hWA]
   refine hcode.mono ?_
   rintro e' w2 ⟨rfl, hb2⟩
   have hbA2 := hbA.trans (hb2.mono hbA.size)
   have hx2 : ∀ o, w2.cell? ⟨W.heap.size, o, none⟩ = (#[.int .i64 m.c, .int .i64 m.d, .int .i64 m.s, .int .i64 m.e, .int .i64 m.l, .slice a t.length c] : Array Value)[o]? := fun o => cell_of_block (heap_below HA.out.1 hb2 (by omega)) o
   have hM2 : w2.cell? ⟨W.heap.size + 1, 0, none⟩ = some (.int .i64 most) := cell_of_block (heap_below HA.out.2 hb2 (by omega)) 0
   have hz2 : W.heap.size + 1 < w2.heap.size := by have := hb2.size; omega
   go_wp2_with (go_at_call 59; refine (within_b _ _ _ _ _ Hi.out).mono ?_; rintro e' w' ⟨rfl, rfl⟩)
   go_ret2
   exact ⟨_, rfl, F2.nil0, hbA2⟩
  ·have hm := inB_iff.1 hi
   have hfin : wghAns m t cuts most = ((frontL (locksTo m.c.toNat t cuts (getl t 0).length) (selL (locksTo m.c.toNat t cuts (getl t 0).length) cuts true (keysOf m)) (getl t 0).length (getl t 0).length).take most.toNat, 0) := by unfold wghAns; rw [if_neg (by rw [hp]; decide), if_neg (by rw [hi]; decide)]
   rw [hfin]
   obtain ⟨M, rfl⟩ : ∃ M : Nat, most = (M : Int) := ⟨most.toNat, by omega⟩
   rw [show ((M : Int)).toNat = M from rfl]
   have Hp := Lib.hid (And.intro hp (And.intro hf (And.intro hmc (And.intro hfin hm)))); clear hp hf hmc hfin hm
   have Hi := Lib.hid hi; clear hi
   refine (callsIn_wide (n := 6)).1 ?_
   refine callsIn_of_wp_marks Tryz.func12 rfl trivial ?_ rfl
   simp only [Tryz.ntmps12, List.size_toArray, List.length_cons, List.length_nil, Nat.reduceAdd, Nat.reduceSub, Array.replicate_succ, Array.replicate_zero, List.push_toArray, List.append_toArray, List.nil_append, List.cons_append]
   gi_wp2
   refine ⟨trivial, ?_⟩
   rw [← hWA]
   refine (callsIn_wide.2 hcode).mono ?_
   rintro e' w2 ⟨rfl, hb2⟩
   have hbA2 := hbA.trans (hb2.mono hbA.size)
   have hx2 : ∀ o, w2.cell? ⟨W.heap.size, o, none⟩ = (#[.int .i64 m.c, .int .i64 m.d, .int .i64 m.s, .int .i64 m.e, .int .i64 m.l, .slice a t.length c] : Array Value)[o]? := fun o => cell_of_block (heap_below HA.out.1 hb2 (by omega)) o
   have hM2 : w2.cell? ⟨W.heap.size + 1, 0, none⟩ = some (.int .i64 (M : Int)) := cell_of_block (heap_below HA.out.2 hb2 (by omega)) 0
   have hz2 : W.heap.size + 1 < w2.heap.size := by have := hb2.size; omega
   have hrows := Hp.out.2.1.rows
   obtain ⟨b0, off0, a0, c0, rfl, _, hcc0, hr0⟩ := (hV1.below hb2).cell (k := 0) (by omega)
   simp only [Nat.add_zero] at hcc0
   obtain ⟨D, hD⟩ : ∃ D, (getl t 0).length = D := ⟨_, rfl⟩
   have hdoors := Hp.out.2.1.doors
   rw [hD] at hcc0 hdoors
   have HD := Lib.hid hD; clear hD
   have ht0 : ¬ t.length ≤ 0 := by omega
   have ht1 : (0 : Int) < (t.length : Int) := by omega
   gi_wp2
   refine ⟨trivial, ?_⟩
   refine (callsIn_wide.2 (within_b _ _ _ _ _ Hi.out)).mono ?_
   rintro e' w' ⟨rfl, rfl⟩
   gi_wp2_with (gi_at_make; refine wpIn_mk _ rfl _ _ 80 rfl 24 (.slice none 0 0) 1 24 Tryz.underlying80 (by kernel_rfl) (D + 1) rfl rfl (by omega) (by omega) ?_; intro w3 cs0 hh0 hs0 ht0x hB0 hsz0; have hx3 : ∀ (ob : Obj) o, (w3.alloc ob).cell? ⟨W.heap.size, o, none⟩ = (#[.int .i64 m.c, .int .i64 m.d, .int .i64 m.s, .int .i64 m.e, .int .i64 m.l, .slice (some ⟨b0, off0, none⟩) t.length c] : Array Value)[o]? := (fun ob o => by rw [(bcell ((Below.refl w3.heap.size w3).alloc (Nat.le_refl _) ob)).1 _ _ (by omega), (bcell hB0).1 _ _ (by omega), hx2]))
   obtain ⟨w4, hw4⟩ : ∃ y, y = w3.alloc (.cells #[.slice (some ⟨w2.heap.size, 0, none⟩) (D + 1) (D + 1)] 80) := ⟨_, rfl⟩
   rw [← hw4]
   have hb34 : Below w3.heap.size w3 w4 := by rw [hw4]; exact (Below.refl _ _).alloc (Nat.le_refl _) _
   have hb24 := hB0.trans (hb34.mono hB0.size)
   have hTab4 := heap_below hh0 hb34 hsz0
   have hO4 : w4.cell? ⟨w3.heap.size, 0, none⟩ = some (.slice (some ⟨w2.heap.size, 0, none⟩) (D + 1) (D + 1)) := by rw [hw4]; exact cell_of_block (heap_alloc_self _ _) 0
   have hM4 := cell_keep hM2 (hb24.block _ (by show W.heap.size + 1 < w2.heap.size; omega))
   have hz24 := hb24.size
   have hI0 := WgAt.start (B := W.heap.size) (D := D) hTab4 ht0x (by omega)
   obtain ⟨F0, hF0⟩ : ∃ F0, F0 = FamF w2.heap.size D (fun _ => .slice none 0 0) (fun _ => []) (fun _ _ => 0) := ⟨_, rfl⟩
   have hFb : ∀ b, F0 b → b = w2.heap.size := fun b hb => by
    rw [hF0] at hb
    rcases hb with e | ⟨k, _, h⟩
    ·exact e
    ·exact absurd h outG_nil
   have hm := Hp.out.2.2.2.2
   have hvd := wg_ok m Hp.out.2.1.ok cuts (locksTo m.c.toNat t cuts (getl t 0).length) W.heap.size w3.heap.size (W.heap.size + 1) w2.heap.size D M w4 F0 hO4 hM4 ⟨fun hb => by have := hFb _ hb; omega, fun hb => by have := hFb _ hb; omega⟩ (by omega) (by omega) (by rw [locksTo_len, HD.out]; exact Nat.le_refl _)
   have hV4 : V2 (fun b => ¬ F0 b) w4 (.slice (some ⟨b0, off0, none⟩) t.length c) t := ((h.below hbA2).old.below hb24).mono (fun b h1 h2 hf => by have h1' : b < w2.heap.size := h1; have := hFb b hf; omega) (fun _ _ _ => rfl)
   have hC4 : V2 (fun b => ¬ F0 b) w4 (.slice a' cuts.length c') cuts := ((hc.below hbA2).old.below hb24).mono (fun b h1 h2 hf => by have h1' : b < w2.heap.size := h1; have := hFb b hf; omega) (fun _ _ _ => rfl)
   have hall := eachOutsider_any _ _ Hp.out.2.1 Hp.out.2.2.1 w4 hvd ⟨cs0, _, _, _, fun b => by rw [hF0], hI0⟩ hV4 hC4
   refine ⟨trivial, ?_⟩
   refine (callsIn_wide.2 hall).mono ?_
   rintro e' w5 ⟨F', ⟨cs, vals, vss, bks, hF', hI5⟩, hchg, hsub, rfl⟩
   obtain ⟨s, hs⟩ : ∃ s, (runL (outStep (wgStep M) cuts (locksTo m.c.toNat t cuts (getl t 0).length)) (fun _ => []) (keysOf m)).1 = s := ⟨_, rfl⟩
   rw [hs] at hF' hI5
   have hO5 := cell_keep hO4 (hchg.block _ (lt_of_cell hO4) (fun hb => by have := hFb _ hb; omega))
   have hM5 := cell_keep hM4 (hchg.block _ (lt_of_cell hM4) (fun hb => by have := hFb _ hb; omega))
   have hz5 := hchg.size
   have hbW5 : Below W.heap.size W w5 := (hbA2.trans (hb24.mono (by omega))).trans (hchg.to_below (fun i hi => by have := hFb i hi; omega) (by omega))
   have hO5lt : w3.heap.size < w5.heap.size := lt_of_cell hO5
   have hO5a : ∀ o1 o2, ((w5.alloc o1).alloc o2).cell? ⟨w3.heap.size, 0, none⟩ = some (.slice (some ⟨w2.heap.size, 0, none⟩) (D + 1) (D + 1)) := fun o1 o2 => cell_keep (cell_keep hO5 (Below.heap_alloc _ _ _ hO5lt)) (Below.heap_alloc _ _ _ (by simp; omega))
   gi_wp2
   refine ⟨trivial, ?_⟩
   obtain ⟨w6, hw6⟩ : ∃ y, y = (w5.alloc (.cells #[] 44)).alloc (.cells #[.slice (some ⟨w5.heap.size, 0, none⟩) 0 0] 24) := ⟨_, rfl⟩
   rw [← hw6]
   have hz6 : w6.heap.size = w5.heap.size + 2 := by rw [hw6]; simp
   have Hw6 := Lib.hid hw6; clear hw6
   have hO6 : w6.cell? ⟨w3.heap.size, 0, none⟩ = some (.slice (some ⟨w2.heap.size, 0, none⟩) (D + 1) (D + 1)) := by rw [Hw6.out]; exact hO5a _ _
   clear hO5a
   refine (back_in Fence.wide 5 trivial rfl _ _ _ _).mono ?_
   rintro e' w7 ⟨rfl, hw7⟩
   rw [hz6]
   have Hw7 := Lib.hid hw7; clear hw7
   gi_wp2
   have hw6 := Hw6.out
   have hw7 := Hw7.out
   have hb56 : Below w5.heap.size w5 w6 := by rw [hw6]; exact ((Below.refl _ _).alloc (Nat.le_refl _) _).alloc (by simp) _
   have hb67 : Below w6.heap.size w6 w7 := by rw [hw7]; exact (Below.refl _ _).alloc (Nat.le_refl _) _
   have hz7 : w7.heap.size = w5.heap.size + 3 := by rw [hw7, World.size_alloc, hz6]
   have hb57 : Below w5.heap.size w5 w7 := hb56.trans (hb67.mono (by omega))
   have hlow : ∀ b, FamF w2.heap.size D vals s bks b → b < w5.heap.size := hI5.lt
   have hT7 : WgAt W.heap.size w2.heap.size D s cs vals vss bks w7 := hI5.stay hb57.size (fun b hb => hb57.block b (hlow b hb))
   have hown7 : w7.ownsRow w5.heap.size 44 1 (.slice (some ⟨w5.heap.size, 0, none⟩) 0 0) 0 [] := by
    rw [hw7, hw6]
    exact ((own_lit0 w5 w5.heap.size 44 1 (Nat.le_refl _)).alloc _).alloc _
   have hbx7 : w7.heap[w5.heap.size + 1]? = some (.cells #[.slice (some ⟨w5.heap.size, 0, none⟩) 0 0] 24 (0, 0)) := by
    rw [hb67.block _ (by omega), hw6]
    simp only [heap_alloc_at, World.size_alloc]; simp
   have hTB := lt_of_heap hI5.tab
   have hBs7 : w7.cell? ⟨w5.heap.size + 2, 0, none⟩ = some (.slice (some ⟨w2.heap.size, 0, none⟩) (D + 1) (D + 1)) := by rw [hw7, ← hz6]; exact cell_of_block (heap_alloc_self _ _) 0
   have hv7 : ∀ j, j ≤ D → w7.cell? ⟨w2.heap.size, j, none⟩ = some (vals j) := fun j hj => by rw [cell_of_block hT7.tab]; exact hT7.cell j hj
   have hM7 := cell_keep hM5 (hb57.block _ (lt_of_cell hM5))
   have hR7 : WgR W.heap.size w5.heap.size w2.heap.size D (w5.heap.size + 1) s cs vals vss bks M [] (.slice (some ⟨w5.heap.size, 0, none⟩) 0 0) w7 :=
    ⟨hT7, hbx7, hown7, ⟨fun e => by simp [Value.ownBlock] at e, fun e => by simp [Value.ownBlock] at e; omega⟩, by omega, hlow, by omega⟩
   have hBW : Below W.heap.size W w7 := hbW5.trans (hb57.mono (by omega))
   have hDD : D ≤ 1000 := by omega
   refine wpIn_rangeFunc_ownG (n := 6) (w0 := w7) (gf := 126) (lb := #[.pointer (some ⟨w5.heap.size + 2, 0, none⟩)]) rfl (by omega) rfl trivial (enters_of Tryz.func126 (by kernel_rfl) rfl)
    (back_stops Fence.wide 5 trivial rfl (by omega) (w5.heap.size + 2) w2.heap.size D (D + 1) vals hDD w7 (by omega) (by omega) hBs7 hv7) (fun h k => Kept2.trans h k) (fun W' l o o' hl _ _ _ => ⟨World.putObj_heap_other (by omega), World.putObj_heap_other (by omega)⟩) (Below.refl _ _) (fun _ => rfl)
    (fun pre W' => (∃ ov, WgR W.heap.size w5.heap.size w2.heap.size D (w5.heap.size + 1) s cs vals vss bks M pre ov W') ∧ Below W.heap.size W W' ∧ W'.cell? ⟨W.heap.size + 1, 0, none⟩ = some (.int .i64 (M : Int)))
    (fun _ _ _ => False) ?own (fun _ _ _ _ _ h _ _ => h) ⟨⟨_, hR7⟩, hBW, hM7⟩ (fun x => { tmps := #[.agg #[.int .i64 m.c, .int .i64 m.d, .int .i64 m.s, .int .i64 m.e, .int .i64 m.l, .slice (some ⟨b0, off0, none⟩) t.length c], .slice a' cuts.length c', .int .i64 (M : Int), .pointer (some ⟨W.heap.size, 0, none⟩), undef,
     .pointer (some ⟨W.heap.size + 1, 0, none⟩), .slice none 0 0, .int .i64 0, .int .i64 0, .pointer (some ⟨w3.heap.size, 0, none⟩),
     .pointer (some ⟨w5.heap.size + 1, 0, none⟩), undef, vals x.1,
     .agg #[.int .i64 m.c, .int .i64 m.d, .int .i64 m.s, .int .i64 m.e, .int .i64 m.l, .slice (some ⟨b0, off0, none⟩) t.length c], .slice a' cuts.length c', .int .i64 0, .int .i64 0, .bool false, undef,
     .int .i64 (M : Int), .bool true, .bool false, .pointer (some ⟨W.heap.size, 5, none⟩),
     .slice (some ⟨b0, off0, none⟩) t.length c, .pointer (some ⟨b0, off0, none⟩),
     .slice a0 D c0, .int .i64 (D : Int), .int .i64 ((D : Int) + 1),
     .slice (some ⟨w2.heap.size, 0, none⟩) (D + 1) (D + 1),
     .agg #[.int .i64 m.c, .int .i64 m.d, .int .i64 m.s, .int .i64 m.e, .int .i64 m.l, .slice (some ⟨b0, off0, none⟩) t.length c], .slice a' cuts.length c',
     .func (.func 61) #[] #[.pointer (some ⟨w3.heap.size, 0, none⟩), .pointer (some ⟨W.heap.size + 1, 0, none⟩)],
     undef, .slice (some ⟨w5.heap.size, 0, none⟩) 0 0,
     .slice (some ⟨w2.heap.size, 0, none⟩) (D + 1) (D + 1),
     .func (.func 126) #[] #[.pointer (some ⟨w5.heap.size + 2, 0, none⟩)], .int .i64 (x.1 : Int),
     vals x.1, undef, undef, undef, undef, undef, undef, undef, undef, undef, undef, undef, undef], defers := [] }) ?assign ?body ?done ?stop
   case own =>
    intro pre A B row ⟨⟨ov, h1⟩, h2, h3⟩ hg hr
    exact ⟨⟨ov, h1.turn hg fun r e => (hr r e).2⟩, h2.grown hg h2.size (fun k e => by have := (hr k e).1; omega), cell_kept h3 hg fun r e => (hr r e).2⟩
   case assign =>
    intro l x W' K hK
    gi_wp2
    exact hK
   case body =>
    rintro l pre ⟨k, hk⟩ W' ⟨⟨ov, hR⟩, hB, hM⟩ hlt
    have hk : k ≤ D := hk
    obtain ⟨i0, gi, gz0, gz1, gz2⟩ := info_parts inf_ints
    obtain ⟨wd, hwd⟩ : ∃ wd, wd = W'.drew := ⟨_, rfl⟩
    have hR := hR.keep (w1 := wd) (by rw [hwd]; exact Nat.le_refl _) (by rw [hwd]; exact fun _ _ _ _ _ => rfl)
    have hB : Below W.heap.size W wd := by rw [hwd]; exact hB.drew
    have hM : wd.cell? ⟨W.heap.size + 1, 0, none⟩ = some (.int .i64 (M : Int)) := by rw [hwd]; exact cell_keep hM rfl
    have hz5W : W.heap.size + 1 < w5.heap.size := lt_of_cell hM5
    have hz5d : w5.heap.size ≤ wd.heap.size := by have := hR.lt2; omega
    have hE := hR.tabl.each k hk
    have hNM := gvs_le vss M pre
    have hlen : (vss k).length = (s k).length := by have := hE.1.1; simpa using this
    have hstep := fun (n : Nat) (v1 : Value) (w1 : World) => hR.step (v1 := v1) (w1 := w1) (n := n) ⟨k, hk⟩
    obtain ⟨oa, oc, rfl, ho1, ho2⟩ := own_form hR.own
    obtain ⟨N, hN⟩ : ∃ N, (gvs vss M pre).length = N := ⟨_, rfl⟩
    have hown := hR.own
    rw [hN] at hNM ho1 hown
    simp only [hN] at hstep
    have hcb : wd.cell? ⟨w5.heap.size + 1, 0, none⟩ = some (.slice oa N oc) := by rw [cell_of_block hR.box, hN]; rfl
    have hne1 := hR.ne.1
    have hbxd := hR.box
    rw [hN] at hne1 hbxd
    have hfb : wd.frozen? ⟨w5.heap.size + 1, 0, none⟩ = false := frozen_of_block hR.box 0
    obtain ⟨q, hq⟩ : ∃ q, (s k).length = q := ⟨_, rfl⟩
    have hw : IntKind.i64.wrap ((M : Int) - (N : Int)) = (M : Int) - (N : Int) := IntWalk.i64_in _ (by omega)
    obtain ⟨n, hn⟩ : ∃ n, n = min q (M - N) := ⟨_, rfl⟩
    have hq300 : q ≤ maxLen := by
     obtain ⟨_, _, _, h1, h2⟩ := own_form hE.1
     omega
    have hmin : min (q : Int) ((M : Int) - (N : Int)) = (n : Int) := by omega
    have hnq : n ≤ q := by omega
    have hNn : N + n ≤ 300 := by have := hm; omega
    have htk : ((vss k).take (M - N)).length = n := by rw [List.length_take, hlen, hq, hn]; omega
    have hva := hE.1.2
    rw [hq] at hva
    have HR := Lib.hid (And.intro hR (And.intro hB (And.intro hE (And.intro hown (And.intro hstep (And.intro htk (And.intro hlen (And.intro hq (And.intro hN hn))))))))); clear hR hB hE hown hstep htk hlen hN hq hn
    (try clear h); (try clear hmx); (try clear hmx'); (try clear hc); (try clear hbA); (try clear hzA); (try clear hC1); (try clear hV1); (try clear HA); (try clear Hp); (try clear Hi); (try clear hcode); (try clear hb2); (try clear hbA2); (try clear hx2); (try clear hM2); (try clear hz2); (try clear hrows); (try clear hcc0); (try clear hr0); (try clear hdoors); (try clear HD); (try clear ht0); (try clear ht1); (try clear hh0); (try clear hs0); (try clear ht0x); (try clear hsz0); (try clear hx3); (try clear hTab4); (try clear hO4); (try clear hM4); (try clear hI0); (try clear hFb); (try clear hm); (try clear hvd); (try clear hV4); (try clear hC4); (try clear hall); (try clear hI5); (try clear hsub); (try clear hO5); (try clear hM5); (try clear hz5); (try clear hO5lt); (try clear hz6); (try clear Hw6); (try clear hO6); (try clear Hw7); (try clear hw6); (try clear hw7); (try clear hb56); (try clear hb67); (try clear hz7); (try clear hb57); (try clear hlow); (try clear hT7); (try clear hown7); (try clear hbx7); (try clear hTB); (try clear hBs7); (try clear hv7); (try clear hM7); (try clear hR7); (try clear hBW); (try clear hDD); (try clear hlt); (try clear hbW5); (try clear hchg); (try clear hB0); (try clear hz24); (try clear hb24); (try clear hb34); (try clear hw4); (try clear hF0); (try clear hF'); (try clear hs); (try clear hmx); (try clear hq300)
    dsimp only
    have hcbd := hcb
    have hMd := hM
    clear hcb hM
    have Hwd := Lib.hid hwd; clear hwd
    rcases hva with ⟨hva, hq0⟩ | ⟨g, cap, cur, hva, hg1, hh, hc1, hc2, hcs, hct⟩
    ·rw [hva]
     subst hq0
     obtain rfl : n = 0 := by omega
     have hmin0 : min (0 : Int) ((M : Int) - (N : Int)) = 0 := by omega
     have hS := HR.out.2.2.2.2.1 0 (.slice oa N oc) wd HR.out.2.2.2.2.2.1.symm (by rw [List.length_eq_zero_iff.1 HR.out.2.2.2.2.2.1, List.append_nil]; exact HR.out.2.2.2.1) ⟨rfl, rfl, rfl, Nat.le_refl _, fun _ _ _ => rfl⟩ (.inl rfl)
     have HS := Lib.hid hS; clear hS hmin hva hnq
     gi_wp2
     refine wpIn_region_round (S := fun w' => w'.cell? ⟨W.heap.size + 1, 0, none⟩ = some (.int .i64 (M : Int))) (by kernel_rfl) (by rintro ⟨_, _, h⟩; exact h) (noDef_of (by kernel_rfl)) (by rw [← Hwd.out]; exact hMd) (fun hHeld => ?_)
     rw [← Hwd.out] at hHeld ⊢
     (refine wpAnyH_take (i := 1) (v := .slice none 0 0) rfl (by kernel_rfl) (by kernel_rfl) (by kernel_rfl) (fun _ _ _ h => h) (Or.inl ⟨by kernel_rfl, fun w hSw => by (try dsimp only at hSw); go_split_ands; go_simp⟩) (by assumption) ?_; simp only [Act.put, List.setIfInBounds_toArray, List.set_cons_zero, List.set_cons_succ])
     (refine wpAnyH_take (i := 2) (v := .slice none 0 0) rfl (by kernel_rfl) (by kernel_rfl) (by kernel_rfl) (fun _ _ _ h => h) (Or.inl ⟨by kernel_rfl, fun w hSw => by (try dsimp only at hSw); go_split_ands; go_simp⟩) (by assumption) ?_; simp only [Act.put, List.setIfInBounds_toArray, List.set_cons_zero, List.set_cons_succ])
     (refine wpAnyH_take (i := 3) (v := .int .i64 (0 : Int)) rfl (by kernel_rfl) (by kernel_rfl) (by kernel_rfl) (fun _ _ _ h => h) (Or.inl ⟨by kernel_rfl, fun w hSw => by (try dsimp only at hSw); go_split_ands; go_simp⟩) (by assumption) ?_; simp only [Act.put, List.setIfInBounds_toArray, List.set_cons_zero, List.set_cons_succ])
     (refine wpAnyH_take (i := 4) (v := .int .i64 (M : Int)) rfl (by kernel_rfl) (by kernel_rfl) (by kernel_rfl) (fun _ _ _ h => h) (Or.inl ⟨by kernel_rfl, fun w hSw => by (try dsimp only at hSw); go_split_ands; go_simp⟩) (by assumption) ?_; simp only [Act.put, List.setIfInBounds_toArray, List.set_cons_zero, List.set_cons_succ])
     refine wpAnyH_ready (rs := [0, 5]) (by kernel_rfl) (by simp) (AllReadyH.cons rfl (fun K hK => ?_) (AllReadyH.cons rfl (fun K hK => ?_) AllReadyH.nil))
     ·go_simp
      (refine hK.out _ _ hMd (fun hHeld => ?_); clear hK K; (try simp only [Act.put, List.setIfInBounds_toArray, List.set_cons_zero, List.set_cons_succ]))
      (refine wpAnyH_ready (rs := [5]) (by kernel_rfl) (by simp) (AllReadyH.cons rfl (fun K hK => ?_) AllReadyH.nil); go_simp)
      (refine hK.out _ _ hMd (fun hHeld => ?_); clear hK K; (try simp only [Act.put, List.setIfInBounds_toArray, List.set_cons_zero, List.set_cons_succ]))
      (refine wpAnyH_take (i := 6) (v := .int .i64 (N : Int)) rfl (by kernel_rfl) (by kernel_rfl) (by kernel_rfl) (fun _ _ _ h => h) (Or.inl ⟨by kernel_rfl, fun w hSw => by (try dsimp only at hSw); go_split_ands; go_simp⟩) (by assumption) ?_; simp only [Act.put, List.setIfInBounds_toArray, List.set_cons_zero, List.set_cons_succ])
      (refine wpAnyH_take (i := 7) (v := .int .i64 ((M : Int) - (N : Int))) rfl (by kernel_rfl) (by kernel_rfl) (by kernel_rfl) (fun _ _ _ h => h) (Or.inl ⟨by kernel_rfl, fun w hSw => by (try dsimp only at hSw); go_split_ands; go_simp⟩) (by assumption) ?_; simp only [Act.put, List.setIfInBounds_toArray, List.set_cons_zero, List.set_cons_succ])
      (refine wpAnyH_take (i := 8) (v := .int .i64 (0 : Int)) rfl (by kernel_rfl) (by kernel_rfl) (by kernel_rfl) (fun _ _ _ h => h) (Or.inl ⟨by kernel_rfl, fun w hSw => by (try dsimp only at hSw); go_split_ands; go_simp⟩) (by assumption) ?_; simp only [Act.put, List.setIfInBounds_toArray, List.set_cons_zero, List.set_cons_succ])
      (refine wpAnyH_take (i := 9) (v := .slice none 0 0) rfl (by kernel_rfl) (by kernel_rfl) (by kernel_rfl) (fun _ _ _ h => h) (Or.inl ⟨by kernel_rfl, fun w hSw => by (try dsimp only at hSw); go_split_ands; go_simp⟩) (by assumption) ?_; simp only [Act.put, List.setIfInBounds_toArray, List.set_cons_zero, List.set_cons_succ])
      refine wpAnyH_ready (rs := [10]) (by kernel_rfl) (by simp) (AllReadyH.cons rfl (fun K hK => ?_) AllReadyH.nil)
      refine step_append_none (by rfl) _ _ _ (by rfl) w5.heap.size 44 i0 1 Tryz.underlying24 gi _ N _ (by rfl) HR.out.2.2.2.1 _ _ (by rfl) ?_
      (refine hK.out _ _ hMd (fun hHeld => ?_); clear hK K; (try simp only [Act.put, List.setIfInBounds_toArray, List.set_cons_zero, List.set_cons_succ]))
      (refine wpAnyH_ready (rs := [11]) (by kernel_rfl) (by simp) (AllReadyH.cons rfl (fun K hK => ?_) AllReadyH.nil); go_simp)
      (refine hK.out _ _ (cell_keep hMd (HS.out.2.2.2.2 (W.heap.size + 1) hz5W (lt_of_cell hMd))) (fun hHeld => ?_); clear hK K; (try simp only [Act.put, List.setIfInBounds_toArray, List.set_cons_zero, List.set_cons_succ]))
      refine wpAnyH_done (by kernel_rfl) ?_ _
      exact ⟨(fin_drew Hwd.out HS.out.2.1 HS.out.2.2.1).1 _, (fin_drew Hwd.out HS.out.2.1 HS.out.2.2.1).2, ⟨_, HS.out.1⟩, HS.out.2.2.2.1 _ _ (by omega) (HR.out.2.1.size) HR.out.2.1, cell_keep hMd (HS.out.2.2.2.2 (W.heap.size + 1) hz5W (lt_of_cell hMd))⟩
     ·go_simp
      (refine hK.out _ _ hMd (fun hHeld => ?_); clear hK K; (try simp only [Act.put, List.setIfInBounds_toArray, List.set_cons_zero, List.set_cons_succ]))
      (refine wpAnyH_take (i := 6) (v := .int .i64 (N : Int)) rfl (by kernel_rfl) (by kernel_rfl) (by kernel_rfl) (fun _ _ _ h => h) (Or.inl ⟨by kernel_rfl, fun w hSw => by (try dsimp only at hSw); go_split_ands; go_simp⟩) (by assumption) ?_; simp only [Act.put, List.setIfInBounds_toArray, List.set_cons_zero, List.set_cons_succ])
      (refine wpAnyH_take (i := 7) (v := .int .i64 ((M : Int) - (N : Int))) rfl (by kernel_rfl) (by kernel_rfl) (by kernel_rfl) (fun _ _ _ h => h) (Or.inl ⟨by kernel_rfl, fun w hSw => by (try dsimp only at hSw); go_split_ands; go_simp⟩) (by assumption) ?_; simp only [Act.put, List.setIfInBounds_toArray, List.set_cons_zero, List.set_cons_succ])
      (refine wpAnyH_take (i := 8) (v := .int .i64 (0 : Int)) rfl (by kernel_rfl) (by kernel_rfl) (by kernel_rfl) (fun _ _ _ h => h) (Or.inl ⟨by kernel_rfl, fun w hSw => by (try dsimp only at hSw); go_split_ands; go_simp⟩) (by assumption) ?_; simp only [Act.put, List.setIfInBounds_toArray, List.set_cons_zero, List.set_cons_succ])
      (refine wpAnyH_take (i := 9) (v := .slice none 0 0) rfl (by kernel_rfl) (by kernel_rfl) (by kernel_rfl) (fun _ _ _ h => h) (Or.inl ⟨by kernel_rfl, fun w hSw => by (try dsimp only at hSw); go_split_ands; go_simp⟩) (by assumption) ?_; simp only [Act.put, List.setIfInBounds_toArray, List.set_cons_zero, List.set_cons_succ])
      (refine wpAnyH_ready (rs := [0]) (by kernel_rfl) (by simp) (AllReadyH.cons rfl (fun K hK => ?_) AllReadyH.nil); go_simp)
      (refine hK.out _ _ hMd (fun hHeld => ?_); clear hK K; (try simp only [Act.put, List.setIfInBounds_toArray, List.set_cons_zero, List.set_cons_succ]))
      refine wpAnyH_ready (rs := [10]) (by kernel_rfl) (by simp) (AllReadyH.cons rfl (fun K hK => ?_) AllReadyH.nil)
      refine step_append_none (by rfl) _ _ _ (by rfl) w5.heap.size 44 i0 1 Tryz.underlying24 gi _ N _ (by rfl) HR.out.2.2.2.1 _ _ (by rfl) ?_
      (refine hK.out _ _ hMd (fun hHeld => ?_); clear hK K; (try simp only [Act.put, List.setIfInBounds_toArray, List.set_cons_zero, List.set_cons_succ]))
      (refine wpAnyH_ready (rs := [11]) (by kernel_rfl) (by simp) (AllReadyH.cons rfl (fun K hK => ?_) AllReadyH.nil); go_simp)
      (refine hK.out _ _ (cell_keep hMd (HS.out.2.2.2.2 (W.heap.size + 1) hz5W (lt_of_cell hMd))) (fun hHeld => ?_); clear hK K; (try simp only [Act.put, List.setIfInBounds_toArray, List.set_cons_zero, List.set_cons_succ]))
      refine wpAnyH_done (by kernel_rfl) ?_ _
      exact ⟨(fin_drew Hwd.out HS.out.2.1 HS.out.2.2.1).1 _, (fin_drew Hwd.out HS.out.2.1 HS.out.2.2.1).2, ⟨_, HS.out.1⟩, HS.out.2.2.2.1 _ _ (by omega) (HR.out.2.1.size) HR.out.2.1, cell_keep hMd (HS.out.2.2.2.2 (W.heap.size + 1) hz5W (lt_of_cell hMd))⟩
    ·rw [hva]
     have hl1 : ((vss k).take (M - N)).length = n * 1 := by rw [Nat.mul_one]; exact HR.out.2.2.2.2.2.1
     have hl2 := news_cur (n := M - N) hh hct
     have hl3 : ∀ u ∈ (vss k).take (M - N), u.oneCell' = true := fun u hu => HR.out.2.2.1.ones u (List.mem_of_mem_take hu)
     have HL := Lib.hid (And.intro hl1 (And.intro hl2 hl3)); clear hl1 hl2 hl3 hh hct hcs hva
     have hnc : n ≤ cap := by omega
     by_cases hnp : 0 < n
     ·gi_wp2
      refine wpIn_region_round (S := fun w' => w'.cell? ⟨W.heap.size + 1, 0, none⟩ = some (.int .i64 (M : Int))) (by kernel_rfl) (by rintro ⟨_, _, h⟩; exact h) (noDef_of (by kernel_rfl)) (by rw [← Hwd.out]; exact hMd) (fun hHeld => ?_)
      rw [← Hwd.out] at hHeld ⊢
      (refine wpAnyH_take (i := 1) (v := .slice (some ⟨g, 0, none⟩) q cap) rfl (by kernel_rfl) (by kernel_rfl) (by kernel_rfl) (fun _ _ _ h => h) (Or.inl ⟨by kernel_rfl, fun w hSw => by (try dsimp only at hSw); go_split_ands; go_simp⟩) (by assumption) ?_; simp only [Act.put, List.setIfInBounds_toArray, List.set_cons_zero, List.set_cons_succ])
      (refine wpAnyH_take (i := 2) (v := .slice (some ⟨g, 0, none⟩) q cap) rfl (by kernel_rfl) (by kernel_rfl) (by kernel_rfl) (fun _ _ _ h => h) (Or.inl ⟨by kernel_rfl, fun w hSw => by (try dsimp only at hSw); go_split_ands; go_simp⟩) (by assumption) ?_; simp only [Act.put, List.setIfInBounds_toArray, List.set_cons_zero, List.set_cons_succ])
      (refine wpAnyH_take (i := 3) (v := .int .i64 (q : Int)) rfl (by kernel_rfl) (by kernel_rfl) (by kernel_rfl) (fun _ _ _ h => h) (Or.inl ⟨by kernel_rfl, fun w hSw => by (try dsimp only at hSw); go_split_ands; go_simp⟩) (by assumption) ?_; simp only [Act.put, List.setIfInBounds_toArray, List.set_cons_zero, List.set_cons_succ])
      (refine wpAnyH_take (i := 4) (v := .int .i64 (M : Int)) rfl (by kernel_rfl) (by kernel_rfl) (by kernel_rfl) (fun _ _ _ h => h) (Or.inl ⟨by kernel_rfl, fun w hSw => by (try dsimp only at hSw); go_split_ands; go_simp⟩) (by assumption) ?_; simp only [Act.put, List.setIfInBounds_toArray, List.set_cons_zero, List.set_cons_succ])
      refine wpAnyH_ready (rs := [0, 5]) (by kernel_rfl) (by simp) (AllReadyH.cons rfl (fun K hK => ?_) (AllReadyH.cons rfl (fun K hK => ?_) AllReadyH.nil))
      ·go_simp
       (refine hK.out _ _ hMd (fun hHeld => ?_); clear hK K; (try simp only [Act.put, List.setIfInBounds_toArray, List.set_cons_zero, List.set_cons_succ]))
       (refine wpAnyH_ready (rs := [5]) (by kernel_rfl) (by simp) (AllReadyH.cons rfl (fun K hK => ?_) AllReadyH.nil); go_simp)
       (refine hK.out _ _ hMd (fun hHeld => ?_); clear hK K; (try simp only [Act.put, List.setIfInBounds_toArray, List.set_cons_zero, List.set_cons_succ]))
       (refine wpAnyH_take (i := 6) (v := .int .i64 (N : Int)) rfl (by kernel_rfl) (by kernel_rfl) (by kernel_rfl) (fun _ _ _ h => h) (Or.inl ⟨by kernel_rfl, fun w hSw => by (try dsimp only at hSw); go_split_ands; go_simp⟩) (by assumption) ?_; simp only [Act.put, List.setIfInBounds_toArray, List.set_cons_zero, List.set_cons_succ])
       (refine wpAnyH_take (i := 7) (v := .int .i64 ((M : Int) - (N : Int))) rfl (by kernel_rfl) (by kernel_rfl) (by kernel_rfl) (fun _ _ _ h => h) (Or.inl ⟨by kernel_rfl, fun w hSw => by (try dsimp only at hSw); go_split_ands; go_simp⟩) (by assumption) ?_; simp only [Act.put, List.setIfInBounds_toArray, List.set_cons_zero, List.set_cons_succ])
       (refine wpAnyH_take (i := 8) (v := .int .i64 (n : Int)) rfl (by kernel_rfl) (by kernel_rfl) (by kernel_rfl) (fun _ _ _ h => h) (Or.inl ⟨by kernel_rfl, fun w hSw => by (try dsimp only at hSw); go_split_ands; go_simp⟩) (by assumption) ?_; simp only [Act.put, List.setIfInBounds_toArray, List.set_cons_zero, List.set_cons_succ])
       (refine wpAnyH_take (i := 9) (v := .slice (some ⟨g, 0, none⟩) n cap) rfl (by kernel_rfl) (by kernel_rfl) (by kernel_rfl) (fun _ _ _ h => h) (Or.inl ⟨by kernel_rfl, fun w hSw => by (try dsimp only at hSw); go_split_ands; go_simp⟩) (by assumption) ?_; simp only [Act.put, List.setIfInBounds_toArray, List.set_cons_zero, List.set_cons_succ])
       refine wpAnyH_ready (rs := [10]) (by kernel_rfl) (by simp) (AllReadyH.cons rfl (fun K hK => ?_) AllReadyH.nil)
       refine step_append_lies _ (by rfl) _ _ _ (by rfl) w5.heap.size 44 i0 _ 1 24 Tryz.underlying24 gi gz0 gz1 gz2 rfl (by omega) _ N _ (by rfl) HR.out.2.2.2.1 ⟨g, 0, none⟩ n cap ((vss k).take (M - N)) (by rfl) HL.out.1 HL.out.2.1 HL.out.2.2 hnp (by unfold maxLen; omega) (by omega) hz5d _ rfl ?_
       intro gg cap8 w8 hown8 hgrow8 hat8 hlt8
       have hS := HR.out.2.2.2.2.1 n (.slice (some ⟨gg, 0, none⟩) (N + n) cap8) w8 HR.out.2.2.2.2.2.1.symm hown8 hgrow8 (blk_or rfl hat8)
       have hbx8 : w8.heap[w5.heap.size + 1]? = some (.cells #[.slice oa N oc] 24 (0, 0)) := (hgrow8.block _ (lt_of_cell hcbd) (fun e => hne1 e.symm)).trans hbxd
       have hcb8 : w8.cell? ⟨w5.heap.size + 1, 0, none⟩ = some (.slice oa N oc) := cell_of_block hbx8 0
       have hfb8 := frozen_of_block hbx8 0
       have hM8 : w8.cell? ⟨W.heap.size + 1, 0, none⟩ = some (.int .i64 (M : Int)) := cell_keep hMd (hgrow8.block _ (lt_of_cell hMd) (fun e => by have := (HR.out.2.2.2.1.lt _ e.symm).1; omega))
       have HS := Lib.hid hS; clear hS hown8 hgrow8 hat8 hlt8 hbx8
       (refine hK.out _ _ hM8 (fun hHeld => ?_); clear hK K; (try simp only [Act.put, List.setIfInBounds_toArray, List.set_cons_zero, List.set_cons_succ]))
       (refine wpAnyH_ready (rs := [11]) (by kernel_rfl) (by simp) (AllReadyH.cons rfl (fun K hK => ?_) AllReadyH.nil); go_simp)
       (refine hK.out _ _ (cell_keep hMd (HS.out.2.2.2.2 (W.heap.size + 1) hz5W (lt_of_cell hMd))) (fun hHeld => ?_); clear hK K; (try simp only [Act.put, List.setIfInBounds_toArray, List.set_cons_zero, List.set_cons_succ]))
       refine wpAnyH_done (by kernel_rfl) ?_ _
       exact ⟨(fin_drew Hwd.out HS.out.2.1 HS.out.2.2.1).1 _, (fin_drew Hwd.out HS.out.2.1 HS.out.2.2.1).2, ⟨_, HS.out.1⟩, HS.out.2.2.2.1 _ _ (by omega) (HR.out.2.1.size) HR.out.2.1, cell_keep hMd (HS.out.2.2.2.2 (W.heap.size + 1) hz5W (lt_of_cell hMd))⟩
      ·go_simp
       (refine hK.out _ _ hMd (fun hHeld => ?_); clear hK K; (try simp only [Act.put, List.setIfInBounds_toArray, List.set_cons_zero, List.set_cons_succ]))
       (refine wpAnyH_take (i := 6) (v := .int .i64 (N : Int)) rfl (by kernel_rfl) (by kernel_rfl) (by kernel_rfl) (fun _ _ _ h => h) (Or.inl ⟨by kernel_rfl, fun w hSw => by (try dsimp only at hSw); go_split_ands; go_simp⟩) (by assumption) ?_; simp only [Act.put, List.setIfInBounds_toArray, List.set_cons_zero, List.set_cons_succ])
       (refine wpAnyH_take (i := 7) (v := .int .i64 ((M : Int) - (N : Int))) rfl (by kernel_rfl) (by kernel_rfl) (by kernel_rfl) (fun _ _ _ h => h) (Or.inl ⟨by kernel_rfl, fun w hSw => by (try dsimp only at hSw); go_split_ands; go_simp⟩) (by assumption) ?_; simp only [Act.put, List.setIfInBounds_toArray, List.set_cons_zero, List.set_cons_succ])
       (refine wpAnyH_take (i := 8) (v := .int .i64 (n : Int)) rfl (by kernel_rfl) (by kernel_rfl) (by kernel_rfl) (fun _ _ _ h => h) (Or.inl ⟨by kernel_rfl, fun w hSw => by (try dsimp only at hSw); go_split_ands; go_simp⟩) (by assumption) ?_; simp only [Act.put, List.setIfInBounds_toArray, List.set_cons_zero, List.set_cons_succ])
       (refine wpAnyH_take (i := 9) (v := .slice (some ⟨g, 0, none⟩) n cap) rfl (by kernel_rfl) (by kernel_rfl) (by kernel_rfl) (fun _ _ _ h => h) (Or.inl ⟨by kernel_rfl, fun w hSw => by (try dsimp only at hSw); go_split_ands; go_simp⟩) (by assumption) ?_; simp only [Act.put, List.setIfInBounds_toArray, List.set_cons_zero, List.set_cons_succ])
       (refine wpAnyH_ready (rs := [0]) (by kernel_rfl) (by simp) (AllReadyH.cons rfl (fun K hK => ?_) AllReadyH.nil); go_simp)
       (refine hK.out _ _ hMd (fun hHeld => ?_); clear hK K; (try simp only [Act.put, List.setIfInBounds_toArray, List.set_cons_zero, List.set_cons_succ]))
       refine wpAnyH_ready (rs := [10]) (by kernel_rfl) (by simp) (AllReadyH.cons rfl (fun K hK => ?_) AllReadyH.nil)
       refine step_append_lies _ (by rfl) _ _ _ (by rfl) w5.heap.size 44 i0 _ 1 24 Tryz.underlying24 gi gz0 gz1 gz2 rfl (by omega) _ N _ (by rfl) HR.out.2.2.2.1 ⟨g, 0, none⟩ n cap ((vss k).take (M - N)) (by rfl) HL.out.1 HL.out.2.1 HL.out.2.2 hnp (by unfold maxLen; omega) (by omega) hz5d _ rfl ?_
       intro gg cap8 w8 hown8 hgrow8 hat8 hlt8
       have hS := HR.out.2.2.2.2.1 n (.slice (some ⟨gg, 0, none⟩) (N + n) cap8) w8 HR.out.2.2.2.2.2.1.symm hown8 hgrow8 (blk_or rfl hat8)
       have hbx8 : w8.heap[w5.heap.size + 1]? = some (.cells #[.slice oa N oc] 24 (0, 0)) := (hgrow8.block _ (lt_of_cell hcbd) (fun e => hne1 e.symm)).trans hbxd
       have hcb8 : w8.cell? ⟨w5.heap.size + 1, 0, none⟩ = some (.slice oa N oc) := cell_of_block hbx8 0
       have hfb8 := frozen_of_block hbx8 0
       have hM8 : w8.cell? ⟨W.heap.size + 1, 0, none⟩ = some (.int .i64 (M : Int)) := cell_keep hMd (hgrow8.block _ (lt_of_cell hMd) (fun e => by have := (HR.out.2.2.2.1.lt _ e.symm).1; omega))
       have HS := Lib.hid hS; clear hS hown8 hgrow8 hat8 hlt8 hbx8
       (refine hK.out _ _ hM8 (fun hHeld => ?_); clear hK K; (try simp only [Act.put, List.setIfInBounds_toArray, List.set_cons_zero, List.set_cons_succ]))
       (refine wpAnyH_ready (rs := [11]) (by kernel_rfl) (by simp) (AllReadyH.cons rfl (fun K hK => ?_) AllReadyH.nil); go_simp)
       (refine hK.out _ _ (cell_keep hMd (HS.out.2.2.2.2 (W.heap.size + 1) hz5W (lt_of_cell hMd))) (fun hHeld => ?_); clear hK K; (try simp only [Act.put, List.setIfInBounds_toArray, List.set_cons_zero, List.set_cons_succ]))
       refine wpAnyH_done (by kernel_rfl) ?_ _
       exact ⟨(fin_drew Hwd.out HS.out.2.1 HS.out.2.2.1).1 _, (fin_drew Hwd.out HS.out.2.1 HS.out.2.2.1).2, ⟨_, HS.out.1⟩, HS.out.2.2.2.1 _ _ (by omega) (HR.out.2.1.size) HR.out.2.1, cell_keep hMd (HS.out.2.2.2.2 (W.heap.size + 1) hz5W (lt_of_cell hMd))⟩
     ·obtain rfl : n = 0 := by omega
      have hS := HR.out.2.2.2.2.1 0 (.slice oa N oc) wd HR.out.2.2.2.2.2.1.symm (by rw [List.length_eq_zero_iff.1 HR.out.2.2.2.2.2.1, List.append_nil]; exact HR.out.2.2.2.1) ⟨rfl, rfl, rfl, Nat.le_refl _, fun _ _ _ => rfl⟩ (.inl rfl)
      have HS := Lib.hid hS; clear hS hnp
      gi_wp2
      refine wpIn_region_round (S := fun w' => w'.cell? ⟨W.heap.size + 1, 0, none⟩ = some (.int .i64 (M : Int))) (by kernel_rfl) (by rintro ⟨_, _, h⟩; exact h) (noDef_of (by kernel_rfl)) (by rw [← Hwd.out]; exact hMd) (fun hHeld => ?_)
      rw [← Hwd.out] at hHeld ⊢
      (refine wpAnyH_take (i := 1) (v := .slice (some ⟨g, 0, none⟩) q cap) rfl (by kernel_rfl) (by kernel_rfl) (by kernel_rfl) (fun _ _ _ h => h) (Or.inl ⟨by kernel_rfl, fun w hSw => by (try dsimp only at hSw); go_split_ands; go_simp⟩) (by assumption) ?_; simp only [Act.put, List.setIfInBounds_toArray, List.set_cons_zero, List.set_cons_succ])
      (refine wpAnyH_take (i := 2) (v := .slice (some ⟨g, 0, none⟩) q cap) rfl (by kernel_rfl) (by kernel_rfl) (by kernel_rfl) (fun _ _ _ h => h) (Or.inl ⟨by kernel_rfl, fun w hSw => by (try dsimp only at hSw); go_split_ands; go_simp⟩) (by assumption) ?_; simp only [Act.put, List.setIfInBounds_toArray, List.set_cons_zero, List.set_cons_succ])
      (refine wpAnyH_take (i := 3) (v := .int .i64 (q : Int)) rfl (by kernel_rfl) (by kernel_rfl) (by kernel_rfl) (fun _ _ _ h => h) (Or.inl ⟨by kernel_rfl, fun w hSw => by (try dsimp only at hSw); go_split_ands; go_simp⟩) (by assumption) ?_; simp only [Act.put, List.setIfInBounds_toArray, List.set_cons_zero, List.set_cons_succ])
      (refine wpAnyH_take (i := 4) (v := .int .i64 (M : Int)) rfl (by kernel_rfl) (by kernel_rfl) (by kernel_rfl) (fun _ _ _ h => h) (Or.inl ⟨by kernel_rfl, fun w hSw => by (try dsimp only at hSw); go_split_ands; go_simp⟩) (by assumption) ?_; simp only [Act.put, List.setIfInBounds_toArray, List.set_cons_zero, List.set_cons_succ])
      refine wpAnyH_ready (rs := [0, 5]) (by kernel_rfl) (by simp) (AllReadyH.cons rfl (fun K hK => ?_) (AllReadyH.cons rfl (fun K hK => ?_) AllReadyH.nil))
      ·go_simp
       (refine hK.out _ _ hMd (fun hHeld => ?_); clear hK K; (try simp only [Act.put, List.setIfInBounds_toArray, List.set_cons_zero, List.set_cons_succ]))
       (refine wpAnyH_ready (rs := [5]) (by kernel_rfl) (by simp) (AllReadyH.cons rfl (fun K hK => ?_) AllReadyH.nil); go_simp)
       (refine hK.out _ _ hMd (fun hHeld => ?_); clear hK K; (try simp only [Act.put, List.setIfInBounds_toArray, List.set_cons_zero, List.set_cons_succ]))
       (refine wpAnyH_take (i := 6) (v := .int .i64 (N : Int)) rfl (by kernel_rfl) (by kernel_rfl) (by kernel_rfl) (fun _ _ _ h => h) (Or.inl ⟨by kernel_rfl, fun w hSw => by (try dsimp only at hSw); go_split_ands; go_simp⟩) (by assumption) ?_; simp only [Act.put, List.setIfInBounds_toArray, List.set_cons_zero, List.set_cons_succ])
       (refine wpAnyH_take (i := 7) (v := .int .i64 ((M : Int) - (N : Int))) rfl (by kernel_rfl) (by kernel_rfl) (by kernel_rfl) (fun _ _ _ h => h) (Or.inl ⟨by kernel_rfl, fun w hSw => by (try dsimp only at hSw); go_split_ands; go_simp⟩) (by assumption) ?_; simp only [Act.put, List.setIfInBounds_toArray, List.set_cons_zero, List.set_cons_succ])
       (refine wpAnyH_take (i := 8) (v := .int .i64 (0 : Int)) rfl (by kernel_rfl) (by kernel_rfl) (by kernel_rfl) (fun _ _ _ h => h) (Or.inl ⟨by kernel_rfl, fun w hSw => by (try dsimp only at hSw); go_split_ands; go_simp⟩) (by assumption) ?_; simp only [Act.put, List.setIfInBounds_toArray, List.set_cons_zero, List.set_cons_succ])
       (refine wpAnyH_take (i := 9) (v := .slice (some ⟨g, 0, none⟩) 0 cap) rfl (by kernel_rfl) (by kernel_rfl) (by kernel_rfl) (fun _ _ _ h => h) (Or.inl ⟨by kernel_rfl, fun w hSw => by (try dsimp only at hSw); go_split_ands; go_simp⟩) (by assumption) ?_; simp only [Act.put, List.setIfInBounds_toArray, List.set_cons_zero, List.set_cons_succ])
       refine wpAnyH_ready (rs := [10]) (by kernel_rfl) (by simp) (AllReadyH.cons rfl (fun K hK => ?_) AllReadyH.nil)
       refine step_append_none (by rfl) _ _ _ (by rfl) w5.heap.size 44 i0 1 Tryz.underlying24 gi _ N _ (by rfl) HR.out.2.2.2.1 _ _ (by rfl) ?_
       (refine hK.out _ _ hMd (fun hHeld => ?_); clear hK K; (try simp only [Act.put, List.setIfInBounds_toArray, List.set_cons_zero, List.set_cons_succ]))
       (refine wpAnyH_ready (rs := [11]) (by kernel_rfl) (by simp) (AllReadyH.cons rfl (fun K hK => ?_) AllReadyH.nil); go_simp)
       (refine hK.out _ _ (cell_keep hMd (HS.out.2.2.2.2 (W.heap.size + 1) hz5W (lt_of_cell hMd))) (fun hHeld => ?_); clear hK K; (try simp only [Act.put, List.setIfInBounds_toArray, List.set_cons_zero, List.set_cons_succ]))
       refine wpAnyH_done (by kernel_rfl) ?_ _
       exact ⟨(fin_drew Hwd.out HS.out.2.1 HS.out.2.2.1).1 _, (fin_drew Hwd.out HS.out.2.1 HS.out.2.2.1).2, ⟨_, HS.out.1⟩, HS.out.2.2.2.1 _ _ (by omega) (HR.out.2.1.size) HR.out.2.1, cell_keep hMd (HS.out.2.2.2.2 (W.heap.size + 1) hz5W (lt_of_cell hMd))⟩
      ·go_simp
       (refine hK.out _ _ hMd (fun hHeld => ?_); clear hK K; (try simp only [Act.put, List.setIfInBounds_toArray, List.set_cons_zero, List.set_cons_succ]))
       (refine wpAnyH_take (i := 6) (v := .int .i64 (N : Int)) rfl (by kernel_rfl) (by kernel_rfl) (by kernel_rfl) (fun _ _ _ h => h) (Or.inl ⟨by kernel_rfl, fun w hSw => by (try dsimp only at hSw); go_split_ands; go_simp⟩) (by assumption) ?_; simp only [Act.put, List.setIfInBounds_toArray, List.set_cons_zero, List.set_cons_succ])
       (refine wpAnyH_take (i := 7) (v := .int .i64 ((M : Int) - (N : Int))) rfl (by kernel_rfl) (by kernel_rfl) (by kernel_rfl) (fun _ _ _ h => h) (Or.inl ⟨by kernel_rfl, fun w hSw => by (try dsimp only at hSw); go_split_ands; go_simp⟩) (by assumption) ?_; simp only [Act.put, List.setIfInBounds_toArray, List.set_cons_zero, List.set_cons_succ])
       (refine wpAnyH_take (i := 8) (v := .int .i64 (0 : Int)) rfl (by kernel_rfl) (by kernel_rfl) (by kernel_rfl) (fun _ _ _ h => h) (Or.inl ⟨by kernel_rfl, fun w hSw => by (try dsimp only at hSw); go_split_ands; go_simp⟩) (by assumption) ?_; simp only [Act.put, List.setIfInBounds_toArray, List.set_cons_zero, List.set_cons_succ])
       (refine wpAnyH_take (i := 9) (v := .slice (some ⟨g, 0, none⟩) 0 cap) rfl (by kernel_rfl) (by kernel_rfl) (by kernel_rfl) (fun _ _ _ h => h) (Or.inl ⟨by kernel_rfl, fun w hSw => by (try dsimp only at hSw); go_split_ands; go_simp⟩) (by assumption) ?_; simp only [Act.put, List.setIfInBounds_toArray, List.set_cons_zero, List.set_cons_succ])
       (refine wpAnyH_ready (rs := [0]) (by kernel_rfl) (by simp) (AllReadyH.cons rfl (fun K hK => ?_) AllReadyH.nil); go_simp)
       (refine hK.out _ _ hMd (fun hHeld => ?_); clear hK K; (try simp only [Act.put, List.setIfInBounds_toArray, List.set_cons_zero, List.set_cons_succ]))
       refine wpAnyH_ready (rs := [10]) (by kernel_rfl) (by simp) (AllReadyH.cons rfl (fun K hK => ?_) AllReadyH.nil)
       refine step_append_none (by rfl) _ _ _ (by rfl) w5.heap.size 44 i0 1 Tryz.underlying24 gi _ N _ (by rfl) HR.out.2.2.2.1 _ _ (by rfl) ?_
       (refine hK.out _ _ hMd (fun hHeld => ?_); clear hK K; (try simp only [Act.put, List.setIfInBounds_toArray, List.set_cons_zero, List.set_cons_succ]))
       (refine wpAnyH_ready (rs := [11]) (by kernel_rfl) (by simp) (AllReadyH.cons rfl (fun K hK => ?_) AllReadyH.nil); go_simp)
       (refine hK.out _ _ (cell_keep hMd (HS.out.2.2.2.2 (W.heap.size + 1) hz5W (lt_of_cell hMd))) (fun hHeld => ?_); clear hK K; (try simp only [Act.put, List.setIfInBounds_toArray, List.set_cons_zero, List.set_cons_succ]))
       refine wpAnyH_done (by kernel_rfl) ?_ _
       exact ⟨(fin_drew Hwd.out HS.out.2.1 HS.out.2.2.1).1 _, (fin_drew Hwd.out HS.out.2.1 HS.out.2.2.1).2, ⟨_, HS.out.1⟩, HS.out.2.2.2.1 _ _ (by omega) (HR.out.2.1.size) HR.out.2.1, cell_keep hMd (HS.out.2.2.2.2 (W.heap.size + 1) hz5W (lt_of_cell hMd))⟩
   case done =>
    rintro D' ys W' hD' rfl ⟨⟨ov, hR⟩, hB, hM⟩ hK
    obtain ⟨oa, oc, hov, _, _⟩ := own_form hR.own
    subst hov
    have hcb : W'.cell? ⟨w5.heap.size + 1, 0, none⟩ = some (.slice oa (gvs vss M (downTo D (D + 1))).length oc) := by rw [cell_of_block hR.box]; rfl
    have hfin := (hR.turn (w1 := W'.putObj D' (.deferred none)) (grownBy_putObj' W' D' (.deferred none)) (fun r e => by cases e; exact ⟨_, hK, rfl⟩)).done (by omega) (locksTo m.c.toNat t cuts (getl t 0).length) (selL (locksTo m.c.toNat t cuts (getl t 0).length) cuts true (keysOf m)) (fun k _ => by rw [← hs]; exact wg_rows M cuts _ _ k)
    have hBf : Below W.heap.size W (W'.putObj D' (.deferred none)) := hB.grown (grownBy_putObj' W' D' _) hB.size (fun k e => by cases e; omega)
    have hDe := HD.out
    obtain ⟨ln, hln⟩ : ∃ ln, (gvs vss M (downTo D (D + 1))).length = ln := ⟨_, rfl⟩
    rw [hln] at hfin hcb
    have HFn := Lib.hid (And.intro hfin (And.intro hBf hDe)); clear hfin hBf hDe hR hln
    dsimp only
    (try clear h); (try clear hmx); (try clear hmx'); (try clear hc); (try clear hbA); (try clear hzA); (try clear hC1); (try clear hV1); (try clear HA); (try clear Hp); (try clear Hi); (try clear hcode); (try clear hb2); (try clear hbA2); (try clear hx2); (try clear hM2); (try clear hz2); (try clear hrows); (try clear hcc0); (try clear hr0); (try clear hdoors); (try clear HD); (try clear ht0); (try clear ht1); (try clear hh0); (try clear hs0); (try clear ht0x); (try clear hsz0); (try clear hx3); (try clear hTab4); (try clear hO4); (try clear hM4); (try clear hI0); (try clear hFb); (try clear hm); (try clear hvd); (try clear hV4); (try clear hC4); (try clear hall); (try clear hI5); (try clear hsub); (try clear hO5); (try clear hM5); (try clear hz5); (try clear hO5lt); (try clear hz6); (try clear Hw6); (try clear hO6); (try clear Hw7); (try clear hw6); (try clear hw7); (try clear hb56); (try clear hb67); (try clear hz7); (try clear hb57); (try clear hlow); (try clear hT7); (try clear hown7); (try clear hbx7); (try clear hTB); (try clear hBs7); (try clear hv7); (try clear hM7); (try clear hR7); (try clear hBW); (try clear hDD); (try clear hbW5); (try clear hchg); (try clear hB0); (try clear hz24); (try clear hb24); (try clear hb34); (try clear hw4); (try clear hF0); (try clear hF'); (try clear hs); (try clear hmx); (try clear hD'); (try clear hB); (try clear hM)
    gi_wp2
    refine ⟨by simp, .inl ⟨_, _, rfl, run_takeDeferred hK, ?_⟩⟩
    exact ⟨_, results_tmp2 rfl _ _ _, .slice oa ln oc, rfl, by have h1 := HFn.out.1; rw [← HFn.out.2.2] at h1; exact h1, HFn.out.2.1⟩
   case stop =>
    rintro D' c pre W' _ _ h _
    exact h.elim
 ·have hfin : wghAns m t cuts most = ([], designC m t cuts) := by unfold wghAns; rw [if_pos hp]
  have e1 : (designC m t cuts != 0) = true := by simp [hp]
  rw [hfin]
  have Hp := Lib.hid (And.intro hp hfin); clear hp hfin
  generalize designC m t cuts = pc at *
  go_enter Tryz.func12, Tryz.ntmps12
  go_wp2_with fail
  rw [← hWA]
  refine hcode.mono ?_
  rintro e' w2 ⟨rfl, hb2⟩
  have hbA2 := hbA.trans (hb2.mono hbA.size)
  have hx2 : ∀ o, w2.cell? ⟨W.heap.size, o, none⟩ = (#[.int .i64 m.c, .int .i64 m.d, .int .i64 m.s, .int .i64 m.e, .int .i64 m.l, .slice a t.length c] : Array Value)[o]? := fun o => cell_of_block (heap_below HA.out.1 hb2 (by omega)) o
  have hM2 : w2.cell? ⟨W.heap.size + 1, 0, none⟩ = some (.int .i64 most) := cell_of_block (heap_below HA.out.2 hb2 (by omega)) 0
  have hz2 : W.heap.size + 1 < w2.heap.size := by have := hb2.size; omega
  clear hx2 hM2
  go_wp2_with fail
  go_ret2
  exact ⟨_, rfl, F2.nil0, hbA2⟩
end Go.Proofs.YtmjplkbmhdkggaaGreat
namespace Go.Proofs.YtmjplkbmhdkggaaGreat
open Go.RowKit
set_option linter.unusedVariables false
set_option linter.unusedSimpArgs false
end Go.Proofs.YtmjplkbmhdkggaaGreat
