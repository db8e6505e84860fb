/- The locks of doors for partial cuts, as the reference makes them. No conditions. -/
import Derived.Test.YtmaefilliggjiaaGreatMHullR
import Derived.Test.YtmaefilliggjiaaGreatMDraw1
namespace Go.Proofs.YtmaefilliggjiaaGreat
open Go.RowKit
set_option linter.unusedVariables false
set_option linter.unusedSimpArgs false
set_option maxRecDepth 100000 in
set_option maxHeartbeats 2000000 in
theorem l15Lock_any {S S' : Nat → Prop} (m : Mk) (u v : Value) (t cuts : List (List Int)) (d n : Nat) (W : World) (hf : Fits m t cuts) (hn : (n : Int) = m.c) (hd : d < (getl t 0).length) (h : V2 S W u t) (hc : V2 S' W v cuts) :
  Calls Tryz.prog 279 #[.agg #[.int .i64 m.c, .int .i64 m.d, .int .i64 m.s, .int .i64 m.e, .int .i64 m.l, u], v, .int .i64 d] W fun e' w' => ∃ v', e' = .returned (.agg #[v']) ∧ F2 W.heap.size w' v' (lockR n t cuts d) ∧ Below W.heap.size W w' := by
 obtain ⟨a, c, rfl, hmx⟩ := h.form
 obtain ⟨a', c', rfl, hmx'⟩ := hc.form
 have hrows := hf.rows
 have hfew := hf.few
 have hok := hf.ok
 have hdd : ∀ k, k < t.length → d < (getl t k).length := fun k hk => by rw [hf.cols k hk]; exact hd
 have hlk := doorCuts_lens (d := d) hf hn
 have hdp := doorCuts_deps (d := d) hf hn
 have Hdd := Lib.hid hdd; clear hdd
 have Hlk := Lib.hid (And.intro hlk hdp); clear hlk hdp
 have Hok := Lib.hid (And.intro hok hn); clear hok hf hn
 obtain ⟨W1, hW1, hB01, hz01, HZ01, hc01, hh01, hc02, hh02⟩ := two_boxes W #[.int .i64 m.c, .int .i64 m.d, .int .i64 m.s, .int .i64 m.e, .int .i64 m.l, .slice a t.length c] #[.slice none 0 0] 28 129
 have hV1 := (h.below hB01).any
 have hC1 := (hc.below hB01).any
 have hown0 := own_lit0 W1 W1.heap.size 35 1 (Nat.le_refl _)
 go_enter Tryz.func279, Tryz.ntmps279
 go_wp2_with fail
 rw [← hW1, show W.heap.size + 1 + 1 = W1.heap.size from HZ01.out.symm]
 have HW1 := Lib.hid hW1; clear hW1
 have Hc01 := Lib.hid (And.intro hc01 (And.intro hh01 (And.intro hc02 hh02))); clear hc01 hh01 hc02 hh02
 go_loopw [7, 8] (fun o i wn => ∃ (j : Nat) (vs : List Value), j ≤ cuts.length ∧ i = .int .i64 (j : Int) ∧ wn.ownsRow W1.heap.size 35 1 o (doorCuts t cuts d j).length vs ∧ RowVs (fun _ => True) W1 vs (doorCuts t cuts d j) ∧ Below W1.heap.size W1 wn) (fun _ i _ => cuts.length - (intOf i).toNat)
 case atStart => exact ⟨0, [], Nat.zero_le _, rfl, hown0, RowVs.nil, (Below.refl _ _).alloc (Nat.le_refl _) _⟩
 case round =>
  obtain ⟨j, vs, hj, rfl, hown, hR, hBn⟩ := hrel
  have hzn := hBn.size
  have hzn1 : W.heap.size < wr.heap.size := by omega
  have hxn : ∀ o, wr.cell? ⟨W.heap.size, o, none⟩ = (#[.int .i64 m.c, .int .i64 m.d, .int .i64 m.s, .int .i64 m.e, .int .i64 m.l, .slice a t.length c] : Array Value)[o]? := fun o => by rw [(bcell hBn).1 _ _ (by omega), Hc01.out.1]
  have hdrl := doorCuts_len t cuts d j
  by_cases hjj : j < cuts.length
  ·have hjt : j < t.length := by omega
   have hkj := Hdd.out j hjt
   obtain ⟨b1, off1, a1, c1, rfl, _, hc1, hr1⟩ := (hV1.below hBn).cell hjt
   obtain ⟨b2, off2, rfl, _, hc2⟩ := hr1.cell hkj
   obtain ⟨b3, off3, a3, c3, rfl, _, hc3', hr3'⟩ := hC1.cell hjj
   have hc3 := cell_keep hc3' (hBn.block _ (lt_of_cell hc3'))
   clear hc3'
   have hgl : (getl t j).length ≤ maxLen := hr1.len
   have hgl3 : (getl cuts j).length ≤ maxLen := hr3'.len
   unfold maxLen at hgl hgl3
   by_cases h1 : geti (getl t j) d = 1
   ·have e1 : (geti (getl t j) d == 1) = true := by simp [h1]
    have hst : doorCuts t cuts d (j + 1) = doorCuts t cuts d j ++ [getl cuts j] := by rw [doorCuts, if_pos h1]
    have Hst := Lib.hid hst; clear hst
    have H1 := Lib.hid h1; clear h1
    go_wp2_with (at_builtin; refine wp_app1 _ rfl _ _ 26 rfl W1.heap.size 35 (.slice none 0 0) 24 Tryz.underlying26 inf_ints rfl _ _ _ rfl hown (.slice a3 (getl cuts j).length c3) _ rfl rfl (by omega) (by omega) (by omega) ?_; intro v1 w1 hown1 hgrow1 hblk1 hB1)
    go_roundw
    case rel => exact ⟨j + 1, _, by omega, by go_num, by rw [Hst.out, List.length_append]; exact hown1, by rw [Hst.out]; exact hR.snoc hr3', hBn.trans (hB1.mono (Nat.le_refl _))⟩
    case measure => simp [intOf]; omega
   ·have e1 : (geti (getl t j) d == 1) = false := by simp [h1]
    have hst : doorCuts t cuts d (j + 1) = doorCuts t cuts d j := by rw [doorCuts, if_neg h1]
    have Hst := Lib.hid hst; clear hst
    have H1 := Lib.hid h1; clear h1
    go_wp2_with fail
    go_roundw
    case rel => exact ⟨j + 1, _, by omega, by go_num, by rw [Hst.out]; exact hown, by rw [Hst.out]; exact hR, hBn⟩
    case measure => simp [intOf]; omega
  ·obtain rfl : j = cuts.length := by omega
   have hV4 := own_V2 hown (hR.keep (Below.keep hBn fun _ _ h => h))
   obtain ⟨ka, kc, rfl, hkc1, hkc2⟩ := own_form hown
   have hres : wr.heap[W.heap.size + 1]? = some (.cells #[.slice none 0 0] 129 (0, 0)) := heap_below Hc01.out.2.2.2 hBn hz01
   have Hres := Lib.hid hres; clear hres
   clear hown hR
   go_wp2_with fail
   refine (l04Hull_any m Hok.out.1 _ (doorCuts t cuts d cuts.length) n _ Hok.out.2 hV4 (by omega) Hlk.out.1 Hlk.out.2).mono ?_
   rintro e' w4 ⟨v4, rfl, hF4, hb4⟩
   have hres4 := heap_below Hres.out hb4 (by omega)
   have hrc := cell_of_block hres4 0
   have hrf := frozen_of_block hres4 0
   obtain ⟨a4, c4, rfl, _⟩ := hF4.v2.form
   have hln := Nat.le_of_eq (hullR_len (doorCuts t cuts d cuts.length) n)
   have hrs := cell_of_block (heap_setCell_self (off := 0) hres4 (.slice a4 (hullR (doorCuts t cuts d cuts.length) n).length c4)) 0
   have Hrs := Lib.hid hrs; clear hrs hres4 hV4 hxn
   have HF4 := Lib.hid hF4; clear hF4
   have hz4 := hb4.size
   go_wp2_with fail
   have hrs := Hrs.out
   simp at hrs
   refine bodyPost_ret (v := .agg #[.slice a4 (hullR (doorCuts t cuts d cuts.length) n).length c4]) (by simp [results, Tryz.results279, go_sem, hrs]) rfl ⟨_, rfl, ?_, ?_⟩
   ·exact (F2.set HF4.out (by omega)).mono (by omega)
   ·have hbb := (hB01.trans (hBn.mono (by omega))).trans (hb4.mono (by omega))
    exact by (repeat (first | (with_reducible refine Below.setCell ?_ ?_ _) | (with_reducible refine Below.alloc ?_ ?_ _) | (with_reducible refine Below.drew ?_) | (with_reducible refine below_drewN ?_ _) | (with_reducible exact Below.refl _ _) | (with_reducible assumption) | (with_reducible refine Below.trans ?_ (Below.mono (by with_reducible assumption) ?_)) | go_size))
set_option maxRecDepth 100000 in
set_option maxHeartbeats 2000000 in
theorem l15Locks_any {S S' : Nat → Prop} (m : Mk) (u v : Value) (t cuts : List (List Int)) (n : Nat) (W : World) (hf : Fits m t cuts) (hn : (n : Int) = m.c) (h : V2 S W u t) (hc : V2 S' W v cuts) :
  Calls Tryz.prog 250 #[.agg #[.int .i64 m.c, .int .i64 m.d, .int .i64 m.s, .int .i64 m.e, .int .i64 m.l, u], v] W fun e' w' => ∃ v', e' = .returned v' ∧ V3 (fun b => W.heap.size ≤ b) w' v' (locksTo n t cuts (getl t 0).length) ∧ Below W.heap.size W w' := by
 obtain ⟨a, c, rfl, hmx⟩ := h.form
 obtain ⟨a', c', rfl, hmx'⟩ := hc.form
 have hrows := hf.rows
 have hdoors := hf.doors
 have hfew := hf.few
 have Hf := Lib.hid (And.intro hf hn); clear hf hn
 obtain ⟨W1, hW1, hB01, hz01, HZ01, hc01, hh01⟩ := box_facts W #[.int .i64 m.c, .int .i64 m.d, .int .i64 m.s, .int .i64 m.e, .int .i64 m.l, .slice a t.length c] 28
 have hV1 := (h.below hB01).any
 have hC1 := (hc.below hB01).any
 obtain ⟨b0, off0, a0, c0, rfl, _, hcc0, hr0⟩ := hV1.cell (k := 0) (by omega)
 simp only [Nat.add_zero] at hcc0
 have hl0 := hr0.len
 unfold maxLen at hl0
 have hout0 := OutL.start W1 W1.heap.size (Nat.le_refl _)
 have Hout0 := Lib.hid hout0; clear hout0
 go_enter Tryz.func250, Tryz.ntmps250
 go_wp2_with fail
 rw [← hW1, show W.heap.size + 1 = W1.heap.size from HZ01.out.symm]
 have HW1 := Lib.hid hW1; clear hW1 hh01
 have Hc01 := Lib.hid hc01; clear hc01
 have Hcc0 := Lib.hid hcc0; clear hcc0
 go_loopw [5, 6] (fun ou i wr => ∃ x : Nat, x ≤ (getl t 0).length ∧ i = .int .i64 (x : Int) ∧ OutL W1.heap.size wr ou (locksTo n t cuts x) ∧ Below W1.heap.size W1 wr) (fun _ i _ => (getl t 0).length - (intOf i).toNat)
 case atStart => exact ⟨0, Nat.zero_le _, rfl, Hout0.out, (Below.refl _ _).alloc (Nat.le_refl _) _⟩
 case round =>
  obtain ⟨x, hx, rfl, hO, hB⟩ := hrel
  obtain ⟨wo, rfl⟩ : ∃ wo, wo = wr := ⟨_, rfl⟩
  have hzr := hB.size
  have hzo : W.heap.size < wo.heap.size := by omega
  have hxo : ∀ o, wo.cell? ⟨W.heap.size, o, none⟩ = (#[.int .i64 m.c, .int .i64 m.d, .int .i64 m.s, .int .i64 m.e, .int .i64 m.l, .slice (some ⟨b0, off0, none⟩) t.length c] : Array Value)[o]? := fun o => by rw [(bcell hB).1 _ _ hz01, Hc01.out]
  have hcc := cell_keep Hcc0.out (hB.block _ (lt_of_cell Hcc0.out))
  by_cases hxn : x < (getl t 0).length
  ·obtain ⟨vs4, g1, g2⟩ := hO
   have G := Lib.hid (And.intro g1 g2); clear g1 g2
   go_wp2_with fail
   refine (l15Lock_any m _ _ t cuts x n _ Hf.out.1 Hf.out.2 hxn (hV1.below hB) (hC1.below hB)).mono ?_
   rintro e' w4 ⟨v4, rfl, hF4, hb4⟩
   have hO4 := own_chg G.out.1 (Chg.of_below (F := fun _ => False) hb4) (fun _ _ h => h)
   have hz4 := hb4.size
   obtain ⟨a4, c4, rfl, _⟩ := hF4.v2.form
   have hlx := Nat.le_of_eq (locksTo_len n t cuts x)
   have HF4 := Lib.hid hF4; clear hF4 hxo hcc
   go_wp2_with (at_builtin; refine wp_app1 _ rfl _ _ 126 rfl W1.heap.size 129 (.agg #[.slice none 0 0]) 24 Tryz.underlying126 inf_lock rfl _ _ _ rfl hO4 (.slice a4 (lockR n t cuts x).length c4) _ rfl rfl (by omega) (by omega) (by omega) ?_; intro v1 w1 hown1 hgrow1 hblk1 hB1)
   go_roundw
   case rel => exact ⟨x + 1, by omega, by go_num, by rw [locksTo]; exact OutL.push G.out.1 G.out.2 hzr hb4 HF4.out (Nat.le_refl _) hown1 hgrow1 hblk1, (hB.trans (hb4.mono hzr)).trans hB1⟩
   case measure => simp [intOf]; omega
  ·obtain rfl : x = (getl t 0).length := by omega
   have hfx := hO.v3
   have Hfx := Lib.hid hfx; clear hfx
   go_wp2_with fail
   go_ret
   exact ⟨_, rfl, Hfx.out.mono (fun b h _ => by have : W1.heap.size ≤ b := h; omega) (fun _ _ _ => rfl), hB01.trans (hB.mono (by omega))⟩
/-- The false openings of row i among the first k doors. -/
def falseTo (t cuts : List (List Int)) (locks : List (List (List Int))) (i : Nat) : Nat → List (List Int)
 | 0 => []
 | k + 1 => if geti (getl t i) k = 0 ∧ opensB (getll locks k) (getl cuts i) = true then falseTo t cuts locks i k ++ [[(i : Int), (k : Int)]] else falseTo t cuts locks i k
/-- Those of the first i rows, at D doors. -/
def falseRows (t cuts : List (List Int)) (locks : List (List (List Int))) (D : Nat) : Nat → List (List Int)
 | 0 => []
 | i + 1 => falseRows t cuts locks D i ++ falseTo t cuts locks i D
def falseL (n : Nat) (t cuts : List (List Int)) : List (List Int) := falseRows t cuts (locksTo n t cuts (getl t 0).length) (getl t 0).length cuts.length
theorem falseTo_len (t cuts : List (List Int)) (locks : List (List (List Int))) (i : Nat) : ∀ k, (falseTo t cuts locks i k).length ≤ k
 | 0 => Nat.le_refl _
 | k + 1 => by have := falseTo_len t cuts locks i k; unfold falseTo; split <;> simp <;> omega
theorem falseRows_len (t cuts : List (List Int)) (locks : List (List (List Int))) (D : Nat) : ∀ i, (falseRows t cuts locks D i).length ≤ i * D
 | 0 => by simp [falseRows]
 | i + 1 => by have := falseRows_len t cuts locks D i; have := falseTo_len t cuts locks i D; rw [falseRows, List.length_append, Nat.succ_mul]; omega
theorem mem_falseTo {t cuts : List (List Int)} {locks : List (List (List Int))} {i : Nat} {x : List Int} : ∀ {k}, x ∈ falseTo t cuts locks i k ↔ ∃ d : Nat, d < k ∧ x = [(i : Int), (d : Int)] ∧ geti (getl t i) d = 0 ∧ opensB (getll locks d) (getl cuts i) = true
 | 0 => by simp [falseTo]
 | k + 1 => by
   unfold falseTo
   split
   ·rename_i h
    rw [List.mem_append, mem_falseTo]
    constructor
    ·rintro (⟨d, h1, h2⟩ | h1)
     ·exact ⟨d, by omega, h2⟩
     ·exact ⟨k, by omega, List.mem_singleton.1 h1, h⟩
    ·rintro ⟨d, h1, h2, h3⟩
     by_cases e : d = k
     ·subst e; right; exact List.mem_singleton.2 h2
     ·exact .inl ⟨d, by omega, h2, h3⟩
   ·rename_i h
    rw [mem_falseTo]
    constructor
    ·rintro ⟨d, h1, h2⟩; exact ⟨d, by omega, h2⟩
    ·rintro ⟨d, h1, h2, h3⟩
     refine ⟨d, ?_, h2, h3⟩
     by_cases e : d = k
     ·subst e; exact absurd h3 h
     ·omega
theorem mem_falseRows {t cuts : List (List Int)} {locks : List (List (List Int))} {D : Nat} {x : List Int} : ∀ {r}, x ∈ falseRows t cuts locks D r ↔ ∃ i d : Nat, i < r ∧ d < D ∧ x = [(i : Int), (d : Int)] ∧ geti (getl t i) d = 0 ∧ opensB (getll locks d) (getl cuts i) = true
 | 0 => by simp [falseRows]
 | r + 1 => by
   rw [falseRows, List.mem_append, mem_falseRows, mem_falseTo]
   constructor
   ·rintro (⟨i, d, h1, h2⟩ | ⟨d, h1, h2⟩)
    ·exact ⟨i, d, by omega, h2⟩
    ·exact ⟨r, d, by omega, h1, h2⟩
   ·rintro ⟨i, d, h1, h2, h3⟩
    by_cases e : i = r
    ·subst e; exact .inr ⟨d, h2, h3⟩
    ·exact .inl ⟨i, d, by omega, h2, h3⟩
/-- wp_app1 where the size of the heap is spelled otherwise. -/
theorem wp_app1h {P : Program} (w0 : World) (H : Nat) (hH : w0.heap.size = H) {ops : Array Oper} {rest : List Oper} {o : Oper} {a : Act} {Q : Exit → Act → World → Prop} (hgd : o.guard = none) (s x : Operand) (t : TypeId)
  (ho : o.op = .call { callee := .builtin .append, args := #[s, x], argTypes := #[t, t] })
  (base : Nat) (e : TypeId) (z : Value) (bytes : Nat) (ht : P.underlying t = some (.slice e)) (h2 : (P.info? e).map (fun i => (i.zero, i.size, i.bytes)) = some (some z, 1, bytes)) (hzs : z.cells.size = 1)
  (v : Value) (n : Nat) (xs : List Value) (hs : a.eval s = v) (hown : w0.ownsRow base e 1 v n xs) (nv : Value) (e2 : TypeId) (hx : a.eval x = .slice (some ⟨H, 0, none⟩) 1 1) (hone : nv.oneCell' = true)
  (hn : n + 1 ≤ 1000000000) (hby : bytes ≤ 1000) (hbase : base ≤ w0.heap.size)
  (h : ∀ v' w', w'.ownsRow base e 1 v' (n + 1) (xs ++ [nv]) → w0.grownBy w' v.ownBlock → (v'.ownBlock = v.ownBlock ∨ ∃ g, v'.ownBlock = some g ∧ w0.heap.size ≤ g) → Below base w0 w' → wpList P ops Q rest (a.put o.dst v') w') :
  wpList P ops Q (o :: rest) a (w0.alloc (.cells #[nv] e2)) := by
 subst hH
 exact wp_app1 w0 hgd s x t ho base e z bytes ht h2 hzs v n xs hs hown nv e2 hx hone hn hby hbase h
theorem lock_len {n : Nat} {t cuts : List (List Int)} {D k : Nat} (h : k < D) : (getll (locksTo n t cuts D) k).length = n := by
 rw [locksTo_get h, lockR, hullR_len]
theorem pair_X1 {w w1 : World} {x y : Int} {T : TypeId} (hb : Below (w.alloc (.cells #[.int .i64 x, .int .i64 y] T)).heap.size (w.alloc (.cells #[.int .i64 x, .int .i64 y] T)) w1) : X1 w1 (.slice (some ⟨w.heap.size, 0, none⟩) 2 2) [x, y] w.heap.size := by
 refine ⟨_, 2, rfl, Nat.le_refl _, by unfold maxLen; omega, fun _ => ⟨0, #[.int .i64 x, .int .i64 y], T, rfl, ?_, fun k hk => ?_⟩⟩
 ·rw [hb.block _ (by simp)]; exact heap_alloc_self _ _
 ·have : k < 2 := by simpa using hk
  rcases k with _ | _ | k
  ·rfl
  ·rfl
  ·omega
/-- The locks lie between two sizes of the heap; what is being made lies elsewhere. -/
def LkAt (s1 s2 : Nat) (ou : Value) (w : World) (lv : Value) (locks : List (List (List Int))) : Prop :=
 V3 (fun b => s1 < b ∧ b < s2) w lv locks ∧ (∀ g, ou.ownBlock = some g → g = s1 ∨ s2 ≤ g) ∧ s2 ≤ w.heap.size
theorem LkAt.below {s1 s2 : Nat} {ou : Value} {w w' : World} {lv : Value} {locks : List (List (List Int))} (h : LkAt s1 s2 ou w lv locks) (hb : Below w.heap.size w w') : LkAt s1 s2 ou w' lv locks :=
 ⟨h.1.below hb, h.2.1, Nat.le_trans h.2.2 hb.size⟩
theorem LkAt.grown {s1 s2 : Nat} {ou ou' : Value} {w w' : World} {lv : Value} {locks : List (List (List Int))} (h : LkAt s1 s2 ou w lv locks) (hg : w.grownBy w' ou.ownBlock) (hblk : ou'.ownBlock = ou.ownBlock ∨ ∃ g, ou'.ownBlock = some g ∧ w.heap.size ≤ g) : LkAt s1 s2 ou' w' lv locks := by
 obtain ⟨h1, h2, h3⟩ := h
 refine ⟨h1.mono (fun _ h _ => h) (grow_keep hg fun g hgg hS => ?_), fun g hgg => ?_, Nat.le_trans h3 hg.size⟩
 ·have := hS.1; have := hS.2; rcases h2 g hgg with e | e <;> omega
 ·rcases hblk with e | ⟨g', e, hge⟩
  ·exact h2 g (e.symm.trans hgg)
  ·rw [hgg] at e; cases e; right; omega
set_option maxRecDepth 100000 in
set_option maxHeartbeats 2000000 in
theorem partFaults_any {S S' : Nat → Prop} (m : Mk) (u v : Value) (t cuts : List (List Int)) (n : Nat) (W : World) (hf : Fits m t cuts) (hn : (n : Int) = m.c) (h : V2 S W u t) (hc : V2 S' W v cuts) :
  Calls Tryz.prog 109 #[.agg #[.int .i64 m.c, .int .i64 m.d, .int .i64 m.s, .int .i64 m.e, .int .i64 m.l, u], v] W fun e' w' => ∃ v', e' = .returned v' ∧ F2 W.heap.size w' v' (falseL n t cuts) ∧ Below W.heap.size W w' := by
 obtain ⟨a, c, rfl, hmx⟩ := h.form
 obtain ⟨a', c', rfl, hmx'⟩ := hc.form
 have hrows := hf.rows
 have hdoors := hf.doors
 have hfew := hf.few
 have hcols := hf.cols
 have hlens : ∀ i, i < cuts.length → (getl cuts i).length = n := fun i hi => by have := hf.lens i hi; omega
 have Hcols := Lib.hid hcols; clear hcols
 have Hlens := Lib.hid hlens; clear hlens
 have Hf := Lib.hid (And.intro hf hn); clear hf hn
 obtain ⟨locks, hlocks⟩ : ∃ x, x = locksTo n t cuts (getl t 0).length := ⟨_, rfl⟩
 have hfin : falseL n t cuts = falseRows t cuts locks (getl t 0).length cuts.length := by rw [hlocks]; rfl
 rw [hfin]
 have hll : locks.length ≤ (getl t 0).length := by rw [hlocks, locksTo_len]; exact Nat.le_refl _
 have hlg : (getl t 0).length ≤ locks.length := by rw [hlocks, locksTo_len]; exact Nat.le_refl _
 have hlk : ∀ k, k < (getl t 0).length → (getll locks k).length = n := fun k hk => by rw [hlocks]; exact lock_len hk
 have Hlocks := Lib.hid hlocks; clear hlocks hfin
 have Hlk := Lib.hid hlk; clear hlk
 obtain ⟨W1, hW1, hB01, hz01, HZ01, hc01, hh01⟩ := box_facts W #[.int .i64 m.c, .int .i64 m.d, .int .i64 m.s, .int .i64 m.e, .int .i64 m.l, .slice a t.length c] 28
 have hV1 := (h.below hB01).any
 have hC1 := (hc.below hB01).any
 have hout0 := Out2.start W1 W1.heap.size (Nat.le_refl _)
 have Hout0 := Lib.hid hout0; clear hout0
 go_enter Tryz.func109, Tryz.ntmps109
 go_wp2_with fail
 rw [← hW1, show W.heap.size + 1 = W1.heap.size from HZ01.out.symm]
 have hbA : Below W1.heap.size W1 (W1.alloc (.cells #[] 35)) := (Below.refl _ _).alloc (Nat.le_refl _) _
 refine (partLocks_any m _ _ t cuts n _ Hf.out.1 Hf.out.2 (hV1.below hbA) (hC1.below hbA)).mono ?_
 rintro e' wL ⟨lv, rfl, hLk0, hbL⟩
 rw [← Hlocks.out] at hLk0
 have hLk1 : LkAt W1.heap.size wL.heap.size (.slice (some ⟨W1.heap.size, 0, none⟩) 0 0) wL lv locks := ⟨hLk0.mono (fun b h1 h2 => ⟨by simp at h1; omega, h2⟩) (fun _ _ _ => rfl), fun g hg => .inl (by cases hg; rfl), Nat.le_refl _⟩
 have hBL := hbA.trans (hbL.mono (by simp))
 have hzL := hBL.size
 have hO0 := Out2.keep Hout0.out hbL
 obtain ⟨la, lc, rfl, hlm⟩ := hLk0.form
 have HLk1 := Lib.hid hLk1; clear hLk1
 have HW1 := Lib.hid hW1; clear hW1 hh01
 have hxL : ∀ o, wL.cell? ⟨W.heap.size, o, none⟩ = (#[.int .i64 m.c, .int .i64 m.d, .int .i64 m.s, .int .i64 m.e, .int .i64 m.l, .slice a t.length c] : Array Value)[o]? := fun o => by rw [(bcell hBL).1 _ _ hz01, hc01]
 have Hc01 := Lib.hid hc01; clear hc01
 have HO0 := Lib.hid hO0; clear hO0 hLk0 hbA hbL Hout0
 go_wp2_with fail
 clear hxL
 go_loopw [5, 7, 8, 9, 10, 17] (fun ou _ _ _ _ j wr => ∃ i : Nat, i ≤ cuts.length ∧ j = .int .i64 (i : Int) ∧ Out2 W1.heap.size wr ou (falseRows t cuts locks (getl t 0).length i) ∧ LkAt W1.heap.size wL.heap.size ou wr (.slice la locks.length lc) locks ∧ Below W1.heap.size W1 wr) (fun _ _ _ _ _ j _ => cuts.length - (intOf j).toNat)
 case atStart => exact ⟨0, Nat.zero_le _, rfl, HO0.out, HLk1.out, hBL⟩
 case round =>
  obtain ⟨i, hi, rfl, hO, hLo, hB1o⟩ := hrel
  obtain ⟨wo, rfl⟩ : ∃ wo, wo = wr := ⟨_, rfl⟩
  have hzo := hB1o.size
  by_cases hii : i < cuts.length
  ·obtain ⟨b1, off1, a1, c1, rfl, _, hc1', hr1'⟩ := hC1.cell hii
   have hc1 := cell_keep hc1' (hB1o.block _ (lt_of_cell hc1'))
   clear hc1'
   have hgl : (getl cuts i).length ≤ maxLen := hr1'.len
   unfold maxLen at hgl
   have hrl := falseRows_len t cuts locks (getl t 0).length i
   have him : i * (getl t 0).length ≤ 10 * 12 := Nat.mul_le_mul (by omega) (by omega)
   have HO := Lib.hid hO; clear hO
   go_wp2_with fail
   clear hc1
   go_loopw [5, 9, 10, 24] (fun ou _ _ j wr => ∃ k : Nat, k ≤ (getl t 0).length ∧ j = .int .i64 (k : Int) ∧ Out2 W1.heap.size wr ou (falseRows t cuts locks (getl t 0).length i ++ falseTo t cuts locks i k) ∧ LkAt W1.heap.size wL.heap.size ou wr (.slice la locks.length lc) locks ∧ Below W1.heap.size W1 wr) (fun _ _ _ j _ => (getl t 0).length - (intOf j).toNat)
   case atStart => exact ⟨0, Nat.zero_le _, rfl, by simpa [falseTo] using HO.out, hLo, hB1o⟩
   case round =>
    obtain ⟨k, hk, rfl, hO, hLn, hBn⟩ := hrel
    have hzn := hBn.size
    have hzW : W.heap.size < wr.heap.size := by omega
    have hpl := falseTo_len t cuts locks i k
    have hal : (falseRows t cuts locks (getl t 0).length i ++ falseTo t cuts locks i k).length ≤ 1000 := by rw [List.length_append]; omega
    by_cases hkk : k < (getl t 0).length
    ·have hit : i < t.length := by omega
     have hkl : k < locks.length := by omega
     have hkt : k < (getl t i).length := by rw [Hcols.out i hit]; exact hkk
     obtain ⟨b2, off2, a2, c2, rfl, _, hc2, hr2⟩ := hLn.1.cell hkl
     obtain ⟨b3, off3, a3, c3, rfl, _, hc3, hr3⟩ := (hV1.below hBn).cell hit
     obtain ⟨b4, off4, rfl, _, hc4⟩ := hr3.cell hkt
     have hl3 := hr3.len
     unfold maxLen at hl3
     have hxr : ∀ o, wr.cell? ⟨W.heap.size, o, none⟩ = (#[.int .i64 m.c, .int .i64 m.d, .int .i64 m.s, .int .i64 m.e, .int .i64 m.l, .slice (some ⟨b3, off3, none⟩) t.length c] : Array Value)[o]? := fun o => by rw [(bcell hBn).1 _ _ hz01, Hc01.out]
     have hb2 := lt_of_cell hc2
     have hb3 := lt_of_cell hc3
     have hb4 := lt_of_cell hc4
     simp only at hb2 hb3 hb4
     obtain ⟨vs, bk, g1, g2, g3⟩ := hO
     have G := Lib.hid (And.intro g1 (And.intro g2 g3)); clear g1 g2 g3
     by_cases h1 : geti (getl t i) k = 0
     ·have e1 : (geti (getl t i) k == 0) = true := by simp [h1]
      have hbA : Below wr.heap.size wr (wr.alloc (.cells #[.slice a2 (getll locks k).length c2] 129)) := (Below.refl _ _).alloc (Nat.le_refl _) _
      have hlen : (getl cuts i).length ≤ (getll locks k).length := by rw [Hlk.out k hkk, Hlens.out i hii]; exact Nat.le_refl _
      cases ho : opensB (getll locks k) (getl cuts i)
      ·have hst : falseTo t cuts locks i (k + 1) = falseTo t cuts locks i k := by rw [falseTo, if_neg (by rw [ho]; simp)]
       have Hst := Lib.hid hst; clear hst
       have Ho := Lib.hid ho; clear ho
       have H1 := Lib.hid h1; clear h1
       go_wp2_with fail
       refine (opens_b _ _ (getll locks k) (getl cuts i) _ _ Ho.out (hr2.below hbA) ((hr1'.below hBn).below hbA) hlen).mono ?_
       rintro e' w5 ⟨rfl, hb5⟩
       have hb05 := hbA.trans (hb5.mono (by simp))
       clear hxr hc2 hc3 hc4 hr2 hr3 hbA
       go_wp2_with fail
       go_roundw
       case rel => exact ⟨k + 1, by omega, by go_num, by rw [Hst.out]; exact Out2.keep ⟨vs, bk, G.out.1, G.out.2.1, G.out.2.2⟩ hb05, hLn.below hb05, hBn.trans (hb05.mono hzn)⟩
       case measure => simp [intOf]; omega
      ·have hst : falseTo t cuts locks i (k + 1) = falseTo t cuts locks i k ++ [[(i : Int), (k : Int)]] := by rw [falseTo, if_pos ⟨h1, ho⟩]
       have Hst := Lib.hid hst; clear hst
       have Ho := Lib.hid ho; clear ho
       have H1 := Lib.hid h1; clear h1
       go_wp2_with fail
       refine (opens_b _ _ (getll locks k) (getl cuts i) _ _ Ho.out (hr2.below hbA) ((hr1'.below hBn).below hbA) hlen).mono ?_
       rintro e' w5 ⟨rfl, hb5⟩
       have hb05 := hbA.trans (hb5.mono (by simp))
       have hz5 := hb05.size
       have hown5 := (own_chg G.out.1 (Chg.of_below (F := fun _ => False) hb05) (fun _ _ h => h)).alloc (.cells #[.int .i64 i, .int .i64 k] 2)
       clear hxr hc2 hc3 hc4 hr2 hr3 hbA
       go_wp2_with (at_builtin; refine wp_app1h (w5.alloc (.cells #[.int .i64 i, .int .i64 k] 2)) (w5.heap.size + 1) (by simp) rfl _ _ 26 rfl W1.heap.size 35 (.slice none 0 0) 24 Tryz.underlying26 inf_ints rfl u5 _ _ rfl hown5 (.slice (some ⟨w5.heap.size, 0, none⟩) 2 2) _ rfl rfl (by omega) (by omega) (by first | (simp; done) | (simp; omega)) ?_; intro v1 w1 hown1 hgrow1 hblk1 hB1)
       go_roundw
       case rel =>
        refine ⟨k + 1, by omega, by go_num, ?_, (hLn.below (hb05.alloc (by omega) _)).grown hgrow1 hblk1, ((hBn.trans (hb05.mono hzn)).alloc (by omega) _).trans hB1⟩
        rw [Hst.out, ← List.append_assoc]
        exact Out2.push (l := [(i : Int), (k : Int)]) (b := w5.heap.size) G.out.1 G.out.2.1 G.out.2.2 (by omega) (hb05.alloc (by omega) _) (pair_X1 (Below.refl _ _)) (fun _ => by omega) hown1 hgrow1 hblk1
       case measure => simp [intOf]; omega
     ·have e1 : (geti (getl t i) k == 0) = false := by simp [h1]
      have hst : falseTo t cuts locks i (k + 1) = falseTo t cuts locks i k := by rw [falseTo, if_neg (fun h => h1 h.1)]
      have Hst := Lib.hid hst; clear hst
      have H1 := Lib.hid h1; clear h1
      have hbA : Below wr.heap.size wr (wr.alloc (.cells #[.slice a2 (getll locks k).length c2] 129)) := (Below.refl _ _).alloc (Nat.le_refl _) _
      go_wp2_with fail
      go_roundw
      case rel => exact ⟨k + 1, by omega, by go_num, by rw [Hst.out]; exact Out2.keep ⟨vs, bk, G.out.1, G.out.2.1, G.out.2.2⟩ hbA, hLn.below hbA, hBn.trans (hbA.mono hzn)⟩
      case measure => simp [intOf]; omega
    ·obtain rfl : k = (getl t 0).length := by omega
     have hkl : ¬ (getl t 0).length < locks.length := by omega
     have hst : falseRows t cuts locks (getl t 0).length (i + 1) = falseRows t cuts locks (getl t 0).length i ++ falseTo t cuts locks i (getl t 0).length := rfl
     have Hst := Lib.hid hst; clear hst
     have HO2 := Lib.hid hO; clear hO
     go_wp2_with fail
     go_roundw
     case rel => exact ⟨i + 1, by omega, by go_num, by rw [Hst.out]; exact HO2.out, hLn, hBn⟩
     case measure => simp [intOf]; omega
  ·obtain rfl : i = cuts.length := by omega
   have hfx := hO.f2
   have Hfx := Lib.hid hfx; clear hfx
   go_wp2_with fail
   go_ret
   exact ⟨_, rfl, F2.mono Hfx.out (by omega), hB01.trans (hB1o.mono (by omega))⟩
theorem cells5_keep {a1 a2 a3 a4 a5 o1 o2 o3 o4 o5 : Nat} {v1 v2 v3 v4 v5 : Value} {w0 w w' : World}
  (h : w.cell? ⟨a1, o1, none⟩ = some v1 ∧ w.cell? ⟨a2, o2, none⟩ = some v2 ∧ w.cell? ⟨a3, o3, none⟩ = some v3 ∧ w.cell? ⟨a4, o4, none⟩ = some v4 ∧ w.cell? ⟨a5, o5, none⟩ = some v5 ∧ Below w0.heap.size w0 w) (hb : Below w.heap.size w w') :
  w'.cell? ⟨a1, o1, none⟩ = some v1 ∧ w'.cell? ⟨a2, o2, none⟩ = some v2 ∧ w'.cell? ⟨a3, o3, none⟩ = some v3 ∧ w'.cell? ⟨a4, o4, none⟩ = some v4 ∧ w'.cell? ⟨a5, o5, none⟩ = some v5 ∧ Below w0.heap.size w0 w' := by
 obtain ⟨h1, h2, h3, h4, h5, h6⟩ := h
 exact ⟨cell_keep h1 (hb.block _ (lt_of_cell h1)), cell_keep h2 (hb.block _ (lt_of_cell h2)), cell_keep h3 (hb.block _ (lt_of_cell h3)), cell_keep h4 (hb.block _ (lt_of_cell h4)), cell_keep h5 (hb.block _ (lt_of_cell h5)), h6.trans (hb.mono h6.size)⟩
theorem cells5_below {a1 a2 a3 a4 a5 o1 o2 o3 o4 o5 : Nat} {v1 v2 v3 v4 v5 : Value} {w0 w : World}
  (h : w.cell? ⟨a1, o1, none⟩ = some v1 ∧ w.cell? ⟨a2, o2, none⟩ = some v2 ∧ w.cell? ⟨a3, o3, none⟩ = some v3 ∧ w.cell? ⟨a4, o4, none⟩ = some v4 ∧ w.cell? ⟨a5, o5, none⟩ = some v5 ∧ Below w0.heap.size w0 w) : Below w0.heap.size w0 w := h.2.2.2.2.2
set_option maxRecDepth 100000 in
set_option maxHeartbeats 2000000 in
theorem l15False_any {S S' : Nat → Prop} (m : Mk) (u v : Value) (t cuts : List (List Int)) (n : Nat) (W : World) (hf : Fits m t cuts) (hn : (n : Int) = m.c) (h : V2 S W u t) (hc : V2 S' W v cuts) :
  Calls Tryz.prog 208 #[.agg #[.int .i64 m.c, .int .i64 m.d, .int .i64 m.s, .int .i64 m.e, .int .i64 m.l, u], v] W fun e' w' => ∃ v', e' = .returned v' ∧ F2 W.heap.size w' v' (falseL n t cuts) ∧ Below W.heap.size W w' := by
 obtain ⟨a, c, rfl, hmx⟩ := h.form
 obtain ⟨a', c', rfl, hmx'⟩ := hc.form
 have hrows := hf.rows
 have hdoors := hf.doors
 have hfew := hf.few
 have hcols := hf.cols
 have hlens : ∀ i, i < cuts.length → (getl cuts i).length = n := fun i hi => by have := hf.lens i hi; omega
 have Hcols := Lib.hid hcols; clear hcols
 have Hlens := Lib.hid hlens; clear hlens
 have Hf := Lib.hid (And.intro hf hn); clear hf hn
 obtain ⟨locks, hlocks⟩ : ∃ x, x = locksTo n t cuts (getl t 0).length := ⟨_, rfl⟩
 have hfin : falseL n t cuts = falseRows t cuts locks (getl t 0).length cuts.length := by rw [hlocks]; rfl
 rw [hfin]
 have hll : locks.length ≤ (getl t 0).length := by rw [hlocks, locksTo_len]; exact Nat.le_refl _
 have hlg : (getl t 0).length ≤ locks.length := by rw [hlocks, locksTo_len]; exact Nat.le_refl _
 have hlk : ∀ k, k < (getl t 0).length → (getll locks k).length = n := fun k hk => by rw [hlocks]; exact lock_len hk
 have Hlocks := Lib.hid hlocks; clear hlocks hfin
 have Hlk := Lib.hid hlk; clear hlk
 obtain ⟨W1, hW1, hB01, hz01, HZ01, hc01, hh01⟩ := box_facts W #[.int .i64 m.c, .int .i64 m.d, .int .i64 m.s, .int .i64 m.e, .int .i64 m.l, .slice a t.length c] 28
 have hV1 := (h.below hB01).any
 have hC1 := (hc.below hB01).any
 go_enter Tryz.func208, Tryz.ntmps208
 go_wp2_with fail
 rw [← hW1]
 refine (l15Locks_any m _ _ t cuts n _ Hf.out.1 Hf.out.2 hV1 hC1).mono ?_
 rintro e' wL ⟨lv, rfl, hLk0, hBL⟩
 rw [← Hlocks.out] at hLk0
 have hLk := hLk0.any
 have hzL := hBL.size
 have hout0 := Out2.start wL wL.heap.size (Nat.le_refl _)
 obtain ⟨la, lc, rfl, hlm⟩ := hLk.form
 have HW1 := Lib.hid hW1; clear hW1 hh01
 have Hc01 := Lib.hid hc01; clear hc01
 have HO0 := Lib.hid hout0; clear hout0 hLk0
 go_wp2_with fail
 go_loopw [6, 7, 8] (fun ou j _ wr => ∃ i : Nat, i ≤ cuts.length ∧ j = .int .i64 (i : Int) ∧ Out2 wL.heap.size wr ou (falseRows t cuts locks (getl t 0).length i) ∧ Below wL.heap.size wL wr) (fun _ j _ _ => cuts.length - (intOf j).toNat)
 case atStart => exact ⟨0, Nat.zero_le _, rfl, HO0.out, (Below.refl _ _).alloc (Nat.le_refl _) _⟩
 case round =>
  obtain ⟨i, hi, rfl, hO, hBo⟩ := hrel
  obtain ⟨wo, rfl⟩ : ∃ wo, wo = wr := ⟨_, rfl⟩
  have hzo := hBo.size
  by_cases hii : i < cuts.length
  ·have hrl := falseRows_len t cuts locks (getl t 0).length i
   have him : i * (getl t 0).length ≤ 10 * 12 := Nat.mul_le_mul (by omega) (by omega)
   have HO := Lib.hid hO; clear hO
   go_wp2_with fail
   go_loopw [6, 8] (fun ou j wr => ∃ k : Nat, k ≤ (getl t 0).length ∧ j = .int .i64 (k : Int) ∧ Out2 wL.heap.size wr ou (falseRows t cuts locks (getl t 0).length i ++ falseTo t cuts locks i k) ∧ Below wL.heap.size wL wr) (fun _ j _ => (getl t 0).length - (intOf j).toNat)
   case atStart => exact ⟨0, Nat.zero_le _, rfl, by simpa [falseTo] using HO.out, hBo⟩
   case round =>
    obtain ⟨k, hk, rfl, hO, hBn⟩ := hrel
    have hzn := hBn.size
    have hBW := hBL.trans (hBn.mono hzL)
    have hzW : W.heap.size < wr.heap.size := by omega
    have hpl := falseTo_len t cuts locks i k
    have hal : (falseRows t cuts locks (getl t 0).length i ++ falseTo t cuts locks i k).length ≤ 1000 := by rw [List.length_append]; omega
    by_cases hkk : k < (getl t 0).length
    ·have hit : i < t.length := by omega
     have hkl : k < locks.length := by omega
     have hkt : k < (getl t i).length := by rw [Hcols.out i hit]; exact hkk
     obtain ⟨b1, off1, a1, c1, rfl, _, hc1, hr1⟩ := (hC1.below hBW).cell hii
     obtain ⟨b2, off2, a2, c2, rfl, _, hc2, hr2⟩ := (hLk.below hBn).cell hkl
     obtain ⟨b3, off3, a3, c3, rfl, _, hc3, hr3⟩ := (hV1.below hBW).cell hit
     obtain ⟨b4, off4, rfl, _, hc4⟩ := hr3.cell hkt
     have hl3 := hr3.len
     unfold maxLen at hl3
     have hc5 : wr.cell? ⟨W.heap.size, 5, none⟩ = some (.slice (some ⟨b3, off3, none⟩) t.length c) := by rw [(bcell hBW).1 _ _ hz01, Hc01.out]; rfl
     obtain ⟨vs, bk, g1, g2, g3⟩ := hO
     have G := Lib.hid (And.intro g1 (And.intro g2 g3)); clear g1 g2 g3
     by_cases h1 : geti (getl t i) k = 0
     ·have e1 : (geti (getl t i) k == 0) = true := by simp [h1]
      have hlen : (getl cuts i).length ≤ (getll locks k).length := by rw [Hlk.out k hkk, Hlens.out i hii]; exact Nat.le_refl _
      cases ho : opensB (getll locks k) (getl cuts i)
      ·have hst : falseTo t cuts locks i (k + 1) = falseTo t cuts locks i k := by rw [falseTo, if_neg (by rw [ho]; simp)]
       have Hst := Lib.hid hst; clear hst
       have Ho := Lib.hid ho; clear ho
       have H1 := Lib.hid h1; clear h1
       go_wp2_with fail
       go_region_held3 (fun w' => w'.cell? ⟨W.heap.size, 5, none⟩ = some (.slice (some ⟨b3, off3, none⟩) t.length c) ∧ w'.cell? ⟨b1, off1 + i, none⟩ = some (.slice a1 (getl cuts i).length c1) ∧ w'.cell? ⟨b2, off2 + k, none⟩ = some (.slice a2 (getll locks k).length c2) ∧ w'.cell? ⟨b3, off3 + i, none⟩ = some (.slice (some ⟨b4, off4, none⟩) (getl t i).length c3) ∧ w'.cell? ⟨b4, off4 + k, none⟩ = some (.int .i64 (geti (getl t i) k)) ∧ Below wr.heap.size wr w')
        (first | exact cells5_keep (by assumption) (by assumption) | exact ⟨hc5, hc1, hc2, hc3, hc4, (Below.refl _ _).drew⟩)
        (first | (go_at_call 251; refine (l04Opens_b _ _ (getll locks k) (getl cuts i) _ _ Ho.out (hr2.below (cells5_below (by assumption))) (hr1.below (cells5_below (by assumption))) hlen).mono ?_; rintro e' wq ⟨rfl, hb⟩))
       have hb05 := cells5_below (w0 := wr) (by assumption)
       clear hc1 hc2 hc3 hc4 hc5 hr1 hr2 hr3
       go_wp2_with fail
       go_roundw
       case rel => exact ⟨k + 1, by omega, by go_num, by rw [Hst.out]; exact Out2.keep ⟨vs, bk, G.out.1, G.out.2.1, G.out.2.2⟩ hb05, hBn.trans (hb05.mono hzn)⟩
       case measure => simp [intOf]; omega
      ·have hst : falseTo t cuts locks i (k + 1) = falseTo t cuts locks i k ++ [[(i : Int), (k : Int)]] := by rw [falseTo, if_pos ⟨h1, ho⟩]
       have Hst := Lib.hid hst; clear hst
       have Ho := Lib.hid ho; clear ho
       have H1 := Lib.hid h1; clear h1
       go_wp2_with fail
       go_region_held3 (fun w' => w'.cell? ⟨W.heap.size, 5, none⟩ = some (.slice (some ⟨b3, off3, none⟩) t.length c) ∧ w'.cell? ⟨b1, off1 + i, none⟩ = some (.slice a1 (getl cuts i).length c1) ∧ w'.cell? ⟨b2, off2 + k, none⟩ = some (.slice a2 (getll locks k).length c2) ∧ w'.cell? ⟨b3, off3 + i, none⟩ = some (.slice (some ⟨b4, off4, none⟩) (getl t i).length c3) ∧ w'.cell? ⟨b4, off4 + k, none⟩ = some (.int .i64 (geti (getl t i) k)) ∧ Below wr.heap.size wr w')
        (first | exact cells5_keep (by assumption) (by assumption) | exact ⟨hc5, hc1, hc2, hc3, hc4, (Below.refl _ _).drew⟩)
        (first | (go_at_call 251; refine (l04Opens_b _ _ (getll locks k) (getl cuts i) _ _ Ho.out (hr2.below (cells5_below (by assumption))) (hr1.below (cells5_below (by assumption))) hlen).mono ?_; rintro e' wq ⟨rfl, hb⟩))
       have hb05 := cells5_below (w0 := wr) (by assumption)
       clear hc1 hc2 hc3 hc4 hc5 hr1 hr2 hr3
       have hz5 := hb05.size
       have hown5 := (own_chg G.out.1 (Chg.of_below (F := fun _ => False) hb05) (fun _ _ h => h)).alloc (.cells #[.int .i64 i, .int .i64 k] 2)
       go_wp2_with (at_builtin; refine wp_app1h (wq.alloc (.cells #[.int .i64 i, .int .i64 k] 2)) (wq.heap.size + 1) (by simp) rfl _ _ 26 rfl wL.heap.size 35 (.slice none 0 0) 24 Tryz.underlying26 inf_ints rfl u6 _ _ rfl hown5 (.slice (some ⟨wq.heap.size, 0, none⟩) 2 2) _ rfl rfl (by omega) (by omega) (by first | (simp; done) | (simp; omega)) ?_; intro v1 w1 hown1 hgrow1 hblk1 hB1)
       go_roundw
       case rel =>
        refine ⟨k + 1, by omega, by go_num, ?_, ((hBn.trans (hb05.mono hzn)).alloc (by omega) _).trans hB1⟩
        rw [Hst.out, ← List.append_assoc]
        exact Out2.push (l := [(i : Int), (k : Int)]) (b := wq.heap.size) G.out.1 G.out.2.1 G.out.2.2 (by omega) (hb05.alloc (by omega) _) (pair_X1 (Below.refl _ _)) (fun _ => by omega) hown1 hgrow1 hblk1
       case measure => simp [intOf]; omega
     ·have e1 : (geti (getl t i) k == 0) = false := by simp [h1]
      have hst : falseTo t cuts locks i (k + 1) = falseTo t cuts locks i k := by rw [falseTo, if_neg (fun h => h1 h.1)]
      have Hst := Lib.hid hst; clear hst
      have H1 := Lib.hid h1; clear h1
      go_wp2_with fail
      go_quiet (fail)
      go_wp2_with fail
      go_roundw
      case rel => exact ⟨k + 1, by omega, by go_num, by rw [Hst.out]; exact Out2.keep ⟨vs, bk, G.out.1, G.out.2.1, G.out.2.2⟩ (below_drewN (Below.refl _ _) _), below_drewN hBn _⟩
      case measure => simp [intOf]; omega
    ·obtain rfl : k = (getl t 0).length := by omega
     have hkl : ¬ (getl t 0).length < locks.length := by omega
     have hst : falseRows t cuts locks (getl t 0).length (i + 1) = falseRows t cuts locks (getl t 0).length i ++ falseTo t cuts locks i (getl t 0).length := rfl
     have Hst := Lib.hid hst; clear hst
     have HO2 := Lib.hid hO; clear hO
     go_wp2_with fail
     go_roundw
     case rel => exact ⟨i + 1, by omega, by go_num, by rw [Hst.out]; exact HO2.out, hBn⟩
     case measure => simp [intOf]; omega
  ·obtain rfl : i = cuts.length := by omega
   have hfx := hO.f2
   have Hfx := Lib.hid hfx; clear hfx
   go_wp2_with fail
   go_ret
   exact ⟨_, rfl, F2.mono Hfx.out (by omega), hB01.trans ((hBL.trans (hBo.mono hzL)).mono (by omega))⟩
theorem stepBad_succ {m : Mk} {l : List Int} {k : Nat} {q : Int} (hq : absI (geti l (k + 1) - geti l k) = q) : stepBad m l (k + 1) = decide (m.s < q) := by
 unfold stepBad
 rw [Nat.add_sub_cancel, hq]; simp
theorem stepBad_zero {m : Mk} {l : List Int} : stepBad m l 0 = false := by simp [stepBad]
theorem allB_mem {l : List Int} {lo hi : Int} (h : allB l lo hi = true) {k : Nat} (hk : k < l.length) : lo ≤ geti l k ∧ geti l k ≤ hi := allB_iff.1 h _ (geti_mem hk)
set_option maxRecDepth 100000 in
theorem keyFault_any {S : Nat → Prop} (m : Mk) (v : Value) (l : List Int) (W : World) (hm : m.ok = true) (h : V1 S W v l) :
  Calls Tryz.prog 223 #[.agg #[.int .i64 m.c, .int .i64 m.d, .int .i64 m.s, .int .i64 m.e, .int .i64 m.l], v] W fun e' w' => e' = .returned (.int .i64 (fault m l)) ∧ Below W.heap.size W w' := by
 have hV := h
 have hmk := Mk.ok_iff.1 hm
 obtain ⟨a, c, rfl, hmx⟩ := h.form
 obtain ⟨W1, hW1, hB01, hz01, HZ01, hc01, hh01⟩ := box_facts W #[.int .i64 m.c, .int .i64 m.d, .int .i64 m.s, .int .i64 m.e, .int .i64 m.l] 25
 have hV1 := hV.below hB01
 by_cases hl : (l.length : Int) = m.c
 ·have hl' : decide ((l.length : Int) = m.c) = true := decide_eq_true hl
  have e1 : ((l.length : Int) != m.c) = false := by simp [hl]
  have e2 : ((l.length : Int) == m.c) = true := by simp [hl]
  cases hb : allB l 0 (m.d - 1)
  ·have hfin : fault m l = 2 := fault2 hl hb
   have Hf := Lib.hid hfin; clear hfin
   have Hr := Lib.hid (show (decide ((l.length : Int) = m.c) && allB l 0 (m.d - 1)) = false by rw [hl', hb]; rfl)
   have Hb := Lib.hid hb; clear hb
   have Hl := Lib.hid hl; clear hl hl' hmk
   go_enter Tryz.func223, Tryz.ntmps223
   go_wp2_with fail
   rw [← hW1]
   go_wp2_with fail
   refine (areCuts_b m _ l _ _ Hr.out hm hV1).mono ?_; rintro e' w2 ⟨rfl, hb_w2⟩; have hB2 := (Below.refl W1.heap.size W1).trans (hb_w2.mono (Below.refl W1.heap.size W1).size)
   clear hc01 hh01
   go_wp2_with fail
   go_ret
   exact ⟨ret_int Hf.out.symm, hB01.trans (hB2.mono (by omega))⟩
  ·have Hr := Lib.hid (show (decide ((l.length : Int) = m.c) && allB l 0 (m.d - 1)) = true by rw [hl', hb]; rfl)
   have hrange : ∀ k, k < l.length → 0 ≤ geti l k ∧ geti l k ≤ 7 := fun k hk => by have := allB_mem hb hk; omega
   have Hrange := Lib.hid hrange; clear hrange
   have Hb := Lib.hid hb; clear hb
   have Hl := Lib.hid hl; clear hl hl'
   have hlen : 1 ≤ l.length := by have := Hl.out; omega
   have hme : 0 ≤ m.e := by omega
   clear hmk
   go_enter Tryz.func223, Tryz.ntmps223
   go_wp2_with fail
   rw [← hW1]
   go_wp2_with fail
   refine (areCuts_b m _ l _ _ Hr.out hm hV1).mono ?_; rintro e' w2 ⟨rfl, hb_w2⟩; have hB2 := (Below.refl W1.heap.size W1).trans (hb_w2.mono (Below.refl W1.heap.size W1).size)
   have hx2 : ∀ o, (w2).cell? ⟨W.heap.size, o, none⟩ = (#[.int .i64 m.c, .int .i64 m.d, .int .i64 m.s, .int .i64 m.e, .int .i64 m.l] : Array Value)[o]? := fun o => by rw [(bcell hB2).1 _ _ hz01, hc01]
   clear hc01 hh01
   have hV2 := hV1.below hB2
   go_wp2_with fail
   go_loopw [5] (fun i wr => ∃ k n : Nat, k + 1 ≤ l.length ∧ i = .int .i64 ((k + 1 : Nat) : Int) ∧ (∀ j, j ≤ k → stepBad m l j = false) ∧ wr = w2.drewN n) (fun i _ => l.length - (intOf i).toNat)
   case atStart => exact ⟨0, 0, hlen, rfl, fun j hj => by rw [show j = 0 from by omega]; exact stepBad_zero, rfl⟩
   case round =>
    obtain ⟨k, n, hk, rfl, hpre, rfl⟩ := hrel
    have Hpre := Lib.hid hpre; clear hpre
    by_cases hkk : k + 1 < l.length
    ·obtain ⟨b1, off1, rfl, _, hc1⟩ := hV2.cell hkk
     obtain ⟨b2, off2, e3, _, hc2⟩ := hV2.cell (k := k) (by omega)
     simp only [Option.some.injEq, Addr.mk.injEq, and_true] at e3
     obtain ⟨rfl, rfl⟩ := e3
     have hr1 := Hrange.out _ hkk
     have hr2 := Hrange.out k (by omega)
     obtain ⟨q, hq⟩ : ∃ q, absI (geti l (k + 1) - geti l k) = q := ⟨_, rfl⟩
     have hst := stepBad_succ (m := m) hq
     have hw : IntKind.i64.wrap (geti l (k + 1) - geti l k) = geti l (k + 1) - geti l k := IntWalk.i64_in _ (by omega)
     have Hst := Lib.hid hst; clear hst
     have Hq := Lib.hid hq; clear hq
     by_cases hbad : m.s < q
     ·have hfin : fault m l = 3 := fault3 Hl.out Hb.out (any_range_mono hkk (by rw [Hst.out]; exact decide_eq_true hbad))
      have Hf := Lib.hid hfin; clear hfin
      go_wp2_with fail
      go_quiet ((go_at_call 215; first | exact quiet_same (absolute_b _ _ _ Hq.out (by omega)) | exact quiet_same0 (absolute_b _ _ _ Hq.out (by omega))))
      go_wp2_with fail
      go_ret
      exact ⟨ret_int Hf.out.symm, by repeat' first | refine below_drewN ?_ _ | exact hB01.trans (hB2.mono (by omega))⟩
     ·have hd : decide (m.s < q) = false := decide_eq_false hbad
      go_wp2_with fail
      go_quiet ((go_at_call 215; first | exact quiet_same (absolute_b _ _ _ Hq.out (by omega)) | exact quiet_same0 (absolute_b _ _ _ Hq.out (by omega))))
      go_wp2_with fail
      go_roundw
      case rel => exact ⟨k + 1, _, by omega, by go_num, fun j hj => by
       by_cases e : j = k + 1
       ·subst e; rw [Hst.out]; exact hd
       ·exact Hpre.out j (by omega), by first | rfl | rw [World.drewN_drewN]⟩
      case measure => simp [intOf]; omega
    ·have h3 : (List.range l.length).any (stepBad m l) = false := any_range_none fun j hj => Hpre.out j (by omega)
     have H3 := Lib.hid h3; clear h3
     rw [show ((k + 1 : Nat) : Int) = (l.length : Int) from by omega]
     go_wp2_with fail
     go_loopw [6, 38] (fun _ i wr => ∃ k n : Nat, k ≤ l.length ∧ i = .int .i64 (k : Int) ∧ (∀ j, j < k → runBad m l j = false) ∧ wr = w2.drewN n) (fun _ i _ => l.length - (intOf i).toNat)
     case atStart => exact ⟨0, _, Nat.zero_le _, rfl, fun j hj => by omega, rfl⟩
     case round =>
      obtain ⟨k2, n2, hk2, rfl, hpre2, rfl⟩ := hrel
      have Hpre2 := Lib.hid hpre2; clear hpre2
      by_cases hkk2 : k2 < l.length
      ·have htk := hV2.take (n := k2 + 1) (by omega)
       have hcap := hV2.cap
       have hlt : (l.take (k2 + 1)).length = k2 + 1 := by simp; omega
       have hru : ((runAt (l.take (k2 + 1)) ((l.take (k2 + 1)).length - 1) : Nat) : Int) = (runAt l k2 : Int) := by rw [hlt, Nat.add_sub_cancel, runAt_take (by omega)]
       have hpos : 0 < (l.take (k2 + 1)).length := by omega
       have hbadd : runBad m l k2 = decide (m.e < (runAt l k2 : Int)) := rfl
       obtain ⟨r, hr⟩ : ∃ r : Int, (runAt l k2 : Int) = r := ⟨_, rfl⟩
       rw [hr] at hru hbadd
       have Hru := Lib.hid hru; clear hru
       have Hbadd := Lib.hid hbadd; clear hbadd hr
       have Hlt := Lib.hid hlt; clear hlt
       have Hpos := Lib.hid hpos; clear hpos
       by_cases hbad : m.e < r
       ·have hfin : fault m l = 4 := fault4 Hl.out Hb.out H3.out (any_range_mono hkk2 (by rw [Hbadd.out]; exact decide_eq_true hbad))
        have Hf := Lib.hid hfin; clear hfin
        go_wp2_with fail
        go_quiet ((go_at_call 216; first | exact quiet_at (sameRun_b _ _ _ _ Hru.out (V1.drewN htk) Hpos.out) | exact quiet_at0 (sameRun_b _ _ _ _ Hru.out (V1.drewN htk) Hpos.out)))
        go_wp2_with fail
        go_ret
        exact ⟨ret_int Hf.out.symm, by repeat' first | refine below_drewN ?_ _ | exact hB01.trans (hB2.mono (by omega))⟩
       ·have hd : decide (m.e < r) = false := decide_eq_false hbad
        go_wp2_with fail
        go_quiet ((go_at_call 216; first | exact quiet_at (sameRun_b _ _ _ _ Hru.out (V1.drewN htk) Hpos.out) | exact quiet_at0 (sameRun_b _ _ _ _ Hru.out (V1.drewN htk) Hpos.out)))
        go_wp2_with fail
        go_roundw
        case rel => exact ⟨k2 + 1, _, by omega, by go_num, fun j hj => by
         by_cases e : j = k2
         ·subst e; rw [Hbadd.out]; exact hd
         ·exact Hpre2.out j (by omega), by first | rfl | rw [World.drewN_drewN]⟩
        case measure => simp [intOf]; omega
      ·have h4 : (List.range l.length).any (runBad m l) = false := any_range_none fun j hj => Hpre2.out j (by omega)
       by_cases h5 : (kinds l : Int) < m.l
       ·have hfin : fault m l = 5 := fault5 Hl.out Hb.out H3.out h4 h5
        have Hf := Lib.hid hfin; clear hfin h4
        go_wp2_with fail
        go_quiet ((go_at_call 214; first | exact quiet_same (different_any _ _ _ (V1.drewN hV2)) | exact quiet_same0 (different_any _ _ _ (V1.drewN hV2))))
        go_wp2_with fail
        go_ret
        exact ⟨ret_int Hf.out.symm, by repeat' first | refine below_drewN ?_ _ | exact hB01.trans (hB2.mono (by omega))⟩
       ·have hfin : fault m l = 0 := fault0 Hl.out Hb.out H3.out h4 h5
        have Hf := Lib.hid hfin; clear hfin h4
        have hd : decide ((kinds l : Int) < m.l) = false := decide_eq_false h5
        go_wp2_with fail
        go_quiet ((go_at_call 214; first | exact quiet_same (different_any _ _ _ (V1.drewN hV2)) | exact quiet_same0 (different_any _ _ _ (V1.drewN hV2))))
        go_wp2_with fail
        go_ret
        exact ⟨ret_int Hf.out.symm, by repeat' first | refine below_drewN ?_ _ | exact hB01.trans (hB2.mono (by omega))⟩
 ·have hfin : fault m l = 1 := fault1 hl
  have e1 : ((l.length : Int) != m.c) = true := by simp [hl]
  have Hf := Lib.hid hfin; clear hfin
  have Hl := Lib.hid hl; clear hl hmk
  go_enter Tryz.func223, Tryz.ntmps223
  go_wp2_with fail
  rw [← hW1]
  go_wp2_with fail
  go_ret
  exact ⟨ret_int Hf.out.symm, hB01⟩
theorem isKey_any {S : Nat → Prop} (m : Mk) (v : Value) (l : List Int) (W : World) (hm : m.ok = true) (h : V1 S W v l) :
  Calls Tryz.prog 127 #[.agg #[.int .i64 m.c, .int .i64 m.d, .int .i64 m.s, .int .i64 m.e, .int .i64 m.l], v] W fun e' w' => e' = .returned (.bool (isKeyB m l)) ∧ Below W.heap.size W w' := by
 have hV := h
 obtain ⟨a, c, rfl, hmx⟩ := h.form
 have hk : isKeyB m l = (fault m l == 0) := by unfold isKeyB; by_cases h0 : fault m l = 0 <;> simp [h0]
 have Hk := Lib.hid hk; clear hk
 obtain ⟨W1, hW1, hB01, hz01, HZ01, hc01, hh01⟩ := box_facts W #[.int .i64 m.c, .int .i64 m.d, .int .i64 m.s, .int .i64 m.e, .int .i64 m.l] 25
 go_enter Tryz.func127, Tryz.ntmps127
 go_wp2_with fail
 rw [← hW1]
 go_wp2_with fail
 refine (keyFault_any m _ l _ hm (hV.below hB01)).mono ?_; rintro e' w2 ⟨rfl, hb_w2⟩; have hB2 := (Below.refl W1.heap.size W1).trans (hb_w2.mono (Below.refl W1.heap.size W1).size)
 clear hc01 hh01
 go_wp2_with fail
 go_ret
 exact ⟨ret_bool (by rw [Hk.out]), hB01.trans (hB2.mono (by omega))⟩
theorem isKey_b {S : Nat → Prop} (m : Mk) (v : Value) (l : List Int) (W : World) (r : Bool) (hr : isKeyB m l = r) (hm : m.ok = true) (h : V1 S W v l) :
  Calls Tryz.prog 127 #[.agg #[.int .i64 m.c, .int .i64 m.d, .int .i64 m.s, .int .i64 m.e, .int .i64 m.l], v] W fun e' w' => e' = .returned (.bool r) ∧ Below W.heap.size W w' := by subst hr; exact isKey_any m v l W hm h
theorem l02Cuts_any {S : Nat → Prop} (m : Mk) (v : Value) (l : List Int) (W : World) (hm : m.ok = true) (h : V1 S W v l) :
  Calls Tryz.prog 282 #[.agg #[.int .i64 m.c, .int .i64 m.d, .int .i64 m.s, .int .i64 m.e, .int .i64 m.l], v] W fun e' w' => e' = .returned (.bool (allB l 0 (m.d - 1) && decide ((l.length : Int) = m.c))) ∧ Below W.heap.size W w' := by
 have hV := h
 obtain ⟨hd1, hd2⟩ := (Mk.ok_iff.1 hm).2.1
 clear hm
 obtain ⟨a, c, rfl, hmx⟩ := h.form
 obtain ⟨mc, md, ms, me, ml⟩ := m
 simp only at hd1 hd2
 have hw : IntKind.i64.wrap (md - 1) = md - 1 := IntWalk.i64_in _ (by omega)
 obtain ⟨W1, hW1, hB01, hz01, HZ01, hc01, hh01⟩ := box_facts W #[.int .i64 mc, .int .i64 md, .int .i64 ms, .int .i64 me, .int .i64 ml] 25
 have hV1 := hV.below hB01
 go_enter Tryz.func282, Tryz.ntmps282
 go_wp2_with fail
 rw [← hW1]
 have HW1 := Lib.hid hW1; clear hW1
 clear hh01
 go_wp2_with fail
 go_loopw [5] (fun i wr => ∃ k n : Nat, k ≤ l.length ∧ i = .int .i64 k ∧ allB l 0 (md - 1) = allB (l.drop k) 0 (md - 1) ∧ wr = W1.drewN n) (fun i _ => l.length - (intOf i).toNat)
 case atStart => exact ⟨0, 0, Nat.zero_le _, rfl, rfl, rfl⟩
 case round =>
  obtain ⟨k, n, hk, rfl, hrem, rfl⟩ := hrel
  have Hr := Lib.hid hrem; clear hrem
  by_cases hkk : k < l.length
  ·obtain ⟨b1, off1, rfl, _, hc1⟩ := hV1.cell hkk
   cases hin : inB (geti l k) 0 (md - 1)
   ·have E1 := Lib.hid hin; clear hin
    go_wp2_with fail
    go_quiet ((go_at_call 103; first | exact quiet_same (l01In_b _ _ _ _ _ E1.out) | exact quiet_same0 (l01In_b _ _ _ _ _ E1.out)))
    go_wp2_with fail
    go_ret
    exact ⟨ret_bool (by rw [Hr.out, allB_step hkk, E1.out]; rfl), by repeat' first | refine below_drewN ?_ _ | exact hB01⟩
   ·have E1 := Lib.hid hin; clear hin
    go_wp2_with fail
    go_quiet ((go_at_call 103; first | exact quiet_same (l01In_b _ _ _ _ _ E1.out) | exact quiet_same0 (l01In_b _ _ _ _ _ E1.out)))
    go_wp2_with fail
    go_roundw
    case rel => exact ⟨k + 1, _, by omega, by go_num, by rw [Hr.out, allB_step hkk, E1.out]; rfl, by first | rfl | rw [World.drewN_drewN]⟩
    case measure => simp [intOf]; omega
  ·have hd : l.drop k = [] := List.drop_of_length_le (by omega)
   have Hd := Lib.hid hd; clear hd
   by_cases hl : (l.length : Int) = mc
   ·subst hl
    go_wp2_with fail
    go_ret
    exact ⟨ret_bool (by rw [Hr.out, Hd.out]; simp [allB]), by repeat' first | refine below_drewN ?_ _ | exact hB01⟩
   ·have e1 : ((l.length : Int) == mc) = false := by simp [hl]
    have Hl := Lib.hid hl; clear hl
    go_wp2_with fail
    go_ret
    exact ⟨ret_bool (by rw [decide_eq_false Hl.out]; simp), by repeat' first | refine below_drewN ?_ _ | exact hB01⟩
theorem l02Cuts_b {S : Nat → Prop} (m : Mk) (v : Value) (l : List Int) (W : World) (r : Bool) (hr : (allB l 0 (m.d - 1) && decide ((l.length : Int) = m.c)) = r) (hm : m.ok = true) (h : V1 S W v l) :
  Calls Tryz.prog 282 #[.agg #[.int .i64 m.c, .int .i64 m.d, .int .i64 m.s, .int .i64 m.e, .int .i64 m.l], v] W fun e' w' => e' = .returned (.bool r) ∧ Below W.heap.size W w' := by subst hr; exact l02Cuts_any m v l W hm h
/-- What the reference's loop holds: the last run, and the longest one. -/
def lastRun (l : List Int) : Nat → Nat
 | 0 => 0
 | k + 1 => runAt l k
theorem lastRun_le (l : List Int) : ∀ k, lastRun l k ≤ k
 | 0 => Nat.le_refl _
 | k + 1 => runAt_le l k
theorem runAt_last {l : List Int} {k : Nat} (h : k = 0 ∨ geti l k = geti l (k - 1)) : runAt l k = lastRun l k + 1 := by
 cases k with
 | zero => rfl
 | succ k =>
   rcases h with h | h
   ·cases h
   ·rw [Nat.add_sub_cancel] at h
    rw [runAt, if_pos h]; rfl
theorem runAt_new {l : List Int} {k : Nat} (h0 : 0 < k) (h : geti l k ≠ geti l (k - 1)) : runAt l k = 1 := by
 cases k with
 | zero => omega
 | succ k => rw [Nat.add_sub_cancel] at h; rw [runAt, if_neg h]
set_option maxRecDepth 100000 in
theorem l02Fault_any {S : Nat → Prop} (m : Mk) (v : Value) (l : List Int) (W : World) (hm : m.ok = true) (h : V1 S W v l) :
  Calls Tryz.prog 257 #[.agg #[.int .i64 m.c, .int .i64 m.d, .int .i64 m.s, .int .i64 m.e, .int .i64 m.l], v] W fun e' w' => e' = .returned (.int .i64 (fault m l)) ∧ Below W.heap.size W w' := by
 have hV := h
 have hmk := Mk.ok_iff.1 hm
 obtain ⟨a, c, rfl, hmx⟩ := h.form
 obtain ⟨W1, hW1, hB01, hz01, HZ01, hc01, hh01⟩ := box_facts W #[.int .i64 m.c, .int .i64 m.d, .int .i64 m.s, .int .i64 m.e, .int .i64 m.l] 25
 have hV1 := hV.below hB01
 by_cases hl : (l.length : Int) = m.c
 ·have hl' : decide ((l.length : Int) = m.c) = true := decide_eq_true hl
  have e1 : ((l.length : Int) != m.c) = false := by simp [hl]
  have e2 : ((l.length : Int) == m.c) = true := by simp [hl]
  cases hb : allB l 0 (m.d - 1)
  ·have hfin : fault m l = 2 := fault2 hl hb
   have Hf := Lib.hid hfin; clear hfin
   have Hr := Lib.hid (show (allB l 0 (m.d - 1) && decide ((l.length : Int) = m.c)) = false by rw [hl', hb]; rfl)
   have Hb := Lib.hid hb; clear hb
   have Hl := Lib.hid hl; clear hl hl' hmk
   go_enter Tryz.func257, Tryz.ntmps257
   go_wp2_with fail
   rw [← hW1]
   go_wp2_with fail
   refine (l02Cuts_b m _ l _ _ Hr.out hm hV1).mono ?_; rintro e' w2 ⟨rfl, hb_w2⟩; have hB2 := (Below.refl W1.heap.size W1).trans (hb_w2.mono (Below.refl W1.heap.size W1).size)
   clear hc01 hh01
   go_wp2_with fail
   go_ret
   exact ⟨ret_int Hf.out.symm, hB01.trans (hB2.mono (by omega))⟩
  ·have Hr := Lib.hid (show (allB l 0 (m.d - 1) && decide ((l.length : Int) = m.c)) = true by rw [hl', hb]; rfl)
   have hrange : ∀ k, k < l.length → 0 ≤ geti l k ∧ geti l k ≤ 7 := fun k hk => by have := allB_mem hb hk; omega
   have Hrange := Lib.hid hrange; clear hrange
   have Hb := Lib.hid hb; clear hb
   have Hl := Lib.hid hl; clear hl hl'
   have hlen : 1 ≤ l.length ∧ l.length ≤ 6 := by have := Hl.out; omega
   have hme : 0 ≤ m.e := by omega
   clear hmk
   go_enter Tryz.func257, Tryz.ntmps257
   go_wp2_with fail
   rw [← hW1]
   go_wp2_with fail
   refine (l02Cuts_b m _ l _ _ Hr.out hm hV1).mono ?_; rintro e' w2 ⟨rfl, hb_w2⟩; have hB2 := (Below.refl W1.heap.size W1).trans (hb_w2.mono (Below.refl W1.heap.size W1).size)
   have hx2 : ∀ o, (w2).cell? ⟨W.heap.size, o, none⟩ = (#[.int .i64 m.c, .int .i64 m.d, .int .i64 m.s, .int .i64 m.e, .int .i64 m.l] : Array Value)[o]? := fun o => by rw [(bcell hB2).1 _ _ hz01, hc01]
   clear hc01 hh01
   have hV2 := hV1.below hB2
   go_wp2_with fail
   go_loopw [5, 6, 7] (fun ru mo i wr => ∃ k n : Nat, k ≤ l.length ∧ i = .int .i64 (k : Int) ∧ ru = .int .i64 (lastRun l k : Int) ∧ mo = .int .i64 (mostRun l k : Int) ∧ (∀ j, j < k → stepBad m l j = false) ∧ wr = w2.drewN n) (fun _ _ i _ => l.length - (intOf i).toNat)
   case atStart => exact ⟨0, 0, Nat.zero_le _, rfl, rfl, rfl, fun j hj => by omega, rfl⟩
   case round =>
    obtain ⟨k, n, hk, rfl, rfl, rfl, hpre, rfl⟩ := hrel
    have Hpre := Lib.hid hpre; clear hpre
    have hlr := lastRun_le l k
    have hmr := mostRun_le l k
    by_cases hkk : k < l.length
    ·obtain ⟨b1, off1, rfl, _, hc1⟩ := hV2.cell hkk
     have hr1 := Hrange.out _ hkk
     have hms : mostRun l (k + 1) = max (mostRun l k) (runAt l k) := rfl
     by_cases h0 : k = 0
     ·have hst : stepBad m l k = false := by rw [h0]; exact stepBad_zero
      have hru : runAt l k = lastRun l k + 1 := runAt_last (.inl h0)
      have hd : decide (0 < k) = false := by simp [h0]
      have Hst := Lib.hid hst; clear hst
      have Hru := Lib.hid hru; clear hru
      have Hms := Lib.hid hms; clear hms
      have H0 := Lib.hid h0; clear h0
      generalize hLR : lastRun l k = lr at *
      generalize hMR : mostRun l k = mr at *
      have HLR := Lib.hid hLR; clear hLR
      have HMR := Lib.hid hMR; clear hMR
      go_wp2_with fail
      go_quiet (fail)
      go_wp2_with fail
      go_quiet (fail)
      go_wp2_with fail
      all_goals
       go_roundw
       case rel => exact ⟨k + 1, _, by omega, by go_num, by rw [show lastRun l (k + 1) = runAt l k from rfl, Hru.out]; go_num, by rw [Hms.out, Hru.out]; go_num, fun j hj => by
        by_cases e : j = k
        ·subst e; exact Hst.out
        ·exact Hpre.out j (by omega), by first | rfl | simp only [World.drewN_drewN]⟩
       case measure => simp [intOf]; omega
     ·have h1 : 0 < k := by omega
      obtain ⟨b2, off2, e3, _, hc2⟩ := hV2.cell (k := k - 1) (by omega)
      simp only [Option.some.injEq, Addr.mk.injEq, and_true] at e3
      obtain ⟨rfl, rfl⟩ := e3
      have hr2 := Hrange.out (k - 1) (by omega)
      obtain ⟨q, hq⟩ : ∃ q, absI (geti l k - geti l (k - 1)) = q := ⟨_, rfl⟩
      have hst : stepBad m l k = decide (m.s < q) := by unfold stepBad; rw [hq]; simp [h1]
      have hw : IntKind.i64.wrap (geti l k - geti l (k - 1)) = geti l k - geti l (k - 1) := IntWalk.i64_in _ (by omega)
      have Hst := Lib.hid hst; clear hst
      have Hq := Lib.hid hq; clear hq
      have Hms := Lib.hid hms; clear hms
      by_cases hbad : m.s < q
      ·have hfin : fault m l = 3 := fault3 Hl.out Hb.out (any_range_mono hkk (by rw [Hst.out]; exact decide_eq_true hbad))
       have Hf := Lib.hid hfin; clear hfin
       clear h0
       go_wp2_with fail
       go_quiet ((go_at_call 266; first | exact quiet_same (l01Abs_b _ _ _ Hq.out (by omega)) | exact quiet_same0 (l01Abs_b _ _ _ Hq.out (by omega))))
       go_wp2_with fail
       go_ret
       exact ⟨ret_int Hf.out.symm, by repeat' first | refine below_drewN ?_ _ | exact hB01.trans (hB2.mono (by omega))⟩
      ·have hd : decide (m.s < q) = false := decide_eq_false hbad
       have Hbad := Lib.hid hd
       by_cases he : geti l k = geti l (k - 1)
       ·have e4 : (geti l k != geti l (k - 1)) = false := by simp [he]
        have hru : runAt l k = lastRun l k + 1 := runAt_last (.inr he)
        have Hru := Lib.hid hru; clear hru
        have He := Lib.hid he; clear he h0
        generalize hLR : lastRun l k = lr at *
        generalize hMR : mostRun l k = mr at *
        have HLR := Lib.hid hLR; clear hLR
        have HMR := Lib.hid hMR; clear hMR
        go_wp2_with fail
        go_quiet ((go_at_call 266; first | exact quiet_same (l01Abs_b _ _ _ Hq.out (by omega)) | exact quiet_same0 (l01Abs_b _ _ _ Hq.out (by omega))))
        go_wp2_with fail
        go_quiet (fail)
        go_wp2_with fail
        all_goals
         go_roundw
         case rel => exact ⟨k + 1, _, by omega, by go_num, by rw [show lastRun l (k + 1) = runAt l k from rfl, Hru.out]; go_num, by rw [Hms.out, Hru.out]; go_num, fun j hj => by
          by_cases e : j = k
          ·subst e; rw [Hst.out]; exact Hbad.out
          ·exact Hpre.out j (by omega), by first | rfl | simp only [World.drewN_drewN]⟩
         case measure => simp [intOf]; omega
       ·have e4 : (geti l k != geti l (k - 1)) = true := by simp [he]
        have hru : runAt l k = 1 := runAt_new h1 he
        have Hru := Lib.hid hru; clear hru
        have He := Lib.hid he; clear he h0
        generalize hLR : lastRun l k = lr at *
        generalize hMR : mostRun l k = mr at *
        have HLR := Lib.hid hLR; clear hLR
        have HMR := Lib.hid hMR; clear hMR
        go_wp2_with fail
        go_quiet ((go_at_call 266; first | exact quiet_same (l01Abs_b _ _ _ Hq.out (by omega)) | exact quiet_same0 (l01Abs_b _ _ _ Hq.out (by omega))))
        go_wp2_with fail
        go_quiet (fail)
        go_wp2_with fail
        all_goals
         go_roundw
         case rel => exact ⟨k + 1, _, by omega, by go_num, by rw [show lastRun l (k + 1) = runAt l k from rfl, Hru.out]; rfl, by rw [Hms.out, Hru.out]; go_num, fun j hj => by
          by_cases e : j = k
          ·subst e; rw [Hst.out]; exact Hbad.out
          ·exact Hpre.out j (by omega), by first | rfl | simp only [World.drewN_drewN]⟩
         case measure => simp [intOf]; omega
    ·obtain rfl : k = l.length := by omega
     have h3 : (List.range l.length).any (stepBad m l) = false := any_range_none fun j hj => Hpre.out j (by omega)
     have hmb := mostRun_bad (m := m) (l := l) l.length hme
     by_cases h4 : m.e < (mostRun l l.length : Int)
     ·have hfin : fault m l = 4 := fault4 Hl.out Hb.out h3 (hmb.1 h4)
      have Hf := Lib.hid hfin; clear hfin h3 hmb
      generalize hLR : lastRun l l.length = lr at *
      generalize hMR : mostRun l l.length = mr at *
      have HLR := Lib.hid hLR; clear hLR
      have HMR := Lib.hid hMR; clear hMR
      go_wp2_with fail
      go_ret
      exact ⟨ret_int Hf.out.symm, by repeat' first | refine below_drewN ?_ _ | exact hB01.trans (hB2.mono (by omega))⟩
     ·have h4' : (List.range l.length).any (runBad m l) = false := by
       rw [← Bool.not_eq_true, ← hmb]; exact h4
      have hd4 : decide (m.e < (mostRun l l.length : Int)) = false := decide_eq_false h4
      by_cases h5 : (kinds l : Int) < m.l
      ·have hfin : fault m l = 5 := fault5 Hl.out Hb.out h3 h4' h5
       have Hf := Lib.hid hfin; clear hfin h3 h4' hmb
       generalize hLR : lastRun l l.length = lr at *
       generalize hMR : mostRun l l.length = mr at *
       have HLR := Lib.hid hLR; clear hLR
       have HMR := Lib.hid hMR; clear hMR
       go_wp2_with fail
       go_quiet ((go_at_call 221; first | exact quiet_at (l02Kinds_q _ _ _ (V1.drewN hV2)) | exact quiet_at0 (l02Kinds_q _ _ _ (V1.drewN hV2))))
       go_wp2_with fail
       go_ret
       exact ⟨ret_int Hf.out.symm, by repeat' first | refine below_drewN ?_ _ | exact hB01.trans (hB2.mono (by omega))⟩
      ·have hfin : fault m l = 0 := fault0 Hl.out Hb.out h3 h4' h5
       have hd : decide ((kinds l : Int) < m.l) = false := decide_eq_false h5
       have Hf := Lib.hid hfin; clear hfin h3 h4' hmb
       generalize hLR : lastRun l l.length = lr at *
       generalize hMR : mostRun l l.length = mr at *
       have HLR := Lib.hid hLR; clear hLR
       have HMR := Lib.hid hMR; clear hMR
       go_wp2_with fail
       go_quiet ((go_at_call 221; first | exact quiet_at (l02Kinds_q _ _ _ (V1.drewN hV2)) | exact quiet_at0 (l02Kinds_q _ _ _ (V1.drewN hV2))))
       go_wp2_with fail
       go_ret
       exact ⟨ret_int Hf.out.symm, by repeat' first | refine below_drewN ?_ _ | exact hB01.trans (hB2.mono (by omega))⟩
 ·have hfin : fault m l = 1 := fault1 hl
  have e1 : ((l.length : Int) != m.c) = true := by simp [hl]
  have Hf := Lib.hid hfin; clear hfin
  have Hl := Lib.hid hl; clear hl hmk
  go_enter Tryz.func257, Tryz.ntmps257
  go_wp2_with fail
  rw [← hW1]
  go_wp2_with fail
  go_ret
  exact ⟨ret_int Hf.out.symm, hB01⟩
end Go.Proofs.YtmaefilliggjiaaGreat
