/- The false openings of partial cuts, as the program finds them. No conditions. -/
import Derived.Deep.RegionHeld3
import Derived.StillTailTactics
import Derived.Test.YtbekpololmahoaaGreatDoorMShelf0
import Derived.Test.YtbekpololmahoaaGreatDoorMStops
namespace Go.Proofs.YtbekpololmahoaaGreatDoor
open Go.RowKit
set_option linter.unusedVariables false
set_option linter.unusedSimpArgs false
/-- The false openings of row i among the first k doors. -/
def falseTo (t cuts : List (List Int)) (locks : List (List (List Int))) (i : Nat) : Nat → List (List Int)
 | 0 => []
 | k + 1 => if geti (getl t i) k = 0 ∧ opensB (getll locks k) (getl cuts i) = true then falseTo t cuts locks i k ++ [[(i : Int), (k : Int)]] else falseTo t cuts locks i k
/-- Those of the first i rows, at D doors. -/
def falseRows (t cuts : List (List Int)) (locks : List (List (List Int))) (D : Nat) : Nat → List (List Int)
 | 0 => []
 | i + 1 => falseRows t cuts locks D i ++ falseTo t cuts locks i D
def falseL (n : Nat) (t cuts : List (List Int)) : List (List Int) := falseRows t cuts (locksTo n t cuts (getl t 0).length) (getl t 0).length cuts.length
theorem falseTo_len (t cuts : List (List Int)) (locks : List (List (List Int))) (i : Nat) : ∀ k, (falseTo t cuts locks i k).length ≤ k
 | 0 => Nat.le_refl _
 | k + 1 => by have := falseTo_len t cuts locks i k; unfold falseTo; split <;> simp <;> omega
theorem falseRows_len (t cuts : List (List Int)) (locks : List (List (List Int))) (D : Nat) : ∀ i, (falseRows t cuts locks D i).length ≤ i * D
 | 0 => by simp [falseRows]
 | i + 1 => by have := falseRows_len t cuts locks D i; have := falseTo_len t cuts locks i D; rw [falseRows, List.length_append, Nat.succ_mul]; omega
theorem mem_falseTo {t cuts : List (List Int)} {locks : List (List (List Int))} {i : Nat} {x : List Int} : ∀ {k}, x ∈ falseTo t cuts locks i k ↔ ∃ d : Nat, d < k ∧ x = [(i : Int), (d : Int)] ∧ geti (getl t i) d = 0 ∧ opensB (getll locks d) (getl cuts i) = true
 | 0 => by simp [falseTo]
 | k + 1 => by
   unfold falseTo
   split
   ·rename_i h
    rw [List.mem_append, mem_falseTo]
    constructor
    ·rintro (⟨d, h1, h2⟩ | h1)
     ·exact ⟨d, by omega, h2⟩
     ·exact ⟨k, by omega, List.mem_singleton.1 h1, h⟩
    ·rintro ⟨d, h1, h2, h3⟩
     by_cases e : d = k
     ·subst e; right; exact List.mem_singleton.2 h2
     ·exact .inl ⟨d, by omega, h2, h3⟩
   ·rename_i h
    rw [mem_falseTo]
    constructor
    ·rintro ⟨d, h1, h2⟩; exact ⟨d, by omega, h2⟩
    ·rintro ⟨d, h1, h2, h3⟩
     refine ⟨d, ?_, h2, h3⟩
     by_cases e : d = k
     ·subst e; exact absurd h3 h
     ·omega
theorem mem_falseRows {t cuts : List (List Int)} {locks : List (List (List Int))} {D : Nat} {x : List Int} : ∀ {r}, x ∈ falseRows t cuts locks D r ↔ ∃ i d : Nat, i < r ∧ d < D ∧ x = [(i : Int), (d : Int)] ∧ geti (getl t i) d = 0 ∧ opensB (getll locks d) (getl cuts i) = true
 | 0 => by simp [falseRows]
 | r + 1 => by
   rw [falseRows, List.mem_append, mem_falseRows, mem_falseTo]
   constructor
   ·rintro (⟨i, d, h1, h2⟩ | ⟨d, h1, h2⟩)
    ·exact ⟨i, d, by omega, h2⟩
    ·exact ⟨r, d, by omega, h1, h2⟩
   ·rintro ⟨i, d, h1, h2, h3⟩
    by_cases e : i = r
    ·subst e; exact .inr ⟨d, h2, h3⟩
    ·exact .inl ⟨i, d, by omega, h2, h3⟩
/-- wp_app1 where the size of the heap is spelled otherwise. -/
theorem wp_app1h {P : Program} (w0 : World) (H : Nat) (hH : w0.heap.size = H) {ops : Array Oper} {rest : List Oper} {o : Oper} {a : Act} {Q : Exit → Act → World → Prop} (hgd : o.guard = none) (s x : Operand) (t : TypeId)
  (ho : o.op = .call { callee := .builtin .append, args := #[s, x], argTypes := #[t, t] })
  (base : Nat) (e : TypeId) (z : Value) (bytes : Nat) (ht : P.underlying t = some (.slice e)) (h2 : (P.info? e).map (fun i => (i.zero, i.size, i.bytes)) = some (some z, 1, bytes)) (hzs : z.cells.size = 1)
  (v : Value) (n : Nat) (xs : List Value) (hs : a.eval s = v) (hown : w0.ownsRow base e 1 v n xs) (nv : Value) (e2 : TypeId) (hx : a.eval x = .slice (some ⟨H, 0, none⟩) 1 1) (hone : nv.oneCell' = true)
  (hn : n + 1 ≤ 1000000000) (hby : bytes ≤ 1000) (hbase : base ≤ w0.heap.size)
  (h : ∀ v' w', w'.ownsRow base e 1 v' (n + 1) (xs ++ [nv]) → w0.grownBy w' v.ownBlock → (v'.ownBlock = v.ownBlock ∨ ∃ g, v'.ownBlock = some g ∧ w0.heap.size ≤ g) → Below base w0 w' → wpList P ops Q rest (a.put o.dst v') w') :
  wpList P ops Q (o :: rest) a (w0.alloc (.cells #[nv] e2)) := by
 subst hH
 exact wp_app1 w0 hgd s x t ho base e z bytes ht h2 hzs v n xs hs hown nv e2 hx hone hn hby hbase h
theorem lock_len {n : Nat} {t cuts : List (List Int)} {D k : Nat} (h : k < D) : (getll (locksTo n t cuts D) k).length = n := by
 rw [locksTo_get h, lockR, hullR_len]
theorem pair_X1 {w w1 : World} {x y : Int} {T : TypeId} (hb : Below (w.alloc (.cells #[.int .i64 x, .int .i64 y] T)).heap.size (w.alloc (.cells #[.int .i64 x, .int .i64 y] T)) w1) : X1 w1 (.slice (some ⟨w.heap.size, 0, none⟩) 2 2) [x, y] w.heap.size := by
 refine ⟨_, 2, rfl, Nat.le_refl _, by unfold maxLen; omega, fun _ => ⟨0, #[.int .i64 x, .int .i64 y], T, rfl, ?_, fun k hk => ?_⟩⟩
 ·rw [hb.block _ (by simp)]; exact heap_alloc_self _ _
 ·have : k < 2 := by simpa using hk
  rcases k with _ | _ | k
  ·rfl
  ·rfl
  ·omega
/-- The locks lie between two sizes of the heap; what is being made lies elsewhere. -/
def LkAt (s1 s2 : Nat) (ou : Value) (w : World) (lv : Value) (locks : List (List (List Int))) : Prop :=
 V3 (fun b => s1 < b ∧ b < s2) w lv locks ∧ (∀ g, ou.ownBlock = some g → g = s1 ∨ s2 ≤ g) ∧ s2 ≤ w.heap.size
theorem LkAt.below {s1 s2 : Nat} {ou : Value} {w w' : World} {lv : Value} {locks : List (List (List Int))} (h : LkAt s1 s2 ou w lv locks) (hb : Below w.heap.size w w') : LkAt s1 s2 ou w' lv locks :=
 ⟨h.1.below hb, h.2.1, Nat.le_trans h.2.2 hb.size⟩
theorem LkAt.grown {s1 s2 : Nat} {ou ou' : Value} {w w' : World} {lv : Value} {locks : List (List (List Int))} (h : LkAt s1 s2 ou w lv locks) (hg : w.grownBy w' ou.ownBlock) (hblk : ou'.ownBlock = ou.ownBlock ∨ ∃ g, ou'.ownBlock = some g ∧ w.heap.size ≤ g) : LkAt s1 s2 ou' w' lv locks := by
 obtain ⟨h1, h2, h3⟩ := h
 refine ⟨h1.mono (fun _ h _ => h) (grow_keep hg fun g hgg hS => ?_), fun g hgg => ?_, Nat.le_trans h3 hg.size⟩
 ·have := hS.1; have := hS.2; rcases h2 g hgg with e | e <;> omega
 ·rcases hblk with e | ⟨g', e, hge⟩
  ·exact h2 g (e.symm.trans hgg)
  ·rw [hgg] at e; cases e; right; omega
set_option maxRecDepth 100000 in
set_option maxHeartbeats 2000000 in
theorem partFaults_any {S S' : Nat → Prop} (m : Mk) (u v : Value) (t cuts : List (List Int)) (n : Nat) (W : World) (hf : Fits m t cuts) (hn : (n : Int) = m.c) (h : V2 S W u t) (hc : V2 S' W v cuts) :
  Calls Tryz.prog 56 #[.agg #[.int .i64 m.c, .int .i64 m.d, .int .i64 m.s, .int .i64 m.e, .int .i64 m.l, u], v] W fun e' w' => ∃ v', e' = .returned v' ∧ F2 W.heap.size w' v' (falseL n t cuts) ∧ Below W.heap.size W w' := by
 obtain ⟨a, c, rfl, hmx⟩ := h.form
 obtain ⟨a', c', rfl, hmx'⟩ := hc.form
 have hrows := hf.rows
 have hdoors := hf.doors
 have hfew := hf.few
 have hcols := hf.cols
 have hlens : ∀ i, i < cuts.length → (getl cuts i).length = n := fun i hi => by have := hf.lens i hi; omega
 have Hcols := Lib.hid hcols; clear hcols
 have Hlens := Lib.hid hlens; clear hlens
 have Hf := Lib.hid (And.intro hf hn); clear hf hn
 obtain ⟨locks, hlocks⟩ : ∃ x, x = locksTo n t cuts (getl t 0).length := ⟨_, rfl⟩
 have hfin : falseL n t cuts = falseRows t cuts locks (getl t 0).length cuts.length := by rw [hlocks]; rfl
 rw [hfin]
 have hll : locks.length ≤ (getl t 0).length := by rw [hlocks, locksTo_len]; exact Nat.le_refl _
 have hlg : (getl t 0).length ≤ locks.length := by rw [hlocks, locksTo_len]; exact Nat.le_refl _
 have hlk : ∀ k, k < (getl t 0).length → (getll locks k).length = n := fun k hk => by rw [hlocks]; exact lock_len hk
 have Hlocks := Lib.hid hlocks; clear hlocks hfin
 have Hlk := Lib.hid hlk; clear hlk
 obtain ⟨W1, hW1, hB01, hz01, HZ01, hc01, hh01⟩ := box_facts W #[.int .i64 m.c, .int .i64 m.d, .int .i64 m.s, .int .i64 m.e, .int .i64 m.l, .slice a t.length c] 35
 have hV1 := (h.below hB01).any
 have hC1 := (hc.below hB01).any
 have hout0 := Out2.start W1 W1.heap.size (Nat.le_refl _)
 have Hout0 := Lib.hid hout0; clear hout0
 go_enter Tryz.func56, Tryz.ntmps56
 go_wp2_with fail
 rw [← hW1, show W.heap.size + 1 = W1.heap.size from HZ01.out.symm]
 have hbA : Below W1.heap.size W1 (W1.alloc (.cells #[] 57)) := (Below.refl _ _).alloc (Nat.le_refl _) _
 refine (partLocks_any m _ _ t cuts n _ Hf.out.1 Hf.out.2 (hV1.below hbA) (hC1.below hbA)).mono ?_
 rintro e' wL ⟨lv, rfl, hLk0, hbL⟩
 rw [← Hlocks.out] at hLk0
 have hLk1 : LkAt W1.heap.size wL.heap.size (.slice (some ⟨W1.heap.size, 0, none⟩) 0 0) wL lv locks := ⟨hLk0.mono (fun b h1 h2 => ⟨by simp at h1; omega, h2⟩) (fun _ _ _ => rfl), fun g hg => .inl (by cases hg; rfl), Nat.le_refl _⟩
 have hBL := hbA.trans (hbL.mono (by simp))
 have hzL := hBL.size
 have hO0 := Out2.keep Hout0.out hbL
 obtain ⟨la, lc, rfl, hlm⟩ := hLk0.form
 have HLk1 := Lib.hid hLk1; clear hLk1
 have HW1 := Lib.hid hW1; clear hW1 hh01
 have hxL : ∀ o, wL.cell? ⟨W.heap.size, o, none⟩ = (#[.int .i64 m.c, .int .i64 m.d, .int .i64 m.s, .int .i64 m.e, .int .i64 m.l, .slice a t.length c] : Array Value)[o]? := fun o => by rw [(bcell hBL).1 _ _ hz01, hc01]
 have Hc01 := Lib.hid hc01; clear hc01
 have HO0 := Lib.hid hO0; clear hO0 hLk0 hbA hbL Hout0
 go_wp2_with fail
 clear hxL
 go_loopw [5, 7, 8, 9, 10, 17] (fun ou _ _ _ _ j wr => ∃ i : Nat, i ≤ cuts.length ∧ j = .int .i64 (i : Int) ∧ Out2 W1.heap.size wr ou (falseRows t cuts locks (getl t 0).length i) ∧ LkAt W1.heap.size wL.heap.size ou wr (.slice la locks.length lc) locks ∧ Below W1.heap.size W1 wr) (fun _ _ _ _ _ j _ => cuts.length - (intOf j).toNat)
 case atStart => exact ⟨0, Nat.zero_le _, rfl, HO0.out, HLk1.out, hBL⟩
 case round =>
  obtain ⟨i, hi, rfl, hO, hLo, hB1o⟩ := hrel
  obtain ⟨wo, rfl⟩ : ∃ wo, wo = wr := ⟨_, rfl⟩
  have hzo := hB1o.size
  by_cases hii : i < cuts.length
  ·obtain ⟨b1, off1, a1, c1, rfl, _, hc1', hr1'⟩ := hC1.cell hii
   have hc1 := cell_keep hc1' (hB1o.block _ (lt_of_cell hc1'))
   clear hc1'
   have hgl : (getl cuts i).length ≤ maxLen := hr1'.len
   unfold maxLen at hgl
   have hrl := falseRows_len t cuts locks (getl t 0).length i
   have him : i * (getl t 0).length ≤ 10 * 12 := Nat.mul_le_mul (by omega) (by omega)
   have HO := Lib.hid hO; clear hO
   go_wp2_with fail
   clear hc1
   go_loopw [5, 9, 10, 24] (fun ou _ _ j wr => ∃ k : Nat, k ≤ (getl t 0).length ∧ j = .int .i64 (k : Int) ∧ Out2 W1.heap.size wr ou (falseRows t cuts locks (getl t 0).length i ++ falseTo t cuts locks i k) ∧ LkAt W1.heap.size wL.heap.size ou wr (.slice la locks.length lc) locks ∧ Below W1.heap.size W1 wr) (fun _ _ _ j _ => (getl t 0).length - (intOf j).toNat)
   case atStart => exact ⟨0, Nat.zero_le _, rfl, by simpa [falseTo] using HO.out, hLo, hB1o⟩
   case round =>
    obtain ⟨k, hk, rfl, hO, hLn, hBn⟩ := hrel
    have hzn := hBn.size
    have hzW : W.heap.size < wr.heap.size := by omega
    have hpl := falseTo_len t cuts locks i k
    have hal : (falseRows t cuts locks (getl t 0).length i ++ falseTo t cuts locks i k).length ≤ 1000 := by rw [List.length_append]; omega
    by_cases hkk : k < (getl t 0).length
    ·have hit : i < t.length := by omega
     have hkl : k < locks.length := by omega
     have hkt : k < (getl t i).length := by rw [Hcols.out i hit]; exact hkk
     obtain ⟨b2, off2, a2, c2, rfl, _, hc2, hr2⟩ := hLn.1.cell hkl
     obtain ⟨b3, off3, a3, c3, rfl, _, hc3, hr3⟩ := (hV1.below hBn).cell hit
     obtain ⟨b4, off4, rfl, _, hc4⟩ := hr3.cell hkt
     have hl3 := hr3.len
     unfold maxLen at hl3
     have hxr : ∀ o, wr.cell? ⟨W.heap.size, o, none⟩ = (#[.int .i64 m.c, .int .i64 m.d, .int .i64 m.s, .int .i64 m.e, .int .i64 m.l, .slice (some ⟨b3, off3, none⟩) t.length c] : Array Value)[o]? := fun o => by rw [(bcell hBn).1 _ _ hz01, Hc01.out]
     have hb2 := lt_of_cell hc2
     have hb3 := lt_of_cell hc3
     have hb4 := lt_of_cell hc4
     simp only at hb2 hb3 hb4
     obtain ⟨vs, bk, g1, g2, g3⟩ := hO
     have G := Lib.hid (And.intro g1 (And.intro g2 g3)); clear g1 g2 g3
     by_cases h1 : geti (getl t i) k = 0
     ·have e1 : (geti (getl t i) k == 0) = true := by simp [h1]
      have hbA : Below wr.heap.size wr (wr.alloc (.cells #[.slice a2 (getll locks k).length c2] 116)) := (Below.refl _ _).alloc (Nat.le_refl _) _
      have hlen : (getl cuts i).length ≤ (getll locks k).length := by rw [Hlk.out k hkk, Hlens.out i hii]; exact Nat.le_refl _
      cases ho : opensB (getll locks k) (getl cuts i)
      ·have hst : falseTo t cuts locks i (k + 1) = falseTo t cuts locks i k := by rw [falseTo, if_neg (by rw [ho]; simp)]
       have Hst := Lib.hid hst; clear hst
       have Ho := Lib.hid ho; clear ho
       have H1 := Lib.hid h1; clear h1
       go_wp2_with fail
       refine (opens_b _ _ (getll locks k) (getl cuts i) _ _ Ho.out (hr2.below hbA) ((hr1'.below hBn).below hbA) hlen).mono ?_
       rintro e' w5 ⟨rfl, hb5⟩
       have hb05 := hbA.trans (hb5.mono (by simp))
       clear hxr hc2 hc3 hc4 hr2 hr3 hbA
       go_wp2_with fail
       go_roundw
       case rel => exact ⟨k + 1, by omega, by go_num, by rw [Hst.out]; exact Out2.keep ⟨vs, bk, G.out.1, G.out.2.1, G.out.2.2⟩ hb05, hLn.below hb05, hBn.trans (hb05.mono hzn)⟩
       case measure => simp [intOf]; omega
      ·have hst : falseTo t cuts locks i (k + 1) = falseTo t cuts locks i k ++ [[(i : Int), (k : Int)]] := by rw [falseTo, if_pos ⟨h1, ho⟩]
       have Hst := Lib.hid hst; clear hst
       have Ho := Lib.hid ho; clear ho
       have H1 := Lib.hid h1; clear h1
       go_wp2_with fail
       refine (opens_b _ _ (getll locks k) (getl cuts i) _ _ Ho.out (hr2.below hbA) ((hr1'.below hBn).below hbA) hlen).mono ?_
       rintro e' w5 ⟨rfl, hb5⟩
       have hb05 := hbA.trans (hb5.mono (by simp))
       have hz5 := hb05.size
       have hown5 := (own_chg G.out.1 (Chg.of_below (F := fun _ => False) hb05) (fun _ _ h => h)).alloc (.cells #[.int .i64 i, .int .i64 k] 2)
       clear hxr hc2 hc3 hc4 hr2 hr3 hbA
       go_wp2_with (at_builtin; refine wp_app1h (w5.alloc (.cells #[.int .i64 i, .int .i64 k] 2)) (w5.heap.size + 1) (by simp) rfl _ _ 33 rfl W1.heap.size 57 (.slice none 0 0) 24 Tryz.underlying33 inf_ints rfl u5 _ _ rfl hown5 (.slice (some ⟨w5.heap.size, 0, none⟩) 2 2) _ rfl rfl (by omega) (by omega) (by first | (simp; done) | (simp; omega)) ?_; intro v1 w1 hown1 hgrow1 hblk1 hB1)
       go_roundw
       case rel =>
        refine ⟨k + 1, by omega, by go_num, ?_, (hLn.below (hb05.alloc (by omega) _)).grown hgrow1 hblk1, ((hBn.trans (hb05.mono hzn)).alloc (by omega) _).trans hB1⟩
        rw [Hst.out, ← List.append_assoc]
        exact Out2.push (l := [(i : Int), (k : Int)]) (b := w5.heap.size) G.out.1 G.out.2.1 G.out.2.2 (by omega) (hb05.alloc (by omega) _) (pair_X1 (Below.refl _ _)) (fun _ => by omega) hown1 hgrow1 hblk1
       case measure => simp [intOf]; omega
     ·have e1 : (geti (getl t i) k == 0) = false := by simp [h1]
      have hst : falseTo t cuts locks i (k + 1) = falseTo t cuts locks i k := by rw [falseTo, if_neg (fun h => h1 h.1)]
      have Hst := Lib.hid hst; clear hst
      have H1 := Lib.hid h1; clear h1
      have hbA : Below wr.heap.size wr (wr.alloc (.cells #[.slice a2 (getll locks k).length c2] 116)) := (Below.refl _ _).alloc (Nat.le_refl _) _
      go_wp2_with fail
      go_roundw
      case rel => exact ⟨k + 1, by omega, by go_num, by rw [Hst.out]; exact Out2.keep ⟨vs, bk, G.out.1, G.out.2.1, G.out.2.2⟩ hbA, hLn.below hbA, hBn.trans (hbA.mono hzn)⟩
      case measure => simp [intOf]; omega
    ·obtain rfl : k = (getl t 0).length := by omega
     have hkl : ¬ (getl t 0).length < locks.length := by omega
     have hst : falseRows t cuts locks (getl t 0).length (i + 1) = falseRows t cuts locks (getl t 0).length i ++ falseTo t cuts locks i (getl t 0).length := rfl
     have Hst := Lib.hid hst; clear hst
     have HO2 := Lib.hid hO; clear hO
     go_wp2_with fail
     go_roundw
     case rel => exact ⟨i + 1, by omega, by go_num, by rw [Hst.out]; exact HO2.out, hLn, hBn⟩
     case measure => simp [intOf]; omega
  ·obtain rfl : i = cuts.length := by omega
   have hfx := hO.f2
   have Hfx := Lib.hid hfx; clear hfx
   go_wp2_with fail
   go_ret
   exact ⟨_, rfl, F2.mono Hfx.out (by omega), hB01.trans (hB1o.mono (by omega))⟩
theorem cells5_keep {a1 a2 a3 a4 a5 o1 o2 o3 o4 o5 : Nat} {v1 v2 v3 v4 v5 : Value} {w0 w w' : World}
  (h : w.cell? ⟨a1, o1, none⟩ = some v1 ∧ w.cell? ⟨a2, o2, none⟩ = some v2 ∧ w.cell? ⟨a3, o3, none⟩ = some v3 ∧ w.cell? ⟨a4, o4, none⟩ = some v4 ∧ w.cell? ⟨a5, o5, none⟩ = some v5 ∧ Below w0.heap.size w0 w) (hb : Below w.heap.size w w') :
  w'.cell? ⟨a1, o1, none⟩ = some v1 ∧ w'.cell? ⟨a2, o2, none⟩ = some v2 ∧ w'.cell? ⟨a3, o3, none⟩ = some v3 ∧ w'.cell? ⟨a4, o4, none⟩ = some v4 ∧ w'.cell? ⟨a5, o5, none⟩ = some v5 ∧ Below w0.heap.size w0 w' := by
 obtain ⟨h1, h2, h3, h4, h5, h6⟩ := h
 exact ⟨cell_keep h1 (hb.block _ (lt_of_cell h1)), cell_keep h2 (hb.block _ (lt_of_cell h2)), cell_keep h3 (hb.block _ (lt_of_cell h3)), cell_keep h4 (hb.block _ (lt_of_cell h4)), cell_keep h5 (hb.block _ (lt_of_cell h5)), h6.trans (hb.mono h6.size)⟩
theorem cells5_below {a1 a2 a3 a4 a5 o1 o2 o3 o4 o5 : Nat} {v1 v2 v3 v4 v5 : Value} {w0 w : World}
  (h : w.cell? ⟨a1, o1, none⟩ = some v1 ∧ w.cell? ⟨a2, o2, none⟩ = some v2 ∧ w.cell? ⟨a3, o3, none⟩ = some v3 ∧ w.cell? ⟨a4, o4, none⟩ = some v4 ∧ w.cell? ⟨a5, o5, none⟩ = some v5 ∧ Below w0.heap.size w0 w) : Below w0.heap.size w0 w := h.2.2.2.2.2
set_option maxRecDepth 100000 in
set_option maxHeartbeats 2000000 in
theorem l15False_any {S S' : Nat → Prop} (m : Mk) (u v : Value) (t cuts : List (List Int)) (n : Nat) (W : World) (hf : Fits m t cuts) (hn : (n : Int) = m.c) (h : V2 S W u t) (hc : V2 S' W v cuts) :
  Calls Tryz.prog 62 #[.agg #[.int .i64 m.c, .int .i64 m.d, .int .i64 m.s, .int .i64 m.e, .int .i64 m.l, u], v] W fun e' w' => ∃ v', e' = .returned v' ∧ F2 W.heap.size w' v' (falseL n t cuts) ∧ Below W.heap.size W w' := by
 obtain ⟨a, c, rfl, hmx⟩ := h.form
 obtain ⟨a', c', rfl, hmx'⟩ := hc.form
 have hrows := hf.rows
 have hdoors := hf.doors
 have hfew := hf.few
 have hcols := hf.cols
 have hlens : ∀ i, i < cuts.length → (getl cuts i).length = n := fun i hi => by have := hf.lens i hi; omega
 have Hcols := Lib.hid hcols; clear hcols
 have Hlens := Lib.hid hlens; clear hlens
 have Hf := Lib.hid (And.intro hf hn); clear hf hn
 obtain ⟨locks, hlocks⟩ : ∃ x, x = locksTo n t cuts (getl t 0).length := ⟨_, rfl⟩
 have hfin : falseL n t cuts = falseRows t cuts locks (getl t 0).length cuts.length := by rw [hlocks]; rfl
 rw [hfin]
 have hll : locks.length ≤ (getl t 0).length := by rw [hlocks, locksTo_len]; exact Nat.le_refl _
 have hlg : (getl t 0).length ≤ locks.length := by rw [hlocks, locksTo_len]; exact Nat.le_refl _
 have hlk : ∀ k, k < (getl t 0).length → (getll locks k).length = n := fun k hk => by rw [hlocks]; exact lock_len hk
 have Hlocks := Lib.hid hlocks; clear hlocks hfin
 have Hlk := Lib.hid hlk; clear hlk
 obtain ⟨W1, hW1, hB01, hz01, HZ01, hc01, hh01⟩ := box_facts W #[.int .i64 m.c, .int .i64 m.d, .int .i64 m.s, .int .i64 m.e, .int .i64 m.l, .slice a t.length c] 35
 have hV1 := (h.below hB01).any
 have hC1 := (hc.below hB01).any
 go_enter Tryz.func62, Tryz.ntmps62
 go_wp2_with fail
 rw [← hW1]
 refine (l15Locks_any m _ _ t cuts n _ Hf.out.1 Hf.out.2 hV1 hC1).mono ?_
 rintro e' wL ⟨lv, rfl, hLk0, hBL⟩
 rw [← Hlocks.out] at hLk0
 have hLk := hLk0.any
 have hzL := hBL.size
 have hout0 := Out2.start wL wL.heap.size (Nat.le_refl _)
 obtain ⟨la, lc, rfl, hlm⟩ := hLk.form
 have HW1 := Lib.hid hW1; clear hW1 hh01
 have Hc01 := Lib.hid hc01; clear hc01
 have HO0 := Lib.hid hout0; clear hout0 hLk0
 go_wp2_with fail
 go_loopw [6, 7, 8] (fun ou j _ wr => ∃ i : Nat, i ≤ cuts.length ∧ j = .int .i64 (i : Int) ∧ Out2 wL.heap.size wr ou (falseRows t cuts locks (getl t 0).length i) ∧ Below wL.heap.size wL wr) (fun _ j _ _ => cuts.length - (intOf j).toNat)
 case atStart => exact ⟨0, Nat.zero_le _, rfl, HO0.out, (Below.refl _ _).alloc (Nat.le_refl _) _⟩
 case round =>
  obtain ⟨i, hi, rfl, hO, hBo⟩ := hrel
  obtain ⟨wo, rfl⟩ : ∃ wo, wo = wr := ⟨_, rfl⟩
  have hzo := hBo.size
  by_cases hii : i < cuts.length
  ·have hrl := falseRows_len t cuts locks (getl t 0).length i
   have him : i * (getl t 0).length ≤ 10 * 12 := Nat.mul_le_mul (by omega) (by omega)
   have HO := Lib.hid hO; clear hO
   go_wp2_with fail
   go_loopw [6, 8] (fun ou j wr => ∃ k : Nat, k ≤ (getl t 0).length ∧ j = .int .i64 (k : Int) ∧ Out2 wL.heap.size wr ou (falseRows t cuts locks (getl t 0).length i ++ falseTo t cuts locks i k) ∧ Below wL.heap.size wL wr) (fun _ j _ => (getl t 0).length - (intOf j).toNat)
   case atStart => exact ⟨0, Nat.zero_le _, rfl, by simpa [falseTo] using HO.out, hBo⟩
   case round =>
    obtain ⟨k, hk, rfl, hO, hBn⟩ := hrel
    have hzn := hBn.size
    have hBW := hBL.trans (hBn.mono hzL)
    have hzW : W.heap.size < wr.heap.size := by omega
    have hpl := falseTo_len t cuts locks i k
    have hal : (falseRows t cuts locks (getl t 0).length i ++ falseTo t cuts locks i k).length ≤ 1000 := by rw [List.length_append]; omega
    by_cases hkk : k < (getl t 0).length
    ·have hit : i < t.length := by omega
     have hkl : k < locks.length := by omega
     have hkt : k < (getl t i).length := by rw [Hcols.out i hit]; exact hkk
     obtain ⟨b1, off1, a1, c1, rfl, _, hc1, hr1⟩ := (hC1.below hBW).cell hii
     obtain ⟨b2, off2, a2, c2, rfl, _, hc2, hr2⟩ := (hLk.below hBn).cell hkl
     obtain ⟨b3, off3, a3, c3, rfl, _, hc3, hr3⟩ := (hV1.below hBW).cell hit
     obtain ⟨b4, off4, rfl, _, hc4⟩ := hr3.cell hkt
     have hl3 := hr3.len
     unfold maxLen at hl3
     have hc5 : wr.cell? ⟨W.heap.size, 5, none⟩ = some (.slice (some ⟨b3, off3, none⟩) t.length c) := by rw [(bcell hBW).1 _ _ hz01, Hc01.out]; rfl
     obtain ⟨vs, bk, g1, g2, g3⟩ := hO
     have G := Lib.hid (And.intro g1 (And.intro g2 g3)); clear g1 g2 g3
     by_cases h1 : geti (getl t i) k = 0
     ·have e1 : (geti (getl t i) k == 0) = true := by simp [h1]
      have hlen : (getl cuts i).length ≤ (getll locks k).length := by rw [Hlk.out k hkk, Hlens.out i hii]; exact Nat.le_refl _
      cases ho : opensB (getll locks k) (getl cuts i)
      ·have hst : falseTo t cuts locks i (k + 1) = falseTo t cuts locks i k := by rw [falseTo, if_neg (by rw [ho]; simp)]
       have Hst := Lib.hid hst; clear hst
       have Ho := Lib.hid ho; clear ho
       have H1 := Lib.hid h1; clear h1
       go_wp2_with fail
       go_region_held3 (fun w' => w'.cell? ⟨W.heap.size, 5, none⟩ = some (.slice (some ⟨b3, off3, none⟩) t.length c) ∧ w'.cell? ⟨b1, off1 + i, none⟩ = some (.slice a1 (getl cuts i).length c1) ∧ w'.cell? ⟨b2, off2 + k, none⟩ = some (.slice a2 (getll locks k).length c2) ∧ w'.cell? ⟨b3, off3 + i, none⟩ = some (.slice (some ⟨b4, off4, none⟩) (getl t i).length c3) ∧ w'.cell? ⟨b4, off4 + k, none⟩ = some (.int .i64 (geti (getl t i) k)) ∧ Below wr.heap.size wr w')
        (first | exact cells5_keep (by assumption) (by assumption) | exact ⟨hc5, hc1, hc2, hc3, hc4, (Below.refl _ _).drew⟩)
        (first | (go_at_call 89; refine (l04Opens_b _ _ (getll locks k) (getl cuts i) _ _ Ho.out (hr2.below (cells5_below (by assumption))) (hr1.below (cells5_below (by assumption))) hlen).mono ?_; rintro e' wq ⟨rfl, hb⟩))
       have hb05 := cells5_below (w0 := wr) (by assumption)
       clear hc1 hc2 hc3 hc4 hc5 hr1 hr2 hr3
       go_wp2_with fail
       go_roundw
       case rel => exact ⟨k + 1, by omega, by go_num, by rw [Hst.out]; exact Out2.keep ⟨vs, bk, G.out.1, G.out.2.1, G.out.2.2⟩ hb05, hBn.trans (hb05.mono hzn)⟩
       case measure => simp [intOf]; omega
      ·have hst : falseTo t cuts locks i (k + 1) = falseTo t cuts locks i k ++ [[(i : Int), (k : Int)]] := by rw [falseTo, if_pos ⟨h1, ho⟩]
       have Hst := Lib.hid hst; clear hst
       have Ho := Lib.hid ho; clear ho
       have H1 := Lib.hid h1; clear h1
       go_wp2_with fail
       go_region_held3 (fun w' => w'.cell? ⟨W.heap.size, 5, none⟩ = some (.slice (some ⟨b3, off3, none⟩) t.length c) ∧ w'.cell? ⟨b1, off1 + i, none⟩ = some (.slice a1 (getl cuts i).length c1) ∧ w'.cell? ⟨b2, off2 + k, none⟩ = some (.slice a2 (getll locks k).length c2) ∧ w'.cell? ⟨b3, off3 + i, none⟩ = some (.slice (some ⟨b4, off4, none⟩) (getl t i).length c3) ∧ w'.cell? ⟨b4, off4 + k, none⟩ = some (.int .i64 (geti (getl t i) k)) ∧ Below wr.heap.size wr w')
        (first | exact cells5_keep (by assumption) (by assumption) | exact ⟨hc5, hc1, hc2, hc3, hc4, (Below.refl _ _).drew⟩)
        (first | (go_at_call 89; refine (l04Opens_b _ _ (getll locks k) (getl cuts i) _ _ Ho.out (hr2.below (cells5_below (by assumption))) (hr1.below (cells5_below (by assumption))) hlen).mono ?_; rintro e' wq ⟨rfl, hb⟩))
       have hb05 := cells5_below (w0 := wr) (by assumption)
       clear hc1 hc2 hc3 hc4 hc5 hr1 hr2 hr3
       have hz5 := hb05.size
       have hown5 := (own_chg G.out.1 (Chg.of_below (F := fun _ => False) hb05) (fun _ _ h => h)).alloc (.cells #[.int .i64 i, .int .i64 k] 2)
       go_wp2_with (at_builtin; refine wp_app1h (wq.alloc (.cells #[.int .i64 i, .int .i64 k] 2)) (wq.heap.size + 1) (by simp) rfl _ _ 33 rfl wL.heap.size 57 (.slice none 0 0) 24 Tryz.underlying33 inf_ints rfl u6 _ _ rfl hown5 (.slice (some ⟨wq.heap.size, 0, none⟩) 2 2) _ rfl rfl (by omega) (by omega) (by first | (simp; done) | (simp; omega)) ?_; intro v1 w1 hown1 hgrow1 hblk1 hB1)
       go_roundw
       case rel =>
        refine ⟨k + 1, by omega, by go_num, ?_, ((hBn.trans (hb05.mono hzn)).alloc (by omega) _).trans hB1⟩
        rw [Hst.out, ← List.append_assoc]
        exact Out2.push (l := [(i : Int), (k : Int)]) (b := wq.heap.size) G.out.1 G.out.2.1 G.out.2.2 (by omega) (hb05.alloc (by omega) _) (pair_X1 (Below.refl _ _)) (fun _ => by omega) hown1 hgrow1 hblk1
       case measure => simp [intOf]; omega
     ·have e1 : (geti (getl t i) k == 0) = false := by simp [h1]
      have hst : falseTo t cuts locks i (k + 1) = falseTo t cuts locks i k := by rw [falseTo, if_neg (fun h => h1 h.1)]
      have Hst := Lib.hid hst; clear hst
      have H1 := Lib.hid h1; clear h1
      go_wp2_with fail
      go_quiet (fail)
      go_wp2_with fail
      go_roundw
      case rel => exact ⟨k + 1, by omega, by go_num, by rw [Hst.out]; exact Out2.keep ⟨vs, bk, G.out.1, G.out.2.1, G.out.2.2⟩ (below_drewN (Below.refl _ _) _), below_drewN hBn _⟩
      case measure => simp [intOf]; omega
    ·obtain rfl : k = (getl t 0).length := by omega
     have hkl : ¬ (getl t 0).length < locks.length := by omega
     have hst : falseRows t cuts locks (getl t 0).length (i + 1) = falseRows t cuts locks (getl t 0).length i ++ falseTo t cuts locks i (getl t 0).length := rfl
     have Hst := Lib.hid hst; clear hst
     have HO2 := Lib.hid hO; clear hO
     go_wp2_with fail
     go_roundw
     case rel => exact ⟨i + 1, by omega, by go_num, by rw [Hst.out]; exact HO2.out, hBn⟩
     case measure => simp [intOf]; omega
  ·obtain rfl : i = cuts.length := by omega
   have hfx := hO.f2
   have Hfx := Lib.hid hfx; clear hfx
   go_wp2_with fail
   go_ret
   exact ⟨_, rfl, F2.mono Hfx.out (by omega), hB01.trans ((hBL.trans (hBo.mono hzL)).mono (by omega))⟩
/-- What the reference's loop holds: the last run, and the longest one. -/
def lastRun (l : List Int) : Nat → Nat
 | 0 => 0
 | k + 1 => runAt l k
theorem lastRun_le (l : List Int) : ∀ k, lastRun l k ≤ k
 | 0 => Nat.le_refl _
 | k + 1 => runAt_le l k
theorem runAt_last {l : List Int} {k : Nat} (h : k = 0 ∨ geti l k = geti l (k - 1)) : runAt l k = lastRun l k + 1 := by
 cases k with
 | zero => rfl
 | succ k =>
   rcases h with h | h
   ·cases h
   ·rw [Nat.add_sub_cancel] at h
    rw [runAt, if_pos h]; rfl
theorem runAt_new {l : List Int} {k : Nat} (h0 : 0 < k) (h : geti l k ≠ geti l (k - 1)) : runAt l k = 1 := by
 cases k with
 | zero => omega
 | succ k => rw [Nat.add_sub_cancel] at h; rw [runAt, if_neg h]
/-- What a visit does to a state, and to the memory that bears it: F are the blocks that it may write. -/
structure VisOk {σ : Type} (C : Nat) (w0 : World) (F0 : Nat → Prop) (f : FuncId) (caps : Array Value) (step : σ → List Int → σ × Bool) (s0 : σ) (L : List (List Int)) (Inv : σ → (Nat → Prop) → World → Prop) : Prop where
 enters : Enters f
 keep : ∀ s F w w', Inv s F w → w.heap.size ≤ w'.heap.size → (∀ b, F b → w'.heap[b]? = w.heap[b]?) → Inv s F w'
 lt : ∀ s F w, Inv s F w → ∀ b, F b → b < w.heap.size
 call : ∀ (s : σ) (F S : Nat → Prop) (w : World) (v : Value) (key : List Int) (done rest : List (List Int)), L = done ++ key :: rest → runL step s0 done = (s, true) → Inv s F w → Chg F0 w0 w → (∀ b, F b → F0 b ∨ w0.heap.size ≤ b) →
  V1 S w v key → (∀ b, S b → ¬ F b) → key.length = C →
  Calls Tryz.prog f (#[v] ++ caps) w fun e w' => ∃ F', e = .returned (.bool (step s key).2) ∧ Inv (step s key).1 F' w' ∧ Chg F w w' ∧ ∀ b, F' b → F b ∨ w.heap.size ≤ b
/-- The blocks that the visit of all keys makes for itself. -/
structure EK where
 k : Nat
 m : Nat
 v : Nat
 f : Nat
 a : Nat
 c : Nat
def EK.has (o : EK) (b : Nat) : Prop := b = o.k ∨ b = o.m ∨ b = o.v ∨ b = o.f ∨ b = o.a ∨ b = o.c
def cutV (o : EK) : Value := .func (.func 76) #[] #[.pointer (some ⟨o.k, 0, none⟩), .pointer (some ⟨o.m, 0, none⟩), .pointer (some ⟨o.v, 0, none⟩), .pointer (some ⟨o.f, 0, none⟩), .pointer (some ⟨o.a, 0, none⟩), .pointer (some ⟨o.c, 0, none⟩)]
/-- The state of the visit: the key so far lies in block o.k, all else is as it was made. -/
structure ES {σ : Type} (m : Mk) (w0 : World) (F0 : Nat → Prop) (Inv : σ → (Nat → Prop) → World → Prop) (o : EK) (fv av vv : Value) (s : σ) (F : Nat → Prop) (w : World) (pre : List Int) (kv : Value) : Prop where
 chg : Chg F0 w0 w
 sub : ∀ b, F b → F0 b ∨ w0.heap.size ≤ b
 inv : Inv s F w
 lt : ∀ b, F b → b < w.heap.size
 new : ∀ b, o.has b → w0.heap.size ≤ b ∧ b < w.heap.size ∧ ¬ F b
 ne : o.k ≠ o.m ∧ o.k ≠ o.v ∧ o.k ≠ o.f ∧ o.k ≠ o.a ∧ o.k ≠ o.c
 hm : ∃ T, w.heap[o.m]? = some (.cells #[.int .i64 m.c, .int .i64 m.d, .int .i64 m.s, .int .i64 m.e, .int .i64 m.l] T (0, 0))
 hv : ∃ T, w.heap[o.v]? = some (.cells #[vv] T (0, 0))
 hf : ∃ T, w.heap[o.f]? = some (.cells #[fv] T (0, 0))
 ha : ∃ T, w.heap[o.a]? = some (.cells #[av] T (0, 0))
 hc : ∃ T, w.heap[o.c]? = some (.cells #[cutV o] T (0, 0))
 hk : ∃ T, w.heap[o.k]? = some (.cells #[kv] T (0, 0))
 own : w.ownsRow w0.heap.size 2 1 kv pre.length (pre.map (Value.int .i64))
 far : ∀ g, kv.ownBlock = some g → ¬ F g ∧ ¬ o.has g
section
variable {σ : Type} {m : Mk} {w0 : World} {F0 : Nat → Prop} {Inv : σ → (Nat → Prop) → World → Prop} {o : EK} {fv av vv kv : Value} {s s' : σ} {F F' : Nat → Prop} {w w' : World} {pre : List Int}
theorem has_k (o : EK) : o.has o.k := .inl rfl
theorem has_m (o : EK) : o.has o.m := .inr (.inl rfl)
theorem has_v (o : EK) : o.has o.v := .inr (.inr (.inl rfl))
theorem has_f (o : EK) : o.has o.f := .inr (.inr (.inr (.inl rfl)))
theorem has_a (o : EK) : o.has o.a := .inr (.inr (.inr (.inr (.inl rfl))))
theorem has_c (o : EK) : o.has o.c := .inr (.inr (.inr (.inr (.inr rfl))))
/-- After a visit. -/
theorem ES.visit (h : ES m w0 F0 Inv o fv av vv s F w pre kv) (hi : Inv s' F' w') (hl : ∀ b, F' b → b < w'.heap.size) (hc : Chg F w w') (hs : ∀ b, F' b → F b ∨ w.heap.size ≤ b) : ES m w0 F0 Inv o fv av vv s' F' w' pre kv := by
 have hnew : ∀ b, b < w.heap.size → ¬ F b → ¬ F' b := fun b h1 h2 h3 => by rcases hs b h3 with h4 | h4; exact h2 h4; omega
 have hget : ∀ b, o.has b → ∀ {x : Obj}, w.heap[b]? = some x → w'.heap[b]? = some x := fun b hb x hx => hc.heap hx (h.new b hb).2.2
 refine ⟨h.chg.trans hc h.sub, fun b hb => ?_, hi, hl, fun b hb => ⟨(h.new b hb).1, Nat.lt_of_lt_of_le (h.new b hb).2.1 hc.size, hnew b (h.new b hb).2.1 (h.new b hb).2.2⟩, h.ne, ?_, ?_, ?_, ?_, ?_, ?_, own_chg h.own hc (fun g hg => (h.far g hg).1), fun g hg => ⟨hnew g (h.own.lt g hg).2 (h.far g hg).1, (h.far g hg).2⟩⟩
 ·rcases hs b hb with h1 | h1
  ·exact h.sub b h1
  ·exact .inr (Nat.le_trans h.chg.size h1)
 ·obtain ⟨T, hT⟩ := h.hm; exact ⟨T, hget _ (has_m o) hT⟩
 ·obtain ⟨T, hT⟩ := h.hv; exact ⟨T, hget _ (has_v o) hT⟩
 ·obtain ⟨T, hT⟩ := h.hf; exact ⟨T, hget _ (has_f o) hT⟩
 ·obtain ⟨T, hT⟩ := h.ha; exact ⟨T, hget _ (has_a o) hT⟩
 ·obtain ⟨T, hT⟩ := h.hc; exact ⟨T, hget _ (has_c o) hT⟩
 ·obtain ⟨T, hT⟩ := h.hk; exact ⟨T, hget _ (has_k o) hT⟩
/-- After draws. -/
theorem ES.draw (V : ∀ s F w w', Inv s F w → w.heap.size ≤ w'.heap.size → (∀ b, F b → w'.heap[b]? = w.heap[b]?) → Inv s F w') (h : ES m w0 F0 Inv o fv av vv s F w pre kv) (n : Nat) : ES m w0 F0 Inv o fv av vv s F (w.drewN n) pre kv :=
 h.visit (V _ _ _ _ h.inv (Nat.le_refl _) (fun _ _ => rfl)) h.lt ⟨rfl, rfl, rfl, Nat.le_refl _, fun _ _ _ => rfl⟩ (fun b hb => .inl hb)
/-- The key's slice is written anew, in a world in which only its own blocks have turned. -/
theorem ES.store (V : ∀ s F w w', Inv s F w → w.heap.size ≤ w'.heap.size → (∀ b, F b → w'.heap[b]? = w.heap[b]?) → Inv s F w') {G : Nat → Prop} {w1 : World} {kv' : Value} {pre' : List Int}
  (h : ES m w0 F0 Inv o fv av vv s F w pre kv) (hg : Chg G w w1) (hG : ∀ b, G b → kv.ownBlock = some b) (hown : w1.ownsRow w0.heap.size 2 1 kv' pre'.length (pre'.map (Value.int .i64))) (hb : kv'.ownBlock = kv.ownBlock ∨ ∃ g, kv'.ownBlock = some g ∧ w.heap.size ≤ g) :
  ES m w0 F0 Inv o fv av vv s F (w1.setCell ⟨o.k, 0, none⟩ kv') pre' kv' := by
 have hfar : ∀ g, kv'.ownBlock = some g → ¬ F g ∧ ¬ o.has g := fun g hg => by
  rcases hb with e | ⟨g', e, hge⟩
  ·exact h.far g (e.symm.trans hg)
  ·rw [hg] at e; cases e
   exact ⟨fun hF => by have := h.lt g hF; omega, fun hh => by have := (h.new g hh).2.1; omega⟩
 have hGF : ∀ b, F b → ¬ G b := fun b hF hGb => (h.far b (hG b hGb)).1 hF
 have hGh : ∀ b, o.has b → ¬ G b := fun b hh hGb => (h.far b (hG b hGb)).2 hh
 have hsz : (w1.setCell ⟨o.k, 0, none⟩ kv').heap.size = w1.heap.size := by simp [World.setCell]
 have hget : ∀ b, o.has b → b ≠ o.k → ∀ {x : Obj}, w.heap[b]? = some x → (w1.setCell ⟨o.k, 0, none⟩ kv').heap[b]? = some x := fun b hb hne x hx => by
  rw [heap_setCell_other _ hne]; exact hg.heap hx (hGh b hb)
 have hk0 := h.ne
 refine ⟨?_, h.sub, ?_, fun b hb => by rw [hsz]; exact Nat.lt_of_lt_of_le (h.lt b hb) hg.size, fun b hb => ⟨(h.new b hb).1, by rw [hsz]; exact Nat.lt_of_lt_of_le (h.new b hb).2.1 hg.size, (h.new b hb).2.2⟩, h.ne, ?_, ?_, ?_, ?_, ?_, ?_, ?_, hfar⟩
 ·exact (h.chg.trans hg (fun i hi => .inr (h.own.lt i (hG i hi)).1)).setCell (.inr (h.new _ (has_k o)).1) _
 ·refine V _ _ _ _ h.inv (by rw [hsz]; exact hg.size) (fun b hb => ?_)
  rw [heap_setCell_other _ (fun e => (h.new _ (has_k o)).2.2 (by rw [← e]; exact hb))]
  exact hg.block b (h.lt b hb) (hGF b hb)
 ·obtain ⟨T, hT⟩ := h.hm; exact ⟨T, hget _ (has_m o) hk0.1.symm hT⟩
 ·obtain ⟨T, hT⟩ := h.hv; exact ⟨T, hget _ (has_v o) hk0.2.1.symm hT⟩
 ·obtain ⟨T, hT⟩ := h.hf; exact ⟨T, hget _ (has_f o) hk0.2.2.1.symm hT⟩
 ·obtain ⟨T, hT⟩ := h.ha; exact ⟨T, hget _ (has_a o) hk0.2.2.2.1.symm hT⟩
 ·obtain ⟨T, hT⟩ := h.hc; exact ⟨T, hget _ (has_c o) hk0.2.2.2.2.symm hT⟩
 ·obtain ⟨T, hT⟩ := h.hk; exact ⟨T, by rw [heap_setCell_self (hg.heap hT (hGh _ (has_k o)))]; rfl⟩
 ·have hc1 : Chg (fun b => b = o.k) w1 (w1.setCell ⟨o.k, 0, none⟩ kv') := Chg.setCell (F := fun b => b = o.k) (Chg.refl _ _) (.inl rfl) _
  exact own_chg hown hc1 (fun g hgg e => (hfar g hgg).2 (by rw [e]; exact has_k o))
/-- One cut more. -/
theorem ES.push (V : ∀ s F w w', Inv s F w → w.heap.size ≤ w'.heap.size → (∀ b, F b → w'.heap[b]? = w.heap[b]?) → Inv s F w') {w1 : World} {v1 : Value} {x : Int}
  (h : ES m w0 F0 Inv o fv av vv s F w pre kv) (hown : w1.ownsRow w0.heap.size 2 1 v1 (pre.length + 1) (pre.map (Value.int .i64) ++ [.int .i64 x])) (hg : w.grownBy w1 kv.ownBlock) (hb : v1.ownBlock = kv.ownBlock ∨ ∃ g, v1.ownBlock = some g ∧ w.heap.size ≤ g) :
  ES m w0 F0 Inv o fv av vv s F (w1.setCell ⟨o.k, 0, none⟩ v1) (pre ++ [x]) v1 :=
 h.store V (G := fun b => kv.ownBlock = some b) ((Chg.refl _ _).grown hg (fun k hk => .inl hk)) (fun b hb => hb) (by simpa using hown) hb
/-- The last cut is taken off again. -/
theorem ES.pop (V : ∀ s F w w', Inv s F w → w.heap.size ≤ w'.heap.size → (∀ b, F b → w'.heap[b]? = w.heap[b]?) → Inv s F w') {a : Option Addr} {n c k : Nat} {x : Int}
  (h : ES m w0 F0 Inv o fv av vv s F w (pre ++ [x]) (.slice a n c)) (hn : n = pre.length + 1) (hk : k = pre.length) :
  ES m w0 F0 Inv o fv av vv s F (w.setCell ⟨o.k, 0, none⟩ (.slice a k c)) pre (.slice a k c) := by
 subst hn; subst hk
 refine h.store V (G := fun _ => False) (Chg.refl _ _) (fun b hb => hb.elim) ?_ (.inl (by cases a <;> rfl))
 have := h.own
 simp only [List.length_append, List.length_cons, List.length_nil, List.map_append, List.map_cons, List.map_nil] at this
 have h2 := own_take this (k := pre.length) (by omega)
 simpa using h2
theorem ES.drew (V : ∀ s F w w', Inv s F w → w.heap.size ≤ w'.heap.size → (∀ b, F b → w'.heap[b]? = w.heap[b]?) → Inv s F w') (h : ES m w0 F0 Inv o fv av vv s F w pre kv) : ES m w0 F0 Inv o fv av vv s F w.drew pre kv :=
 h.visit (V _ _ _ _ h.inv (Nat.le_refl _) (fun _ _ => rfl)) h.lt ⟨rfl, rfl, rfl, Nat.le_refl _, fun _ _ _ => rfl⟩ (fun b hb => .inl hb)
theorem ES.cm (h : ES m w0 F0 Inv o fv av vv s F w pre kv) : w.cell? ⟨o.m, 0, none⟩ = some (.int .i64 m.c) ∧ w.cell? ⟨o.m, 1, none⟩ = some (.int .i64 m.d) ∧ w.cell? ⟨o.m, 2, none⟩ = some (.int .i64 m.s) ∧ w.cell? ⟨o.m, 3, none⟩ = some (.int .i64 m.e) ∧ w.cell? ⟨o.m, 4, none⟩ = some (.int .i64 m.l) := by
 obtain ⟨T, hT⟩ := h.hm
 exact ⟨cell_of_block hT 0, cell_of_block hT 1, cell_of_block hT 2, cell_of_block hT 3, cell_of_block hT 4⟩
theorem ES.ck (h : ES m w0 F0 Inv o fv av vv s F w pre kv) : w.cell? ⟨o.k, 0, none⟩ = some kv ∧ w.frozen? ⟨o.k, 0, none⟩ = false := by
 obtain ⟨T, hT⟩ := h.hk; exact ⟨cell_of_block hT 0, frozen_of_block hT 0⟩
theorem ES.cv (h : ES m w0 F0 Inv o fv av vv s F w pre kv) : w.cell? ⟨o.v, 0, none⟩ = some vv := by obtain ⟨T, hT⟩ := h.hv; exact cell_of_block hT 0
theorem ES.ca (h : ES m w0 F0 Inv o fv av vv s F w pre kv) : w.cell? ⟨o.a, 0, none⟩ = some av := by obtain ⟨T, hT⟩ := h.ha; exact cell_of_block hT 0
theorem ES.cc (h : ES m w0 F0 Inv o fv av vv s F w pre kv) : w.cell? ⟨o.c, 0, none⟩ = some (cutV o) := by obtain ⟨T, hT⟩ := h.hc; exact cell_of_block hT 0
end
theorem fit_push {m : Mk} {pre : List Int} {x : Int} : fitAt m (pre ++ [x]) pre.length = (decide ((runAt (pre ++ [x]) pre.length : Int) ≤ m.e) && (pre.length == 0 || decide (absI (x - geti pre (pre.length - 1)) ≤ m.s))) := by
 unfold fitAt
 rw [geti_snoc]
 cases hp : pre.length with
 | zero => rfl
 | succ n => rw [Nat.add_sub_cancel, geti_append (by omega)]
/-- Which cuts may be set: by a function, or all. -/
def AOk (m : Mk) (w0 : World) (F0 : Nat → Prop) (av : Value) (A : Nat → Int → Bool) : Prop :=
 (av = .nilFunc ∧ ∀ c x, A c x = true) ∨
 ∃ fa ac, av = .func (.func fa) #[] ac ∧ Enters fa ∧ ∀ (c : Nat) (x : Int) (w : World), (c : Int) < m.c → 0 ≤ x → x < m.d → Chg F0 w0 w →
   Calls Tryz.prog fa (#[.int .i64 c, .int .i64 x] ++ ac) w fun e w' => e = .returned (.bool (A c x)) ∧ ∃ n, w' = w.drewN n
def CutPost {σ : Type} (m : Mk) (w0 : World) (F0 : Nat → Prop) (Inv : σ → (Nat → Prop) → World → Prop) (o : EK) (fv av vv : Value) (pre : List Int) (r : σ × Bool) (e : Ending) (w' : World) : Prop :=
 ∃ F' kv', e = .returned (.bool r.2) ∧ ES m w0 F0 Inv o fv av vv r.1 F' w' pre kv'
section
variable {σ : Type} {m : Mk} {w0 : World} {F0 : Nat → Prop} {f : FuncId} {caps : Array Value} {step : σ → List Int → σ × Bool} {s0 : σ} {L : List (List Int)} {Inv : σ → (Nat → Prop) → World → Prop} {o : EK} {fv av : Value} {A : Nat → Int → Bool} {fr : List Int}
set_option maxRecDepth 100000 in
theorem cut_end (hm : m.ok = true) (V : VisOk m.c.toNat w0 F0 f caps step s0 L Inv) (tight : Bool) (s : σ) (F : Nat → Prop) (w : World) (pre : List Int) (kv : Value) (done rest : List (List Int))
  (hpre : (pre.length : Int) = m.c) (hL : L = done ++ genF m A fr tight 0 pre ++ rest) (hs : runL step s0 done = (s, true)) (h : ES m w0 F0 Inv o fv av (.func (.func f) #[] caps) s F w pre kv) :
  Calls Tryz.prog 76 #[.bool tight, .pointer (some ⟨o.k, 0, none⟩), .pointer (some ⟨o.m, 0, none⟩), .pointer (some ⟨o.v, 0, none⟩), .pointer (some ⟨o.f, 0, none⟩), .pointer (some ⟨o.a, 0, none⟩), .pointer (some ⟨o.c, 0, none⟩)] w
   (CutPost m w0 F0 Inv o fv av (.func (.func f) #[] caps) pre (runL step s0 (done ++ genF m A fr tight 0 pre))) := by
 have hmk := Mk.ok_iff.1 hm
 obtain ⟨Tk, hk⟩ := h.hk
 obtain ⟨Tm, hbm⟩ := h.hm
 obtain ⟨Tv, hbv⟩ := h.hv
 have hck := cell_of_block hk 0
 have hc0 := cell_of_block hbm 0
 have hc4 := cell_of_block hbm 4
 have hcv := cell_of_block hbv 0
 simp at hck hc0 hc4 hcv
 obtain ⟨ka, kc, rfl, hkc, hkm⟩ := own_form h.own
 have hV1 := own_V1 h.own
 have e2 : ((pre.length : Int) == m.c) = true := by simp [hpre]
 have hle : pre.length ≤ 6 := by omega
 clear hk hbm hbv
 have Hpre := Lib.hid hpre; clear hpre hmk hm
 by_cases hlt : (kinds pre : Int) < m.l
 ·have hr : runL step s0 (done ++ genF m A fr tight 0 pre) = (s, true) := by
   unfold genF; rw [if_neg (by omega), List.append_nil, hs]
  rw [hr]
  have Hh := Lib.hid h; clear h
  have HL := Lib.hid hL; clear hL
  have Hs := Lib.hid hs; clear hs hr
  go_enter Tryz.func76, Tryz.ntmps76
  go_wp2_with fail
  go_quiet ((go_at_call 77; first | exact quiet_same (different_any _ _ _ (V1.drewN hV1)) | exact quiet_same0 (different_any _ _ _ (V1.drewN hV1))))
  go_wp2_with fail
  go_ret
  exact ⟨F, _, rfl, Hh.out.draw V.keep _⟩
 ·have hgen : genF m A fr tight 0 pre = [pre] := by unfold genF; rw [if_pos (by omega)]
  have hr : runL step s0 (done ++ genF m A fr tight 0 pre) = step s pre := by
   rw [hgen, runL_go _ (by rw [hs]), hs]; exact runL_one _ _ _
  rw [hr]
  rw [hgen] at hL
  have hL2 : L = done ++ pre :: rest := by rw [hL]; simp
  have hd : decide ((kinds pre : Int) < m.l) = false := decide_eq_false hlt
  have hen := V.enters
  have HV := Lib.hid V; clear V
  unfold Enters at hen
  have Hh := Lib.hid h; clear h
  have HL := Lib.hid hL2; clear hL hL2
  have Hs := Lib.hid hs; clear hs hr hgen
  go_enter Tryz.func76, Tryz.ntmps76
  go_wp2_with fail
  go_region_held3 (fun w' => w'.cell? ⟨o.m, 4, none⟩ = some (.int .i64 m.l) ∧ w'.cell? ⟨o.v, 0, none⟩ = some (.func (.func f) #[] caps) ∧ w'.cell? ⟨o.k, 0, none⟩ = some (.slice ka pre.length kc)) (first | exact ⟨(ES.cm (by assumption)).2.2.2.2, ES.cv (by assumption), (ES.ck (by assumption)).1⟩ | go_keep)
   (first | (go_at_call 77; refine (different_any _ pre _ (hV1.below ((Below.refl _ _).drew))).mono ?_; rintro e' w' ⟨rfl, rfl⟩) | (refine (HV.out.call s F _ _ _ pre done rest HL.out Hs.out ((Hh.out.drew HV.out.keep).inv) ((Hh.out.drew HV.out.keep).chg) Hh.out.sub (hV1.below ((Below.refl _ _).drew)) (fun b hb => (Hh.out.far b hb).1) (by have := Hpre.out; omega)).mono ?_; rintro e' w' ⟨F', rfl, hinv, hchg, hsub⟩; have hES := (Hh.out.drew HV.out.keep).visit hinv (HV.out.lt _ _ _ hinv) hchg hsub))
  go_wp2_with fail
  go_ret
  exact ⟨_, _, rfl, by assumption⟩
end
theorem own_some {w : World} {B : Nat} {e : TypeId} {v : Value} {n : Nat} {xs : List Value} (h : w.ownsRow B e 1 v n xs) (hn : 1 ≤ n) : ∃ g c, v = .slice (some ⟨g, 0, none⟩) n c ∧ n ≤ c ∧ c ≤ maxLen := by
 rcases h.2 with ⟨rfl, h0⟩ | ⟨g, cap, cur, rfl, h1, h2, h3, h4, _⟩
 ·omega
 ·exact ⟨_, _, rfl, h3, h4⟩
theorem fit_runE {m : Mk} {l : List Int} {k : Nat} {r : Int} (hr : (runAt l k : Int) = r) (h : m.e < r) : fitAt m l k = false := by
 unfold fitAt; rw [hr, decide_eq_false (by omega)]; rfl
theorem own_len {w : World} {B : Nat} {e : TypeId} {v : Value} {pre : List Int} {x : Int} {xs : List Value} (h : w.ownsRow B e 1 v (pre ++ [x]).length xs) : w.ownsRow B e 1 v (pre.length + 1) xs := by
 simpa using h
theorem runL_pair {σ α : Type} {f : σ → α → σ × Bool} {s0 : σ} {l : List α} {r : σ × Bool} {b : Bool} (h : runL f s0 l = r) (hb : r.2 = b) : runL f s0 l = (r.1, b) := by rw [h, ← hb]
theorem neqNil (w : World) : Sem.run Tryz.prog (binOp .neq 109 .nilFunc .nilFunc) w = .ok (.bool false) w := by kernel_rfl
theorem neqFunc (f : FuncId) (ac : Array Value) (w : World) : Sem.run Tryz.prog (binOp .neq 109 (.func (.func f) #[] ac) .nilFunc) w = .ok (.bool true) w := by kernel_rfl
theorem Chg.drewN' {F : Nat → Prop} {a w : World} (h : Chg F a w) (n : Nat) : Chg F a (w.drewN n) := ⟨h.os, h.tape, h.output, h.size, h.block⟩
theorem brF_bad {m : Mk} {A : Nat → Int → Bool} {fr : List Int} {t : Bool} {rem : Nat} {pre : List Int} {x : Int} (h : ¬ (A pre.length x = true ∧ (pre.length = 0 ∨ absI (x - geti pre (pre.length - 1)) ≤ m.s))) : brF m A fr t rem pre x = [] := by
 unfold brF
 rw [if_neg]
 intro hc
 rw [Bool.and_eq_true, fit_push, Bool.and_eq_true, Bool.or_eq_true, decide_eq_true_eq, decide_eq_true_eq, beq_iff_eq] at hc
 exact h ⟨hc.1, hc.2.2⟩
section
variable {σ : Type} {m : Mk} {w0 : World} {F0 : Nat → Prop} {f : FuncId} {caps : Array Value} {step : σ → List Int → σ × Bool} {s0 : σ} {L : List (List Int)} {Inv : σ → (Nat → Prop) → World → Prop} {o : EK} {fv av vv kv : Value} {A : Nat → Int → Bool} {fr : List Int} {F : Nat → Prop} {s : σ} {w w1 : World} {pre : List Int}
theorem ES.grown_ck (h : ES m w0 F0 Inv o fv av vv s F w pre kv) (hg : w.grownBy w1 kv.ownBlock) : w1.cell? ⟨o.k, 0, none⟩ = some kv ∧ w1.frozen? ⟨o.k, 0, none⟩ = false := by
 obtain ⟨T, hT⟩ := h.hk
 have := hg.block o.k (h.new _ (has_k o)).2.1 (fun e => (h.far _ e.symm).2 (has_k o))
 rw [hT] at this
 exact ⟨cell_of_block this 0, frozen_of_block this 0⟩
/-- The keys with the cuts lo .. x - 1 here. -/
def partF (m : Mk) (A : Nat → Int → Bool) (fr : List Int) (tight : Bool) (rem : Nat) (pre : List Int) (x : Nat) : List (List Int) := (depths (lowF fr tight pre.length) x).flatMap (brF m A fr tight rem pre)
theorem partF_lo {tight : Bool} {rem : Nat} {x : Nat} (h : x ≤ lowF fr tight pre.length) : partF m A fr tight rem pre x = [] := by unfold partF; rw [depths_nil h]; rfl
theorem partF_succ {tight : Bool} {rem : Nat} {x : Nat} (h : lowF fr tight pre.length ≤ x) : partF m A fr tight rem pre (x + 1) = partF m A fr tight rem pre x ++ brF m A fr tight rem pre x := by
 unfold partF; rw [depths_snoc h, List.flatMap_append]; simp
theorem partF_end {tight : Bool} {rem : Nat} : partF m A fr tight rem pre m.d.toNat = genF m A fr tight (rem + 1) pre := rfl
theorem partF_le {tight : Bool} {rem : Nat} {x y : Nat} (h : x ≤ y) : ∃ r, partF m A fr tight rem pre y = partF m A fr tight rem pre x ++ r := by
 induction y with
 | zero => exact ⟨[], by rw [show x = 0 from by omega]; simp⟩
 | succ y ih =>
   by_cases e : x = y + 1
   ·exact ⟨[], by rw [e]; simp⟩
   ·obtain ⟨r, hr⟩ := ih (by omega)
    by_cases hl : lowF fr tight pre.length ≤ y
    ·exact ⟨r ++ brF m A fr tight rem pre y, by rw [partF_succ hl, hr, List.append_assoc]⟩
    ·rw [partF_lo (by omega), partF_lo (by omega)]; exact ⟨[], rfl⟩
theorem range_push {x : Nat} (h : ∀ k, k < pre.length → 0 ≤ geti pre k ∧ geti pre k ≤ 7) (hx : x < 8) : ∀ k, k < (pre ++ [(x : Int)]).length → 0 ≤ geti (pre ++ [(x : Int)]) k ∧ geti (pre ++ [(x : Int)]) k ≤ 7 := by
 intro k hk
 by_cases hkl : k < pre.length
 ·rw [geti_append hkl]; exact h k hkl
 ·rw [show k = pre.length from by simp at hk; omega, geti_snoc]; omega
end
end Go.Proofs.YtbekpololmahoaaGreatDoor
