/- The false openings of partial cuts, as the program finds them. No conditions. -/
import Derived.Test.YtlfnadmbelngeaaLocksR
namespace Go.Proofs.Ytlfnadmbelngeaa
open Go.RowKit
set_option linter.unusedVariables false
set_option linter.unusedSimpArgs false

/-- The false openings of row i among the first k doors. -/
def falseTo (t cuts : List (List Int)) (locks : List (List (List Int))) (i : Nat) : Nat → List (List Int)
  | 0 => []
  | k + 1 => if geti (getl t i) k = 0 ∧ opensB (getll locks k) (getl cuts i) = true then falseTo t cuts locks i k ++ [[(i : Int), (k : Int)]] else falseTo t cuts locks i k
/-- Those of the first i rows, at D doors. -/
def falseRows (t cuts : List (List Int)) (locks : List (List (List Int))) (D : Nat) : Nat → List (List Int)
  | 0 => []
  | i + 1 => falseRows t cuts locks D i ++ falseTo t cuts locks i D
def falseL (n : Nat) (t cuts : List (List Int)) : List (List Int) := falseRows t cuts (locksTo n t cuts (getl t 0).length) (getl t 0).length cuts.length
theorem falseTo_len (t cuts : List (List Int)) (locks : List (List (List Int))) (i : Nat) : ∀ k, (falseTo t cuts locks i k).length ≤ k
  | 0 => Nat.le_refl _
  | k + 1 => by have := falseTo_len t cuts locks i k; unfold falseTo; split <;> simp <;> omega
theorem falseRows_len (t cuts : List (List Int)) (locks : List (List (List Int))) (D : Nat) : ∀ i, (falseRows t cuts locks D i).length ≤ i * D
  | 0 => by simp [falseRows]
  | i + 1 => by have := falseRows_len t cuts locks D i; have := falseTo_len t cuts locks i D; rw [falseRows, List.length_append, Nat.succ_mul]; omega
theorem mem_falseTo {t cuts : List (List Int)} {locks : List (List (List Int))} {i : Nat} {x : List Int} : ∀ {k}, x ∈ falseTo t cuts locks i k ↔ ∃ d : Nat, d < k ∧ x = [(i : Int), (d : Int)] ∧ geti (getl t i) d = 0 ∧ opensB (getll locks d) (getl cuts i) = true
  | 0 => by simp [falseTo]
  | k + 1 => by
    unfold falseTo
    split
    · rename_i h
      rw [List.mem_append, mem_falseTo]
      constructor
      · rintro (⟨d, h1, h2⟩ | h1)
        · exact ⟨d, by omega, h2⟩
        · exact ⟨k, by omega, List.mem_singleton.1 h1, h⟩
      · rintro ⟨d, h1, h2, h3⟩
        by_cases e : d = k
        · subst e; right; exact List.mem_singleton.2 h2
        · exact .inl ⟨d, by omega, h2, h3⟩
    · rename_i h
      rw [mem_falseTo]
      constructor
      · rintro ⟨d, h1, h2⟩; exact ⟨d, by omega, h2⟩
      · rintro ⟨d, h1, h2, h3⟩
        refine ⟨d, ?_, h2, h3⟩
        by_cases e : d = k
        · subst e; exact absurd h3 h
        · omega
theorem mem_falseRows {t cuts : List (List Int)} {locks : List (List (List Int))} {D : Nat} {x : List Int} : ∀ {r}, x ∈ falseRows t cuts locks D r ↔ ∃ i d : Nat, i < r ∧ d < D ∧ x = [(i : Int), (d : Int)] ∧ geti (getl t i) d = 0 ∧ opensB (getll locks d) (getl cuts i) = true
  | 0 => by simp [falseRows]
  | r + 1 => by
    rw [falseRows, List.mem_append, mem_falseRows, mem_falseTo]
    constructor
    · rintro (⟨i, d, h1, h2⟩ | ⟨d, h1, h2⟩)
      · exact ⟨i, d, by omega, h2⟩
      · exact ⟨r, d, by omega, h1, h2⟩
    · rintro ⟨i, d, h1, h2, h3⟩
      by_cases e : i = r
      · subst e; exact .inr ⟨d, h2, h3⟩
      · exact .inl ⟨i, d, by omega, h2, h3⟩
/-- wp_app1 where the size of the heap is spelled otherwise. -/
theorem wp_app1h {P : Program} (w0 : World) (H : Nat) (hH : w0.heap.size = H) {ops : Array Oper} {rest : List Oper} {o : Oper} {a : Act} {Q : Exit → Act → World → Prop} (hgd : o.guard = none) (s x : Operand) (t : TypeId)
    (ho : o.op = .call { callee := .builtin .append, args := #[s, x], argTypes := #[t, t] })
    (base : Nat) (e : TypeId) (z : Value) (bytes : Nat) (ht : P.underlying t = some (.slice e)) (h2 : (P.info? e).map (fun i => (i.zero, i.size, i.bytes)) = some (some z, 1, bytes)) (hzs : z.cells.size = 1)
    (v : Value) (n : Nat) (xs : List Value) (hs : a.eval s = v) (hown : w0.ownsRow base e 1 v n xs) (nv : Value) (e2 : TypeId) (hx : a.eval x = .slice (some ⟨H, 0, none⟩) 1 1) (hone : nv.oneCell' = true)
    (hn : n + 1 ≤ 1000000000) (hby : bytes ≤ 1000) (hbase : base ≤ w0.heap.size)
    (h : ∀ v' w', w'.ownsRow base e 1 v' (n + 1) (xs ++ [nv]) → w0.grownBy w' v.ownBlock → (v'.ownBlock = v.ownBlock ∨ ∃ g, v'.ownBlock = some g ∧ w0.heap.size ≤ g) → Below base w0 w' → wpList P ops Q rest (a.put o.dst v') w') :
    wpList P ops Q (o :: rest) a (w0.alloc (.cells #[nv] e2)) := by
  subst hH
  exact wp_app1 w0 hgd s x t ho base e z bytes ht h2 hzs v n xs hs hown nv e2 hx hone hn hby hbase h
theorem lock_len {n : Nat} {t cuts : List (List Int)} {D k : Nat} (h : k < D) : (getll (locksTo n t cuts D) k).length = n := by
  rw [locksTo_get h, lockR, hullR_len]
theorem pair_X1 {w w1 : World} {x y : Int} {T : TypeId} (hb : Below (w.alloc (.cells #[.int .i64 x, .int .i64 y] T)).heap.size (w.alloc (.cells #[.int .i64 x, .int .i64 y] T)) w1) : X1 w1 (.slice (some ⟨w.heap.size, 0, none⟩) 2 2) [x, y] w.heap.size := by
  refine ⟨_, 2, rfl, Nat.le_refl _, by unfold maxLen; omega, fun _ => ⟨0, #[.int .i64 x, .int .i64 y], T, rfl, ?_, fun k hk => ?_⟩⟩
  · rw [hb.block _ (by simp)]; exact heap_alloc_self _ _
  · have : k < 2 := by simpa using hk
    rcases k with _ | _ | k
    · rfl
    · rfl
    · omega

/-- The locks lie between two sizes of the heap; what is being made lies elsewhere. -/
def LkAt (s1 s2 : Nat) (ou : Value) (w : World) (lv : Value) (locks : List (List (List Int))) : Prop :=
  V3 (fun b => s1 < b ∧ b < s2) w lv locks ∧ (∀ g, ou.ownBlock = some g → g = s1 ∨ s2 ≤ g) ∧ s2 ≤ w.heap.size
theorem LkAt.below {s1 s2 : Nat} {ou : Value} {w w' : World} {lv : Value} {locks : List (List (List Int))} (h : LkAt s1 s2 ou w lv locks) (hb : Below w.heap.size w w') : LkAt s1 s2 ou w' lv locks :=
  ⟨h.1.below hb, h.2.1, Nat.le_trans h.2.2 hb.size⟩
theorem LkAt.grown {s1 s2 : Nat} {ou ou' : Value} {w w' : World} {lv : Value} {locks : List (List (List Int))} (h : LkAt s1 s2 ou w lv locks) (hg : w.grownBy w' ou.ownBlock) (hblk : ou'.ownBlock = ou.ownBlock ∨ ∃ g, ou'.ownBlock = some g ∧ w.heap.size ≤ g) : LkAt s1 s2 ou' w' lv locks := by
  obtain ⟨h1, h2, h3⟩ := h
  refine ⟨h1.mono (fun _ h _ => h) (grow_keep hg fun g hgg hS => ?_), fun g hgg => ?_, Nat.le_trans h3 hg.size⟩
  · have := hS.1; have := hS.2; rcases h2 g hgg with e | e <;> omega
  · rcases hblk with e | ⟨g', e, hge⟩
    · exact h2 g (e.symm.trans hgg)
    · rw [hgg] at e; cases e; right; omega

set_option maxRecDepth 100000 in
set_option maxHeartbeats 2000000 in
theorem partFaults_any {S S' : Nat → Prop} (m : Mk) (u v : Value) (t cuts : List (List Int)) (n : Nat) (W : World) (hf : Fits m t cuts) (hn : (n : Int) = m.c) (h : V2 S W u t) (hc : V2 S' W v cuts) :
    Calls Try.prog 103 #[.agg #[.int .i64 m.c, .int .i64 m.d, .int .i64 m.s, .int .i64 m.e, .int .i64 m.l, u], v] W fun e' w' => ∃ v', e' = .returned v' ∧ F2 W.heap.size w' v' (falseL n t cuts) ∧ Below W.heap.size W w' := by
  obtain ⟨a, c, rfl, hmx⟩ := h.form
  obtain ⟨a', c', rfl, hmx'⟩ := hc.form
  have hrows := hf.rows
  have hdoors := hf.doors
  have hfew := hf.few
  have hcols := hf.cols
  have hlens : ∀ i, i < cuts.length → (getl cuts i).length = n := fun i hi => by have := hf.lens i hi; omega
  have Hcols := Lib.hid hcols; clear hcols
  have Hlens := Lib.hid hlens; clear hlens
  have Hf := Lib.hid (And.intro hf hn); clear hf hn
  obtain ⟨locks, hlocks⟩ : ∃ x, x = locksTo n t cuts (getl t 0).length := ⟨_, rfl⟩
  have hfin : falseL n t cuts = falseRows t cuts locks (getl t 0).length cuts.length := by rw [hlocks]; rfl
  rw [hfin]
  have hll : locks.length ≤ (getl t 0).length := by rw [hlocks, locksTo_len]; exact Nat.le_refl _
  have hlg : (getl t 0).length ≤ locks.length := by rw [hlocks, locksTo_len]; exact Nat.le_refl _
  have hlk : ∀ k, k < (getl t 0).length → (getll locks k).length = n := fun k hk => by rw [hlocks]; exact lock_len hk
  have Hlocks := Lib.hid hlocks; clear hlocks hfin
  have Hlk := Lib.hid hlk; clear hlk
  obtain ⟨W1, hW1, hB01, hz01, HZ01, hc01, hh01⟩ := box_facts W #[.int .i64 m.c, .int .i64 m.d, .int .i64 m.s, .int .i64 m.e, .int .i64 m.l, .slice a t.length c] 34
  have hV1 := (h.below hB01).any
  have hC1 := (hc.below hB01).any
  have hout0 := Out2.start W1 W1.heap.size (Nat.le_refl _)
  have Hout0 := Lib.hid hout0; clear hout0
  go_enter Try.func103, Try.ntmps103
  go_wp2_with fail
  rw [← hW1, show W.heap.size + 1 = W1.heap.size from HZ01.out.symm]
  have hbA : Below W1.heap.size W1 (W1.alloc (.cells #[] 27)) := (Below.refl _ _).alloc (Nat.le_refl _) _
  refine (partLocks_any m _ _ t cuts n _ Hf.out.1 Hf.out.2 (hV1.below hbA) (hC1.below hbA)).mono ?_
  rintro e' wL ⟨lv, rfl, hLk0, hbL⟩
  rw [← Hlocks.out] at hLk0
  have hLk1 : LkAt W1.heap.size wL.heap.size (.slice (some ⟨W1.heap.size, 0, none⟩) 0 0) wL lv locks := ⟨hLk0.mono (fun b h1 h2 => ⟨by simp at h1; omega, h2⟩) (fun _ _ _ => rfl), fun g hg => .inl (by cases hg; rfl), Nat.le_refl _⟩
  have hBL := hbA.trans (hbL.mono (by simp))
  have hzL := hBL.size
  have hO0 := Out2.keep Hout0.out hbL
  obtain ⟨la, lc, rfl, hlm⟩ := hLk0.form
  have HLk1 := Lib.hid hLk1; clear hLk1
  have HW1 := Lib.hid hW1; clear hW1 hh01
  have hxL : ∀ o, wL.cell? ⟨W.heap.size, o, none⟩ = (#[.int .i64 m.c, .int .i64 m.d, .int .i64 m.s, .int .i64 m.e, .int .i64 m.l, .slice a t.length c] : Array Value)[o]? := fun o => by rw [(bcell hBL).1 _ _ hz01, hc01]
  have Hc01 := Lib.hid hc01; clear hc01
  have HO0 := Lib.hid hO0; clear hO0 hLk0 hbA hbL Hout0
  go_wp2_with fail
  clear hxL
  go_loopw [5, 7, 8, 9, 10, 17] (fun ou _ _ _ _ j wr => ∃ i : Nat, i ≤ cuts.length ∧ j = .int .i64 (i : Int) ∧ Out2 W1.heap.size wr ou (falseRows t cuts locks (getl t 0).length i) ∧ LkAt W1.heap.size wL.heap.size ou wr (.slice la locks.length lc) locks ∧ Below W1.heap.size W1 wr) (fun _ _ _ _ _ j _ => cuts.length - (intOf j).toNat)
  case atStart => exact ⟨0, Nat.zero_le _, rfl, HO0.out, HLk1.out, hBL⟩
  case round =>
    obtain ⟨i, hi, rfl, hO, hLo, hB1o⟩ := hrel
    obtain ⟨wo, rfl⟩ : ∃ wo, wo = wr := ⟨_, rfl⟩
    have hzo := hB1o.size
    by_cases hii : i < cuts.length
    · obtain ⟨b1, off1, a1, c1, rfl, _, hc1', hr1'⟩ := hC1.cell hii
      have hc1 := cell_keep hc1' (hB1o.block _ (lt_of_cell hc1'))
      clear hc1'
      have hgl : (getl cuts i).length ≤ maxLen := hr1'.len
      unfold maxLen at hgl
      have hrl := falseRows_len t cuts locks (getl t 0).length i
      have him : i * (getl t 0).length ≤ 10 * 12 := Nat.mul_le_mul (by omega) (by omega)
      have HO := Lib.hid hO; clear hO
      go_wp2_with fail
      clear hc1
      go_loopw [5, 9, 10, 24] (fun ou _ _ j wr => ∃ k : Nat, k ≤ (getl t 0).length ∧ j = .int .i64 (k : Int) ∧ Out2 W1.heap.size wr ou (falseRows t cuts locks (getl t 0).length i ++ falseTo t cuts locks i k) ∧ LkAt W1.heap.size wL.heap.size ou wr (.slice la locks.length lc) locks ∧ Below W1.heap.size W1 wr) (fun _ _ _ j _ => (getl t 0).length - (intOf j).toNat)
      case atStart => exact ⟨0, Nat.zero_le _, rfl, by simpa [falseTo] using HO.out, hLo, hB1o⟩
      case round =>
        obtain ⟨k, hk, rfl, hO, hLn, hBn⟩ := hrel
        have hzn := hBn.size
        have hzW : W.heap.size < wr.heap.size := by omega
        have hpl := falseTo_len t cuts locks i k
        have hal : (falseRows t cuts locks (getl t 0).length i ++ falseTo t cuts locks i k).length ≤ 1000 := by rw [List.length_append]; omega
        by_cases hkk : k < (getl t 0).length
        · have hit : i < t.length := by omega
          have hkl : k < locks.length := by omega
          have hkt : k < (getl t i).length := by rw [Hcols.out i hit]; exact hkk
          obtain ⟨b2, off2, a2, c2, rfl, _, hc2, hr2⟩ := hLn.1.cell hkl
          obtain ⟨b3, off3, a3, c3, rfl, _, hc3, hr3⟩ := (hV1.below hBn).cell hit
          obtain ⟨b4, off4, rfl, _, hc4⟩ := hr3.cell hkt
          have hl3 := hr3.len
          unfold maxLen at hl3
          have hxr : ∀ o, wr.cell? ⟨W.heap.size, o, none⟩ = (#[.int .i64 m.c, .int .i64 m.d, .int .i64 m.s, .int .i64 m.e, .int .i64 m.l, .slice (some ⟨b3, off3, none⟩) t.length c] : Array Value)[o]? := fun o => by rw [(bcell hBn).1 _ _ hz01, Hc01.out]
          have hb2 := lt_of_cell hc2
          have hb3 := lt_of_cell hc3
          have hb4 := lt_of_cell hc4
          simp only at hb2 hb3 hb4
          obtain ⟨vs, bk, g1, g2, g3⟩ := hO
          have G := Lib.hid (And.intro g1 (And.intro g2 g3)); clear g1 g2 g3
          by_cases h1 : geti (getl t i) k = 0
          · have e1 : (geti (getl t i) k == 0) = true := by simp [h1]
            have hbA : Below wr.heap.size wr (wr.alloc (.cells #[.slice a2 (getll locks k).length c2] 62)) := (Below.refl _ _).alloc (Nat.le_refl _) _
            have hlen : (getl cuts i).length ≤ (getll locks k).length := by rw [Hlk.out k hkk, Hlens.out i hii]; exact Nat.le_refl _
            cases ho : opensB (getll locks k) (getl cuts i)
            · have hst : falseTo t cuts locks i (k + 1) = falseTo t cuts locks i k := by rw [falseTo, if_neg (by rw [ho]; simp)]
              have Hst := Lib.hid hst; clear hst
              have Ho := Lib.hid ho; clear ho
              have H1 := Lib.hid h1; clear h1
              go_wp2_with fail
              refine (opens_b _ _ (getll locks k) (getl cuts i) _ _ Ho.out (hr2.below hbA) ((hr1'.below hBn).below hbA) hlen).mono ?_
              rintro e' w5 ⟨rfl, hb5⟩
              have hb05 := hbA.trans (hb5.mono (by simp))
              clear hxr hc2 hc3 hc4 hr2 hr3 hbA
              go_wp2_with fail
              go_roundw
              case rel => exact ⟨k + 1, by omega, by go_num, by rw [Hst.out]; exact Out2.keep ⟨vs, bk, G.out.1, G.out.2.1, G.out.2.2⟩ hb05, hLn.below hb05, hBn.trans (hb05.mono hzn)⟩
              case measure => simp [intOf]; omega
            · have hst : falseTo t cuts locks i (k + 1) = falseTo t cuts locks i k ++ [[(i : Int), (k : Int)]] := by rw [falseTo, if_pos ⟨h1, ho⟩]
              have Hst := Lib.hid hst; clear hst
              have Ho := Lib.hid ho; clear ho
              have H1 := Lib.hid h1; clear h1
              go_wp2_with fail
              refine (opens_b _ _ (getll locks k) (getl cuts i) _ _ Ho.out (hr2.below hbA) ((hr1'.below hBn).below hbA) hlen).mono ?_
              rintro e' w5 ⟨rfl, hb5⟩
              have hb05 := hbA.trans (hb5.mono (by simp))
              have hz5 := hb05.size
              have hown5 := (own_chg G.out.1 (Chg.of_below (F := fun _ => False) hb05) (fun _ _ h => h)).alloc (.cells #[.int .i64 i, .int .i64 k] 2)
              clear hxr hc2 hc3 hc4 hr2 hr3 hbA
              go_wp2_with (at_builtin; refine wp_app1h (w5.alloc (.cells #[.int .i64 i, .int .i64 k] 2)) (w5.heap.size + 1) (by simp) rfl _ _ 24 rfl W1.heap.size 27 (.slice none 0 0) 24 Try.underlying24 inf_ints rfl u5 _ _ rfl hown5 (.slice (some ⟨w5.heap.size, 0, none⟩) 2 2) _ rfl rfl (by omega) (by omega) (by simp; omega) ?_; intro v1 w1 hown1 hgrow1 hblk1 hB1)
              go_roundw
              case rel =>
                refine ⟨k + 1, by omega, by go_num, ?_, (hLn.below (hb05.alloc (by omega) _)).grown hgrow1 hblk1, ((hBn.trans (hb05.mono hzn)).alloc (by omega) _).trans hB1⟩
                rw [Hst.out, ← List.append_assoc]
                exact Out2.push (l := [(i : Int), (k : Int)]) (b := w5.heap.size) G.out.1 G.out.2.1 G.out.2.2 (by omega) (hb05.alloc (by omega) _) (pair_X1 (Below.refl _ _)) (fun _ => by omega) hown1 hgrow1 hblk1
              case measure => simp [intOf]; omega
          · have e1 : (geti (getl t i) k == 0) = false := by simp [h1]
            have hst : falseTo t cuts locks i (k + 1) = falseTo t cuts locks i k := by rw [falseTo, if_neg (fun h => h1 h.1)]
            have Hst := Lib.hid hst; clear hst
            have H1 := Lib.hid h1; clear h1
            have hbA : Below wr.heap.size wr (wr.alloc (.cells #[.slice a2 (getll locks k).length c2] 62)) := (Below.refl _ _).alloc (Nat.le_refl _) _
            go_wp2_with fail
            go_roundw
            case rel => exact ⟨k + 1, by omega, by go_num, by rw [Hst.out]; exact Out2.keep ⟨vs, bk, G.out.1, G.out.2.1, G.out.2.2⟩ hbA, hLn.below hbA, hBn.trans (hbA.mono hzn)⟩
            case measure => simp [intOf]; omega
        · obtain rfl : k = (getl t 0).length := by omega
          have hkl : ¬ (getl t 0).length < locks.length := by omega
          have hst : falseRows t cuts locks (getl t 0).length (i + 1) = falseRows t cuts locks (getl t 0).length i ++ falseTo t cuts locks i (getl t 0).length := rfl
          have Hst := Lib.hid hst; clear hst
          have HO2 := Lib.hid hO; clear hO
          go_wp2_with fail
          go_roundw
          case rel => exact ⟨i + 1, by omega, by go_num, by rw [Hst.out]; exact HO2.out, hLn, hBn⟩
          case measure => simp [intOf]; omega
    · obtain rfl : i = cuts.length := by omega
      have hfx := hO.f2
      have Hfx := Lib.hid hfx; clear hfx
      go_wp2_with fail
      go_ret
      exact ⟨_, rfl, F2.mono Hfx.out (by omega), hB01.trans (hB1o.mono (by omega))⟩
end Go.Proofs.Ytlfnadmbelngeaa
