/- The reference's draws of makers and keys. No conditions. -/
import Derived.Laws.Cover1
import Derived.Test.YtmjplkbmhdkggaaGreatMTable
import Derived.Test.YtmjplkbmhdkggaaGreatMNext
import Derived.Test.YtmjplkbmhdkggaaGreatMShelf0
import Derived.Test.YtmjplkbmhdkggaaGreatMLib
import Derived.Test.YtmjplkbmhdkggaaGreatMEach5
namespace Go.Proofs.YtmjplkbmhdkggaaGreat
open Go.RowKit
set_option linter.unusedVariables false
set_option linter.unusedSimpArgs false
theorem F1.only {B SB : Nat} {w w' : World} {v : Value} {l : List Int} (h : F1 B w v l) (hc : Only SB w w') (hs : SB < B) : F1 B w' v l := by
 obtain ⟨b, h1, h2⟩ := h
 exact ⟨b, h1.keep fun hn => hc.block b (h1.lt hn) (fun e => by have := h2 hn; omega), h2⟩
theorem F2.only {B SB : Nat} {w w' : World} {v : Value} {ls : List (List Int)} (h : F2 B w v ls) (hc : Only SB w w') (hs : SB < B) : F2 B w' v ls := by
 obtain ⟨ob, bk, h1, h2, h3⟩ := h
 exact ⟨ob, bk, h1.keep (fun hn => hc.block ob (h1.lt hn).1 (fun e => by have := h2 hn; omega)) (fun k hk hn => hc.block _ ((h1.lt (by intro e; subst e; simp at hk)).2 k hk hn) (fun e => by have := h3 k hk hn; omega)), h2, h3⟩
theorem own_only {B SB : Nat} {E : TypeId} {w w' : World} {v : Value} {n : Nat} {xs : List Value} (h : w.ownsRow B E 1 v n xs) (hc : Only SB w w') (hs : SB < B) : w'.ownsRow B E 1 v n xs :=
 own_chg h hc (fun g hg e => by have := (h.lt g hg).1; omega)
theorem Only.setNew {SB b off : Nat} {w0 w : World} (h : Only SB w0 w) (hb : w0.heap.size ≤ b) (u : Value) : Only SB w0 (w.setCell ⟨b, off, none⟩ u) := Chg.setCell h (p := ⟨b, off, none⟩) (.inr hb) u
theorem Src.only {B0 SB : Nat} {w w' : World} (h : Src B0 SB w) {b off : Nat} (hb : b ≠ SB) (hB : B0 ≤ b) (u : Value) (he : w' = w.setCell ⟨b, off, none⟩ u) : Src B0 SB w' := by
 subst he
 exact h.keep (F := fun i => i = b) ((Chg.refl (fun i => i = b) _).setCell (p := ⟨b, off, none⟩) (.inl rfl) u) (fun i hi => by subst hi; exact ⟨hB, hb⟩)
set_option maxRecDepth 100000 in
set_option maxHeartbeats 1000000 in
theorem l01From_any {S : Nat → Prop} (v : Value) (l : List Int) (W : World) (h : VB S W v l) :
  Calls Tryz.prog 69 #[v] W fun e w' => e = .returned (.pointer (some ⟨W.heap.size, 0, none⟩)) ∧ Src W.heap.size W.heap.size w' ∧ Below W.heap.size W w' := by
 have hV := h.mono (S' := fun b => b < W.heap.size) (fun _ _ h => h) (fun _ _ _ => rfl)
 obtain ⟨a, c, rfl, hm⟩ := hV.form
 have HV := Lib.hid hV; clear h hV
 have hbA : Below W.heap.size W (W.alloc (.cells #[.slice a l.length c, .int .i64 0, .int .i64 30011] 145)) := (Below.refl _ _).alloc (Nat.le_refl _) _
 have HA := Lib.hid hbA; clear hbA
 go_enter Tryz.func69, Tryz.ntmps69
 go_wp2_with fail
 go_loopw [4] (fun i wr => ∃ (k : Nat) (seed : Int), k ≤ l.length ∧ i = .int .i64 (k : Int) ∧ 0 ≤ seed ∧ seed < 2147483647 ∧ wr.heap[W.heap.size]? = some (.cells #[.slice a l.length c, .int .i64 0, .int .i64 seed] 145 (0, 0)) ∧ Below W.heap.size W wr) (fun i _ => l.length - (intOf i).toNat)
 case atStart => exact ⟨0, 30011, Nat.zero_le _, rfl, by omega, by omega, heap_alloc_self _ _, HA.out⟩
 case round =>
  obtain ⟨k, seed, hk, rfl, hs0, hs1, hh, hB⟩ := hrel
  by_cases hkk : k < l.length
  ·obtain ⟨b, off, rfl, hb, hcc, hr1, hr2⟩ := (HV.out.mono (fun _ h _ => h) (Below.keep hB fun b hb _ => hb)).cell hkk
   have hbS : ¬ b = W.heap.size := fun e => by have h3 : b < W.heap.size := hb; omega
   obtain ⟨x, hx⟩ : ∃ x, geti l k = x := ⟨_, rfl⟩
   rw [hx] at hcc hr1 hr2
   have c0 : wr.cell? ⟨W.heap.size, 2, none⟩ = some (.int .i64 seed) := by rw [cell_of_block hh]; rfl
   have f0 := frozen_of_block hh 2
   have hk1 : decide (k < l.length) = true := decide_eq_true hkk
   have hdr : ∀ u : World, u.drew.heap = u.heap := fun _ => rfl
   by_cases h64 : (k : Int) < 64
   ·have hd : decide ((k : Int) < 64) = true := decide_eq_true h64
    have Hh := Lib.hid (And.intro hh (And.intro hB hx)); clear hh hB hx
    go_wp2_with fail
    go_region
    all_goals
     go_wp2_with fail
     go_roundw
     case rel =>
      refine ⟨k + 1, (seed * 67 + x) % 2147483647, by omega, by go_num, by omega, by omega, ?_, ?_⟩
      ·rw [hdr, heap_setCell_self Hh.out.1]; simp
      ·exact (Hh.out.2.1.setCell (Nat.le_refl _) _).drew
     case measure => simp [intOf]; omega
   ·have hd : decide ((k : Int) < 64) = false := decide_eq_false h64
    have Hh := Lib.hid (And.intro hh hB); clear hh hB
    go_wp2_with fail
    go_ret
    exact ⟨rfl, ⟨Nat.le_refl _, _, _, _, 0, seed, Hh.out.1, HV.out.mono (fun _ h _ => h) (Below.keep Hh.out.2 fun b hb _ => hb), Nat.zero_le _, hs0, hs1⟩, Hh.out.2⟩
  ·have hk1 : decide (k < l.length) = false := decide_eq_false hkk
   have Hh := Lib.hid (And.intro hh hB); clear hh hB
   go_wp2_with fail
   go_ret
   exact ⟨rfl, ⟨Nat.le_refl _, _, _, _, 0, seed, Hh.out.1, HV.out.mono (fun _ h _ => h) (Below.keep Hh.out.2 fun b hb _ => hb), Nat.zero_le _, hs0, hs1⟩, Hh.out.2⟩
/-- A maker that is being drawn: its block, and the block of the answer. -/
structure Mks (B0 SB RB MB : Nat) (W w : World) (c d s e l : Int) : Prop where
 src : Src B0 SB w
 only : Only SB W w
 hr : w.heap[RB]? = some (.cells #[.int .i64 0, .int .i64 0, .int .i64 0, .int .i64 0, .int .i64 0] 31 (0, 0))
 hm : w.heap[MB]? = some (.cells #[.int .i64 c, .int .i64 d, .int .i64 s, .int .i64 e, .int .i64 l] 31 (0, 0))
 ne : RB ≠ SB ∧ MB ≠ SB ∧ RB ≠ MB ∧ W.heap.size ≤ RB ∧ W.heap.size ≤ MB ∧ B0 ≤ RB ∧ B0 ≤ MB
theorem Mks.go {B0 SB RB MB : Nat} {W w w' : World} {c d s e l : Int} (h : Mks B0 SB RB MB W w c d s e l) (hs : Src B0 SB w') (ho : Only SB w w') : Mks B0 SB RB MB W w' c d s e l :=
 ⟨hs, h.only.trans ho, ho.heap h.hr (fun e => h.ne.1 e), ho.heap h.hm (fun e => h.ne.2.1 e), h.ne⟩
theorem Mks.put {B0 SB RB MB : Nat} {W w : World} {c d s e l c' d' s' e' l' : Int} {o : Nat} {v : Value} (h : Mks B0 SB RB MB W w c d s e l) (hc : (#[Value.int .i64 c, .int .i64 d, .int .i64 s, .int .i64 e, .int .i64 l] : Array Value).setIfInBounds o v = #[.int .i64 c', .int .i64 d', .int .i64 s', .int .i64 e', .int .i64 l']) :
  Mks B0 SB RB MB W (w.setCell ⟨MB, o, none⟩ v) c' d' s' e' l' := by
 obtain ⟨n1, n2, n3, n4, n5, n6, n7⟩ := h.ne
 exact ⟨h.src.only n2 n7 v rfl, h.only.setNew n5 v, (heap_setCell_other _ n3).trans h.hr, by rw [heap_setCell_self h.hm, hc], h.ne⟩
theorem Mks.cell {B0 SB RB MB : Nat} {W w : World} {c d s e l : Int} (h : Mks B0 SB RB MB W w c d s e l) (o : Nat) : w.cell? ⟨MB, o, none⟩ = (#[.int .i64 c, .int .i64 d, .int .i64 s, .int .i64 e, .int .i64 l] : Array Value)[o]? := by rw [cell_of_block h.hm]
theorem Mks.rcell {B0 SB RB MB : Nat} {W w : World} {c d s e l : Int} (h : Mks B0 SB RB MB W w c d s e l) (o : Nat) : w.cell? ⟨RB, o, none⟩ = (#[.int .i64 0, .int .i64 0, .int .i64 0, .int .i64 0, .int .i64 0] : Array Value)[o]? := by rw [cell_of_block h.hr]
/-- The end: the answer's block is written. -/
def putR (w : World) (RB : Nat) (v0 v1 v2 v3 v4 : Value) : World := ((((w.setCell ⟨RB, 0, none⟩ v0).setCell ⟨RB, 1, none⟩ v1).setCell ⟨RB, 2, none⟩ v2).setCell ⟨RB, 3, none⟩ v3).setCell ⟨RB, 4, none⟩ v4
theorem Mks.done {B0 SB RB MB : Nat} {W w : World} {c d s e l : Int} (h : Mks B0 SB RB MB W w c d s e l) (v0 v1 v2 v3 v4 : Value) : Src B0 SB (putR w RB v0 v1 v2 v3 v4) ∧ Only SB W (putR w RB v0 v1 v2 v3 v4) ∧ (putR w RB v0 v1 v2 v3 v4).heap[RB]? = some (.cells #[v0, v1, v2, v3, v4] 31 (0, 0)) := by
 obtain ⟨n1, n2, n3, n4, n5, n6, n7⟩ := h.ne
 refine ⟨((((h.src.only n1 n6 v0 rfl).only n1 n6 v1 rfl).only n1 n6 v2 rfl).only n1 n6 v3 rfl).only n1 n6 v4 rfl, ((((h.only.setNew n4 v0).setNew n4 v1).setNew n4 v2).setNew n4 v3).setNew n4 v4, ?_⟩
 unfold putR
 rw [heap_setCell_self (heap_setCell_self (heap_setCell_self (heap_setCell_self (heap_setCell_self h.hr _) _) _) _) _]
 simp
set_option maxRecDepth 100000 in
set_option maxHeartbeats 1000000 in
theorem l02Valid_any (B0 SB : Nat) (W : World) (h : Src B0 SB W) :
  Calls Tryz.prog 180 #[.pointer (some ⟨SB, 0, none⟩)] W fun e w' => ∃ m : Mk, e = .returned (.agg #[.int .i64 m.c, .int .i64 m.d, .int .i64 m.s, .int .i64 m.e, .int .i64 m.l]) ∧ (m.ok = true ∧ m.c ≤ 4 ∧ m.d ≤ 4) ∧ Src B0 SB w' ∧ Only SB W w' := by
 have hSl := h.lt
 have hB0 : B0 ≤ SB := h.1
 have hbA : Below W.heap.size W (W.alloc (.cells #[.int .i64 0, .int .i64 0, .int .i64 0, .int .i64 0, .int .i64 0] 31)) := (Below.refl _ _).alloc (Nat.le_refl _) _
 have hA := h.below hbA
 have hh0 := heap_alloc_self W (.cells #[.int .i64 0, .int .i64 0, .int .i64 0, .int .i64 0, .int .i64 0] 31)
 have HA := Lib.hid (And.intro hA (And.intro hbA hh0)); clear hA hbA h hh0
 go_enter Tryz.func180, Tryz.ntmps180
 go_wp2_with fail
 refine (l01Next_any B0 SB 3 _ HA.out.1).mono ?_
 rintro e' w1 ⟨x1, rfl, hx1, hs1, ho1⟩
 have HH1 := Lib.hid (And.intro hs1 ho1); clear hs1 ho1
 go_wp2_with fail
 refine (l01Next_any B0 SB 3 _ HH1.out.1).mono ?_
 rintro e' w2 ⟨x2, rfl, hx2, hs2, ho2⟩
 have hsz : W.heap.size + 1 ≤ w2.heap.size := by have h1 := HH1.out.2.size; have h2 := ho2.size; simp at h1; omega
 have hK : Mks B0 SB W.heap.size w2.heap.size W (w2.alloc (.cells #[.int .i64 (2 + x1), .int .i64 (2 + x2), .int .i64 0, .int .i64 0, .int .i64 0] 31)) (2 + x1) (2 + x2) 0 0 0 := by
  have hb2 : Below w2.heap.size w2 (w2.alloc (.cells #[.int .i64 (2 + x1), .int .i64 (2 + x2), .int .i64 0, .int .i64 0, .int .i64 0] 31)) := (Below.refl _ _).alloc (Nat.le_refl _) _
  have hr2 := ho2.heap (HH1.out.2.heap HA.out.2.2 (fun e => by omega)) (fun e => by omega)
  exact ⟨hs2.below hb2, (((Only.of_below HA.out.2.1).trans HH1.out.2).trans ho2).then_below hb2, (hb2.block _ (lt_of_heap hr2)).trans hr2, heap_alloc_self _ _, by omega, by omega, by omega, Nat.le_refl _, by omega, by omega, by omega⟩
 obtain ⟨w3, hw3⟩ : ∃ w3, w3 = w2.alloc (.cells #[.int .i64 (2 + x1), .int .i64 (2 + x2), .int .i64 0, .int .i64 0, .int .i64 0] 31) := ⟨_, rfl⟩
 rw [← hw3] at hK
 have Hw3 := Lib.hid hw3; clear hw3 hs2 ho2
 go_wp2_with fail
 rw [← Hw3.out]
 refine (l01Next_any B0 SB (2 + x2 - 1) _ hK.src).mono ?_
 rintro e' w4 ⟨x3, rfl, hx3, hs4, ho4⟩
 have hK := hK.go hs4 ho4
 clear hs4 ho4
 have hcm := hK.cell
 have hcr := hK.rcell
 have hfm := fun o => frozen_of_block hK.hm o
 have hfr := fun o => frozen_of_block hK.hr o
 have hK5 := hK.put (o := 2) (v := .int .i64 (1 + x3)) (c' := 2 + x1) (d' := 2 + x2) (s' := 1 + x3) (e' := 0) (l' := 0) (by simp)
 obtain ⟨w5, hw5⟩ : ∃ w5, w5 = w4.setCell ⟨w2.heap.size, 2, none⟩ (.int .i64 (1 + x3)) := ⟨_, rfl⟩
 rw [← hw5] at hK5
 have Hw5 := Lib.hid (And.intro hw5 hK5); clear hw5 hK hK5
 go_wp2_with fail
 rw [← Hw5.out.1]
 clear hcm hcr hfm hfr
 refine (l01Next_any B0 SB (2 + x1) _ Hw5.out.2.src).mono ?_
 rintro e' w6 ⟨x4, rfl, hx4, hs6, ho6⟩
 have hK := Hw5.out.2.go hs6 ho6
 clear hs6 ho6
 have hcm := hK.cell
 have hcr := hK.rcell
 have hfm := fun o => frozen_of_block hK.hm o
 have hfr := fun o => frozen_of_block hK.hr o
 have hK7 := hK.put (o := 3) (v := .int .i64 (1 + x4)) (c' := 2 + x1) (d' := 2 + x2) (s' := 1 + x3) (e' := 1 + x4) (l' := 0) (by simp)
 obtain ⟨w7, hw7⟩ : ∃ w7, w7 = w6.setCell ⟨w2.heap.size, 3, none⟩ (.int .i64 (1 + x4)) := ⟨_, rfl⟩
 rw [← hw7] at hK7
 have Hw7 := Lib.hid (And.intro hw7 hK7); clear hw7 hK hK7
 have hm1 : ¬ 2 + x1 < 2 := by omega
 have hm2 : ¬ 2 + x2 < 2 := by omega
 have hne1 : ¬ W.heap.size = w2.heap.size := by omega
 have hne2 : ¬ w2.heap.size = W.heap.size := by omega
 go_wp2_with fail
 rw [← Hw7.out.1]
 clear hcm hcr hfm hfr
 refine (l01Next_any B0 SB 2 _ Hw7.out.2.src).mono ?_
 rintro e' w8 ⟨x5, rfl, hx5, hs8, ho8⟩
 have hK := Hw7.out.2.go hs8 ho8
 clear hs8 ho8
 have hcm := hK.cell
 have hcr := hK.rcell
 have hfm := fun o => frozen_of_block hK.hm o
 have hfr := fun o => frozen_of_block hK.hr o
 have hK9 := hK.put (o := 4) (v := .int .i64 (1 + x5)) (c' := 2 + x1) (d' := 2 + x2) (s' := 1 + x3) (e' := 1 + x4) (l' := 1 + x5) (by simp)
 obtain ⟨w9, hw9⟩ : ∃ w9, w9 = w8.setCell ⟨w2.heap.size, 4, none⟩ (.int .i64 (1 + x5)) := ⟨_, rfl⟩
 rw [← hw9] at hK9
 have Hw9 := Lib.hid (And.intro hw9 hK9); clear hw9 hK hK9
 go_wp2_with fail
 rw [← Hw9.out.1]
 have hdone := Hw9.out.2.done (.int .i64 (2 + x1)) (.int .i64 (2 + x2)) (.int .i64 (1 + x3)) (.int .i64 (1 + x4)) (.int .i64 (1 + x5))
 obtain ⟨wz, hwz⟩ : ∃ wz, wz = putR w9 W.heap.size (.int .i64 (2 + x1)) (.int .i64 (2 + x2)) (.int .i64 (1 + x3)) (.int .i64 (1 + x4)) (.int .i64 (1 + x5)) := ⟨_, rfl⟩
 rw [← hwz] at hdone
 unfold putR at hwz
 rw [← hwz]
 obtain ⟨hd1, hd2, hd3⟩ := hdone
 have hz0 : wz.cell? ⟨W.heap.size, 0, none⟩ = some (.int .i64 (2 + x1)) := by rw [cell_of_block hd3]; rfl
 have hz1 : wz.cell? ⟨W.heap.size, 1, none⟩ = some (.int .i64 (2 + x2)) := by rw [cell_of_block hd3]; rfl
 have hz2 : wz.cell? ⟨W.heap.size, 2, none⟩ = some (.int .i64 (1 + x3)) := by rw [cell_of_block hd3]; rfl
 have hz3 : wz.cell? ⟨W.heap.size, 3, none⟩ = some (.int .i64 (1 + x4)) := by rw [cell_of_block hd3]; rfl
 have hz4 : wz.cell? ⟨W.heap.size, 4, none⟩ = some (.int .i64 (1 + x5)) := by rw [cell_of_block hd3]; rfl
 refine bodyPost_ret (v := .agg #[.int .i64 (2 + x1), .int .i64 (2 + x2), .int .i64 (1 + x3), .int .i64 (1 + x4), .int .i64 (1 + x5)]) (by simp [results, Tryz.results180, go_sem, hz0, hz1, hz2, hz3, hz4]) rfl ⟨⟨2 + x1, 2 + x2, 1 + x3, 1 + x4, 1 + x5⟩, rfl, ⟨Mk.ok_iff.2 ?_, ?_, ?_⟩, hd1, hd2⟩
 ·show (2 ≤ 2 + x1 ∧ 2 + x1 ≤ 6) ∧ (2 ≤ 2 + x2 ∧ 2 + x2 ≤ 8) ∧ (1 ≤ 1 + x3 ∧ 1 + x3 ≤ 2 + x2 - 1) ∧ (1 ≤ 1 + x4 ∧ 1 + x4 ≤ 2 + x1) ∧ (1 ≤ 1 + x5 ∧ 1 + x5 ≤ 2 + x1 ∧ 1 + x5 ≤ 2 + x2)
  omega
 ·show 2 + x1 ≤ 4; omega
 ·show 2 + x2 ≤ 4; omega
/-- A small list in new memory. -/
theorem lit_V1 (w : World) (T : TypeId) (l : List Int) (hl : l.length ≤ 1000) : V1 (fun b => b = w.heap.size) (w.alloc (.cells (l.map (Value.int .i64)).toArray T)) (.slice (some ⟨w.heap.size, 0, none⟩) l.length l.length) l := by
 refine ⟨_, _, rfl, Nat.le_refl _, by unfold maxLen; omega, fun k hk => ⟨w.heap.size, 0, .int .i64 (geti l k), rfl, rfl, ?_, rfl⟩⟩
 rw [cell_of_block (heap_alloc_self _ _), Nat.zero_add]
 simp [geti_eq hk, hk]
def SmallM (m : Mk) : Prop := (-1 ≤ m.c ∧ m.c ≤ 16) ∧ (-1 ≤ m.d ∧ m.d ≤ 16) ∧ (-1 ≤ m.s ∧ m.s ≤ 16) ∧ (-1 ≤ m.e ∧ m.e ≤ 16) ∧ (-1 ≤ m.l ∧ m.l ≤ 16)
theorem Mks.alloc {B0 SB RB MB : Nat} {W w : World} {c d s e l : Int} (h : Mks B0 SB RB MB W w c d s e l) (o : Obj) : Mks B0 SB RB MB W (w.alloc o) c d s e l := by
 have hb : Below w.heap.size w (w.alloc o) := (Below.refl _ _).alloc (Nat.le_refl _) _
 exact ⟨h.src.below hb, h.only.then_below hb, (hb.block _ (lt_of_heap h.hr)).trans h.hr, (hb.block _ (lt_of_heap h.hm)).trans h.hm, h.ne⟩
set_option maxRecDepth 100000 in
set_option maxHeartbeats 2000000 in
theorem l02Draw_any (B0 SB : Nat) (W : World) (h : Src B0 SB W) :
  Calls Tryz.prog 130 #[.pointer (some ⟨SB, 0, none⟩)] W fun e w' => ∃ m : Mk, e = .returned (.agg #[.int .i64 m.c, .int .i64 m.d, .int .i64 m.s, .int .i64 m.e, .int .i64 m.l]) ∧ SmallM m ∧ Src B0 SB w' ∧ Only SB W w' := by
 have hSl := h.lt
 have hB0 : B0 ≤ SB := h.1
 have hbA : Below W.heap.size W (W.alloc (.cells #[.int .i64 0, .int .i64 0, .int .i64 0, .int .i64 0, .int .i64 0] 31)) := (Below.refl _ _).alloc (Nat.le_refl _) _
 have hA := h.below hbA
 have hh0 := heap_alloc_self W (.cells #[.int .i64 0, .int .i64 0, .int .i64 0, .int .i64 0, .int .i64 0] 31)
 have HA := Lib.hid (And.intro hA (And.intro hbA hh0)); clear hA hbA h hh0
 go_enter Tryz.func130, Tryz.ntmps130
 go_wp2_with fail
 refine (l02Valid_any B0 SB _ HA.out.1).mono ?_
 rintro e' w1 ⟨⟨mc, md, ms, me, ml⟩, rfl, ⟨hmk, hc4, hd4⟩, hs1, ho1⟩
 have hmo := Mk.ok_iff.1 hmk
 have hmo : (2 ≤ mc ∧ mc ≤ 6) ∧ (2 ≤ md ∧ md ≤ 8) ∧ (1 ≤ ms ∧ ms ≤ md - 1) ∧ (1 ≤ me ∧ me ≤ mc) ∧ (1 ≤ ml ∧ ml ≤ mc ∧ ml ≤ md) := hmo
 have hc4 : mc ≤ 4 := hc4
 have hd4 : md ≤ 4 := hd4
 clear hmk
 have hsz : W.heap.size + 1 ≤ w1.heap.size := by have h1 := ho1.size; simp at h1; omega
 have hK : Mks B0 SB W.heap.size w1.heap.size W (w1.alloc (.cells #[.int .i64 mc, .int .i64 md, .int .i64 ms, .int .i64 me, .int .i64 ml] 31)) mc md ms me ml := by
  have hb2 : Below w1.heap.size w1 (w1.alloc (.cells #[.int .i64 mc, .int .i64 md, .int .i64 ms, .int .i64 me, .int .i64 ml] 31)) := (Below.refl _ _).alloc (Nat.le_refl _) _
  have hr2 := ho1.heap HA.out.2.2 (fun e => by omega)
  exact ⟨hs1.below hb2, ((Only.of_below HA.out.2.1).trans ho1).then_below hb2, (hb2.block _ (lt_of_heap hr2)).trans hr2, heap_alloc_self _ _, by omega, by omega, by omega, Nat.le_refl _, by omega, by omega, by omega⟩
 obtain ⟨w2, hw2⟩ : ∃ w2, w2 = w1.alloc (.cells #[.int .i64 mc, .int .i64 md, .int .i64 ms, .int .i64 me, .int .i64 ml] 31) := ⟨_, rfl⟩
 rw [← hw2] at hK
 have Hw2 := Lib.hid (And.intro hw2 hK); clear hw2 hs1 ho1 hK
 go_wp2_with fail
 rw [← Hw2.out.1]
 refine (l01Next_any B0 SB 30 _ Hw2.out.2.src).mono ?_
 rintro e' w3 ⟨x, rfl, hx, hs3, ho3⟩
 have hK := Hw2.out.2.go hs3 ho3
 clear hs3 ho3
 have hne1 : ¬ W.heap.size = w1.heap.size := by omega
 have hne2 : ¬ w1.heap.size = W.heap.size := by omega
 by_cases h0 : x = 0
 ·subst h0
  have hL := lit_V1 w3 2 [1, 6, 7] (by simp)
  have hKa := hK.alloc (.cells #[.int .i64 (1), .int .i64 (6), .int .i64 (7)] 2)
  obtain ⟨wa, hwa⟩ : ∃ wa, wa = w3.alloc (.cells #[.int .i64 (1), .int .i64 (6), .int .i64 (7)] 2) := ⟨_, rfl⟩
  have hL : V1 (fun b => b = w3.heap.size) wa (.slice (some ⟨w3.heap.size, 0, none⟩) 3 3) [1, 6, 7] := by rw [hwa]; exact hL
  rw [← hwa] at hKa
  have hsz3 : SB < w3.heap.size := hK.src.lt
  have HL := Lib.hid (And.intro hL (And.intro hKa hwa)); clear hL hKa hwa
  have hcm := hK.cell
  have hcr := hK.rcell
  have hfm := fun o => frozen_of_block hK.hm o
  have hfr := fun o => frozen_of_block hK.hr o
  have hK' := Lib.hid hK; clear hK
  go_wp2_with fail
  rw [← HL.out.2.2]
  clear hcm hcr hfm hfr
  refine (l01Pick_any B0 SB _ [1, 6, 7] wa HL.out.2.1.src HL.out.1 (fun b hb => by omega) (by simp)).mono ?_
  rintro e' w4 ⟨y, rfl, hy, hs4, ho4⟩
  have hyb : -1 ≤ y ∧ y ≤ 16 := by
   simp only [List.mem_cons, List.mem_nil_iff, or_false] at hy
   rcases hy with h | h | h <;> omega
  have hK := HL.out.2.1.go hs4 ho4
  clear hs4 ho4 hy
  have hcm := hK.cell
  have hcr := hK.rcell
  have hfm := fun o => frozen_of_block hK.hm o
  have hfr := fun o => frozen_of_block hK.hr o
  have hK5 := hK.put (o := 0) (v := .int .i64 y) (c' := y) (d' := md) (s' := ms) (e' := me) (l' := ml) (by simp)
  obtain ⟨w5, hw5⟩ : ∃ w5, w5 = w4.setCell ⟨w1.heap.size, 0, none⟩ (.int .i64 y) := ⟨_, rfl⟩
  rw [← hw5] at hK5
  have Hw5 := Lib.hid (And.intro hw5 hK5); clear hw5 hK hK5
  go_wp2_with fail
  (try rw [← Hw5.out.1])
  have hdone := Hw5.out.2.done (.int .i64 (y)) (.int .i64 (md)) (.int .i64 (ms)) (.int .i64 (me)) (.int .i64 (ml))
  obtain ⟨wz, hwz⟩ : ∃ wz, wz = putR w5 W.heap.size (.int .i64 (y)) (.int .i64 (md)) (.int .i64 (ms)) (.int .i64 (me)) (.int .i64 (ml)) := ⟨_, rfl⟩
  rw [← hwz] at hdone
  unfold putR at hwz
  rw [← hwz]
  obtain ⟨hd1, hd2, hd3⟩ := hdone
  have hz0 : wz.cell? ⟨W.heap.size, 0, none⟩ = some (.int .i64 (y)) := by rw [cell_of_block hd3]; rfl
  have hz1 : wz.cell? ⟨W.heap.size, 1, none⟩ = some (.int .i64 (md)) := by rw [cell_of_block hd3]; rfl
  have hz2 : wz.cell? ⟨W.heap.size, 2, none⟩ = some (.int .i64 (ms)) := by rw [cell_of_block hd3]; rfl
  have hz3 : wz.cell? ⟨W.heap.size, 3, none⟩ = some (.int .i64 (me)) := by rw [cell_of_block hd3]; rfl
  have hz4 : wz.cell? ⟨W.heap.size, 4, none⟩ = some (.int .i64 (ml)) := by rw [cell_of_block hd3]; rfl
  refine bodyPost_ret (v := .agg #[.int .i64 (y), .int .i64 (md), .int .i64 (ms), .int .i64 (me), .int .i64 (ml)]) (by simp [results, Tryz.results130, go_sem, hz0, hz1, hz2, hz3, hz4]) rfl ⟨⟨y, md, ms, me, ml⟩, rfl, ?_, hd1, hd2⟩
  show (-1 ≤ y ∧ y ≤ 16) ∧ (-1 ≤ md ∧ md ≤ 16) ∧ (-1 ≤ ms ∧ ms ≤ 16) ∧ (-1 ≤ me ∧ me ≤ 16) ∧ (-1 ≤ ml ∧ ml ≤ 16)
  omega
 ·have e0 : (x == 0) = false := by rw [beq_eq_false_iff_ne]; exact h0
  by_cases h1 : x = 1
  ·subst h1
   have hL := lit_V1 w3 2 [1, 8, 9] (by simp)
   have hKa := hK.alloc (.cells #[.int .i64 (1), .int .i64 (8), .int .i64 (9)] 2)
   obtain ⟨wa, hwa⟩ : ∃ wa, wa = w3.alloc (.cells #[.int .i64 (1), .int .i64 (8), .int .i64 (9)] 2) := ⟨_, rfl⟩
   have hL : V1 (fun b => b = w3.heap.size) wa (.slice (some ⟨w3.heap.size, 0, none⟩) 3 3) [1, 8, 9] := by rw [hwa]; exact hL
   rw [← hwa] at hKa
   have hsz3 : SB < w3.heap.size := hK.src.lt
   have HL := Lib.hid (And.intro hL (And.intro hKa hwa)); clear hL hKa hwa
   have hcm := hK.cell
   have hcr := hK.rcell
   have hfm := fun o => frozen_of_block hK.hm o
   have hfr := fun o => frozen_of_block hK.hr o
   have hK' := Lib.hid hK; clear hK
   go_wp2_with fail
   rw [← HL.out.2.2]
   clear hcm hcr hfm hfr
   refine (l01Pick_any B0 SB _ [1, 8, 9] wa HL.out.2.1.src HL.out.1 (fun b hb => by omega) (by simp)).mono ?_
   rintro e' w4 ⟨y, rfl, hy, hs4, ho4⟩
   have hyb : -1 ≤ y ∧ y ≤ 16 := by
    simp only [List.mem_cons, List.mem_nil_iff, or_false] at hy
    rcases hy with h | h | h <;> omega
   have hK := HL.out.2.1.go hs4 ho4
   clear hs4 ho4 hy
   have hcm := hK.cell
   have hcr := hK.rcell
   have hfm := fun o => frozen_of_block hK.hm o
   have hfr := fun o => frozen_of_block hK.hr o
   have hK5 := hK.put (o := 1) (v := .int .i64 y) (c' := mc) (d' := y) (s' := ms) (e' := me) (l' := ml) (by simp)
   obtain ⟨w5, hw5⟩ : ∃ w5, w5 = w4.setCell ⟨w1.heap.size, 1, none⟩ (.int .i64 y) := ⟨_, rfl⟩
   rw [← hw5] at hK5
   have Hw5 := Lib.hid (And.intro hw5 hK5); clear hw5 hK hK5
   go_wp2_with fail
   (try rw [← Hw5.out.1])
   have hdone := Hw5.out.2.done (.int .i64 (mc)) (.int .i64 (y)) (.int .i64 (ms)) (.int .i64 (me)) (.int .i64 (ml))
   obtain ⟨wz, hwz⟩ : ∃ wz, wz = putR w5 W.heap.size (.int .i64 (mc)) (.int .i64 (y)) (.int .i64 (ms)) (.int .i64 (me)) (.int .i64 (ml)) := ⟨_, rfl⟩
   rw [← hwz] at hdone
   unfold putR at hwz
   rw [← hwz]
   obtain ⟨hd1, hd2, hd3⟩ := hdone
   have hz0 : wz.cell? ⟨W.heap.size, 0, none⟩ = some (.int .i64 (mc)) := by rw [cell_of_block hd3]; rfl
   have hz1 : wz.cell? ⟨W.heap.size, 1, none⟩ = some (.int .i64 (y)) := by rw [cell_of_block hd3]; rfl
   have hz2 : wz.cell? ⟨W.heap.size, 2, none⟩ = some (.int .i64 (ms)) := by rw [cell_of_block hd3]; rfl
   have hz3 : wz.cell? ⟨W.heap.size, 3, none⟩ = some (.int .i64 (me)) := by rw [cell_of_block hd3]; rfl
   have hz4 : wz.cell? ⟨W.heap.size, 4, none⟩ = some (.int .i64 (ml)) := by rw [cell_of_block hd3]; rfl
   refine bodyPost_ret (v := .agg #[.int .i64 (mc), .int .i64 (y), .int .i64 (ms), .int .i64 (me), .int .i64 (ml)]) (by simp [results, Tryz.results130, go_sem, hz0, hz1, hz2, hz3, hz4]) rfl ⟨⟨mc, y, ms, me, ml⟩, rfl, ?_, hd1, hd2⟩
   show (-1 ≤ mc ∧ mc ≤ 16) ∧ (-1 ≤ y ∧ y ≤ 16) ∧ (-1 ≤ ms ∧ ms ≤ 16) ∧ (-1 ≤ me ∧ me ≤ 16) ∧ (-1 ≤ ml ∧ ml ≤ 16)
   omega
  ·have e1 : (x == 1) = false := by rw [beq_eq_false_iff_ne]; exact h1
   by_cases h2 : x = 2
   ·subst h2
    have hL := lit_V1 w3 2 [0, md - 1, md] (by simp)
    have hKa := hK.alloc (.cells #[.int .i64 (0), .int .i64 (md - 1), .int .i64 (md)] 2)
    obtain ⟨wa, hwa⟩ : ∃ wa, wa = w3.alloc (.cells #[.int .i64 (0), .int .i64 (md - 1), .int .i64 (md)] 2) := ⟨_, rfl⟩
    have hL : V1 (fun b => b = w3.heap.size) wa (.slice (some ⟨w3.heap.size, 0, none⟩) 3 3) [0, md - 1, md] := by rw [hwa]; exact hL
    rw [← hwa] at hKa
    have hsz3 : SB < w3.heap.size := hK.src.lt
    have HL := Lib.hid (And.intro hL (And.intro hKa hwa)); clear hL hKa hwa
    have hcm := hK.cell
    have hcr := hK.rcell
    have hfm := fun o => frozen_of_block hK.hm o
    have hfr := fun o => frozen_of_block hK.hr o
    have hK' := Lib.hid hK; clear hK
    go_wp2_with fail
    rw [← HL.out.2.2]
    clear hcm hcr hfm hfr
    refine (l01Pick_any B0 SB _ [0, md - 1, md] wa HL.out.2.1.src HL.out.1 (fun b hb => by omega) (by simp)).mono ?_
    rintro e' w4 ⟨y, rfl, hy, hs4, ho4⟩
    have hyb : -1 ≤ y ∧ y ≤ 16 := by
     simp only [List.mem_cons, List.mem_nil_iff, or_false] at hy
     rcases hy with h | h | h <;> omega
    have hK := HL.out.2.1.go hs4 ho4
    clear hs4 ho4 hy
    have hcm := hK.cell
    have hcr := hK.rcell
    have hfm := fun o => frozen_of_block hK.hm o
    have hfr := fun o => frozen_of_block hK.hr o
    have hK5 := hK.put (o := 2) (v := .int .i64 y) (c' := mc) (d' := md) (s' := y) (e' := me) (l' := ml) (by simp)
    obtain ⟨w5, hw5⟩ : ∃ w5, w5 = w4.setCell ⟨w1.heap.size, 2, none⟩ (.int .i64 y) := ⟨_, rfl⟩
    rw [← hw5] at hK5
    have Hw5 := Lib.hid (And.intro hw5 hK5); clear hw5 hK hK5
    go_wp2_with fail
    (try rw [← Hw5.out.1])
    have hdone := Hw5.out.2.done (.int .i64 (mc)) (.int .i64 (md)) (.int .i64 (y)) (.int .i64 (me)) (.int .i64 (ml))
    obtain ⟨wz, hwz⟩ : ∃ wz, wz = putR w5 W.heap.size (.int .i64 (mc)) (.int .i64 (md)) (.int .i64 (y)) (.int .i64 (me)) (.int .i64 (ml)) := ⟨_, rfl⟩
    rw [← hwz] at hdone
    unfold putR at hwz
    rw [← hwz]
    obtain ⟨hd1, hd2, hd3⟩ := hdone
    have hz0 : wz.cell? ⟨W.heap.size, 0, none⟩ = some (.int .i64 (mc)) := by rw [cell_of_block hd3]; rfl
    have hz1 : wz.cell? ⟨W.heap.size, 1, none⟩ = some (.int .i64 (md)) := by rw [cell_of_block hd3]; rfl
    have hz2 : wz.cell? ⟨W.heap.size, 2, none⟩ = some (.int .i64 (y)) := by rw [cell_of_block hd3]; rfl
    have hz3 : wz.cell? ⟨W.heap.size, 3, none⟩ = some (.int .i64 (me)) := by rw [cell_of_block hd3]; rfl
    have hz4 : wz.cell? ⟨W.heap.size, 4, none⟩ = some (.int .i64 (ml)) := by rw [cell_of_block hd3]; rfl
    refine bodyPost_ret (v := .agg #[.int .i64 (mc), .int .i64 (md), .int .i64 (y), .int .i64 (me), .int .i64 (ml)]) (by simp [results, Tryz.results130, go_sem, hz0, hz1, hz2, hz3, hz4]) rfl ⟨⟨mc, md, y, me, ml⟩, rfl, ?_, hd1, hd2⟩
    show (-1 ≤ mc ∧ mc ≤ 16) ∧ (-1 ≤ md ∧ md ≤ 16) ∧ (-1 ≤ y ∧ y ≤ 16) ∧ (-1 ≤ me ∧ me ≤ 16) ∧ (-1 ≤ ml ∧ ml ≤ 16)
    omega
   ·have e2 : (x == 2) = false := by rw [beq_eq_false_iff_ne]; exact h2
    by_cases h3 : x = 3
    ·subst h3
     have hL := lit_V1 w3 2 [0, mc, mc + 1] (by simp)
     have hKa := hK.alloc (.cells #[.int .i64 (0), .int .i64 (mc), .int .i64 (mc + 1)] 2)
     obtain ⟨wa, hwa⟩ : ∃ wa, wa = w3.alloc (.cells #[.int .i64 (0), .int .i64 (mc), .int .i64 (mc + 1)] 2) := ⟨_, rfl⟩
     have hL : V1 (fun b => b = w3.heap.size) wa (.slice (some ⟨w3.heap.size, 0, none⟩) 3 3) [0, mc, mc + 1] := by rw [hwa]; exact hL
     rw [← hwa] at hKa
     have hsz3 : SB < w3.heap.size := hK.src.lt
     have HL := Lib.hid (And.intro hL (And.intro hKa hwa)); clear hL hKa hwa
     have hcm := hK.cell
     have hcr := hK.rcell
     have hfm := fun o => frozen_of_block hK.hm o
     have hfr := fun o => frozen_of_block hK.hr o
     have hK' := Lib.hid hK; clear hK
     go_wp2_with fail
     rw [← HL.out.2.2]
     clear hcm hcr hfm hfr
     refine (l01Pick_any B0 SB _ [0, mc, mc + 1] wa HL.out.2.1.src HL.out.1 (fun b hb => by omega) (by simp)).mono ?_
     rintro e' w4 ⟨y, rfl, hy, hs4, ho4⟩
     have hyb : -1 ≤ y ∧ y ≤ 16 := by
      simp only [List.mem_cons, List.mem_nil_iff, or_false] at hy
      rcases hy with h | h | h <;> omega
     have hK := HL.out.2.1.go hs4 ho4
     clear hs4 ho4 hy
     have hcm := hK.cell
     have hcr := hK.rcell
     have hfm := fun o => frozen_of_block hK.hm o
     have hfr := fun o => frozen_of_block hK.hr o
     have hK5 := hK.put (o := 3) (v := .int .i64 y) (c' := mc) (d' := md) (s' := ms) (e' := y) (l' := ml) (by simp)
     obtain ⟨w5, hw5⟩ : ∃ w5, w5 = w4.setCell ⟨w1.heap.size, 3, none⟩ (.int .i64 y) := ⟨_, rfl⟩
     rw [← hw5] at hK5
     have Hw5 := Lib.hid (And.intro hw5 hK5); clear hw5 hK hK5
     go_wp2_with fail
     (try rw [← Hw5.out.1])
     have hdone := Hw5.out.2.done (.int .i64 (mc)) (.int .i64 (md)) (.int .i64 (ms)) (.int .i64 (y)) (.int .i64 (ml))
     obtain ⟨wz, hwz⟩ : ∃ wz, wz = putR w5 W.heap.size (.int .i64 (mc)) (.int .i64 (md)) (.int .i64 (ms)) (.int .i64 (y)) (.int .i64 (ml)) := ⟨_, rfl⟩
     rw [← hwz] at hdone
     unfold putR at hwz
     rw [← hwz]
     obtain ⟨hd1, hd2, hd3⟩ := hdone
     have hz0 : wz.cell? ⟨W.heap.size, 0, none⟩ = some (.int .i64 (mc)) := by rw [cell_of_block hd3]; rfl
     have hz1 : wz.cell? ⟨W.heap.size, 1, none⟩ = some (.int .i64 (md)) := by rw [cell_of_block hd3]; rfl
     have hz2 : wz.cell? ⟨W.heap.size, 2, none⟩ = some (.int .i64 (ms)) := by rw [cell_of_block hd3]; rfl
     have hz3 : wz.cell? ⟨W.heap.size, 3, none⟩ = some (.int .i64 (y)) := by rw [cell_of_block hd3]; rfl
     have hz4 : wz.cell? ⟨W.heap.size, 4, none⟩ = some (.int .i64 (ml)) := by rw [cell_of_block hd3]; rfl
     refine bodyPost_ret (v := .agg #[.int .i64 (mc), .int .i64 (md), .int .i64 (ms), .int .i64 (y), .int .i64 (ml)]) (by simp [results, Tryz.results130, go_sem, hz0, hz1, hz2, hz3, hz4]) rfl ⟨⟨mc, md, ms, y, ml⟩, rfl, ?_, hd1, hd2⟩
     show (-1 ≤ mc ∧ mc ≤ 16) ∧ (-1 ≤ md ∧ md ≤ 16) ∧ (-1 ≤ ms ∧ ms ≤ 16) ∧ (-1 ≤ y ∧ y ≤ 16) ∧ (-1 ≤ ml ∧ ml ≤ 16)
     omega
    ·have e3 : (x == 3) = false := by rw [beq_eq_false_iff_ne]; exact h3
     by_cases h4 : x = 4
     ·subst h4
      have hL := lit_V1 w3 2 [0, min mc md, min mc md + 1] (by simp)
      have hKa := hK.alloc (.cells #[.int .i64 (0), .int .i64 (min mc md), .int .i64 (min mc md + 1)] 2)
      obtain ⟨wa, hwa⟩ : ∃ wa, wa = w3.alloc (.cells #[.int .i64 (0), .int .i64 (min mc md), .int .i64 (min mc md + 1)] 2) := ⟨_, rfl⟩
      have hL : V1 (fun b => b = w3.heap.size) wa (.slice (some ⟨w3.heap.size, 0, none⟩) 3 3) [0, min mc md, min mc md + 1] := by rw [hwa]; exact hL
      rw [← hwa] at hKa
      have hsz3 : SB < w3.heap.size := hK.src.lt
      have HL := Lib.hid (And.intro hL (And.intro hKa hwa)); clear hL hKa hwa
      have hcm := hK.cell
      have hcr := hK.rcell
      have hfm := fun o => frozen_of_block hK.hm o
      have hfr := fun o => frozen_of_block hK.hr o
      have hK' := Lib.hid hK; clear hK
      go_wp2_with fail
      rw [← HL.out.2.2]
      clear hcm hcr hfm hfr
      refine (l01Pick_any B0 SB _ [0, min mc md, min mc md + 1] wa HL.out.2.1.src HL.out.1 (fun b hb => by omega) (by simp)).mono ?_
      rintro e' w4 ⟨y, rfl, hy, hs4, ho4⟩
      have hyb : -1 ≤ y ∧ y ≤ 16 := by
       simp only [List.mem_cons, List.mem_nil_iff, or_false] at hy
       rcases hy with h | h | h <;> omega
      have hK := HL.out.2.1.go hs4 ho4
      clear hs4 ho4 hy
      have hcm := hK.cell
      have hcr := hK.rcell
      have hfm := fun o => frozen_of_block hK.hm o
      have hfr := fun o => frozen_of_block hK.hr o
      have hK5 := hK.put (o := 4) (v := .int .i64 y) (c' := mc) (d' := md) (s' := ms) (e' := me) (l' := y) (by simp)
      obtain ⟨w5, hw5⟩ : ∃ w5, w5 = w4.setCell ⟨w1.heap.size, 4, none⟩ (.int .i64 y) := ⟨_, rfl⟩
      rw [← hw5] at hK5
      have Hw5 := Lib.hid (And.intro hw5 hK5); clear hw5 hK hK5
      go_wp2_with fail
      (try rw [← Hw5.out.1])
      have hdone := Hw5.out.2.done (.int .i64 (mc)) (.int .i64 (md)) (.int .i64 (ms)) (.int .i64 (me)) (.int .i64 (y))
      obtain ⟨wz, hwz⟩ : ∃ wz, wz = putR w5 W.heap.size (.int .i64 (mc)) (.int .i64 (md)) (.int .i64 (ms)) (.int .i64 (me)) (.int .i64 (y)) := ⟨_, rfl⟩
      rw [← hwz] at hdone
      unfold putR at hwz
      rw [← hwz]
      obtain ⟨hd1, hd2, hd3⟩ := hdone
      have hz0 : wz.cell? ⟨W.heap.size, 0, none⟩ = some (.int .i64 (mc)) := by rw [cell_of_block hd3]; rfl
      have hz1 : wz.cell? ⟨W.heap.size, 1, none⟩ = some (.int .i64 (md)) := by rw [cell_of_block hd3]; rfl
      have hz2 : wz.cell? ⟨W.heap.size, 2, none⟩ = some (.int .i64 (ms)) := by rw [cell_of_block hd3]; rfl
      have hz3 : wz.cell? ⟨W.heap.size, 3, none⟩ = some (.int .i64 (me)) := by rw [cell_of_block hd3]; rfl
      have hz4 : wz.cell? ⟨W.heap.size, 4, none⟩ = some (.int .i64 (y)) := by rw [cell_of_block hd3]; rfl
      refine bodyPost_ret (v := .agg #[.int .i64 (mc), .int .i64 (md), .int .i64 (ms), .int .i64 (me), .int .i64 (y)]) (by simp [results, Tryz.results130, go_sem, hz0, hz1, hz2, hz3, hz4]) rfl ⟨⟨mc, md, ms, me, y⟩, rfl, ?_, hd1, hd2⟩
      show (-1 ≤ mc ∧ mc ≤ 16) ∧ (-1 ≤ md ∧ md ≤ 16) ∧ (-1 ≤ ms ∧ ms ≤ 16) ∧ (-1 ≤ me ∧ me ≤ 16) ∧ (-1 ≤ y ∧ y ≤ 16)
      omega
     ·have e4 : (x == 4) = false := by rw [beq_eq_false_iff_ne]; exact h4
      by_cases h5 : x = 5
      ·subst h5
       have HK := Lib.hid hK; clear hK
       go_wp2_with fail
       refine (l01Next_any B0 SB 2 _ HK.out.src).mono ?_
       rintro e' w4 ⟨y1, rfl, hy1, hs4, ho4⟩
       have HK4 := Lib.hid (HK.out.go hs4 ho4); clear hs4 ho4
       go_wp2_with fail
       refine (l01Next_any B0 SB 2 _ HK4.out.src).mono ?_
       rintro e' w5 ⟨y2, rfl, hy2, hs5, ho5⟩
       have hK := HK4.out.go hs5 ho5
       clear hs5 ho5
       have hcm := hK.cell
       have hcr := hK.rcell
       have hfm := fun o => frozen_of_block hK.hm o
       have hfr := fun o => frozen_of_block hK.hr o
       have HK5 := Lib.hid hK; clear hK
       go_wp2_with fail
       have hdone := HK5.out.done (.int .i64 (6)) (.int .i64 (4 + y1)) (.int .i64 (2 + y2)) (.int .i64 (2)) (.int .i64 (3))
       obtain ⟨wz, hwz⟩ : ∃ wz, wz = putR w5 W.heap.size (.int .i64 (6)) (.int .i64 (4 + y1)) (.int .i64 (2 + y2)) (.int .i64 (2)) (.int .i64 (3)) := ⟨_, rfl⟩
       rw [← hwz] at hdone
       unfold putR at hwz
       rw [← hwz]
       obtain ⟨hd1, hd2, hd3⟩ := hdone
       have hz0 : wz.cell? ⟨W.heap.size, 0, none⟩ = some (.int .i64 (6)) := by rw [cell_of_block hd3]; rfl
       have hz1 : wz.cell? ⟨W.heap.size, 1, none⟩ = some (.int .i64 (4 + y1)) := by rw [cell_of_block hd3]; rfl
       have hz2 : wz.cell? ⟨W.heap.size, 2, none⟩ = some (.int .i64 (2 + y2)) := by rw [cell_of_block hd3]; rfl
       have hz3 : wz.cell? ⟨W.heap.size, 3, none⟩ = some (.int .i64 (2)) := by rw [cell_of_block hd3]; rfl
       have hz4 : wz.cell? ⟨W.heap.size, 4, none⟩ = some (.int .i64 (3)) := by rw [cell_of_block hd3]; rfl
       refine bodyPost_ret (v := .agg #[.int .i64 6, .int .i64 (4 + y1), .int .i64 (2 + y2), .int .i64 2, .int .i64 3]) (by simp [results, Tryz.results130, go_sem, hz0, hz1, hz2, hz3, hz4]) rfl ⟨⟨6, 4 + y1, 2 + y2, 2, 3⟩, rfl, ?_, hd1, hd2⟩
       show (-1 ≤ (6 : Int) ∧ (6 : Int) ≤ 16) ∧ (-1 ≤ 4 + y1 ∧ 4 + y1 ≤ 16) ∧ (-1 ≤ 2 + y2 ∧ 2 + y2 ≤ 16) ∧ (-1 ≤ (2 : Int) ∧ (2 : Int) ≤ 16) ∧ (-1 ≤ (3 : Int) ∧ (3 : Int) ≤ 16)
       omega
      ·have e5 : (x == 5) = false := by rw [beq_eq_false_iff_ne]; exact h5
       have hcm := hK.cell
       have hcr := hK.rcell
       have hfm := fun o => frozen_of_block hK.hm o
       have hfr := fun o => frozen_of_block hK.hr o
       have HK := Lib.hid hK; clear hK
       go_wp2_with fail
       (try rw [← HK.out.hm])
       have hdone := HK.out.done (.int .i64 (mc)) (.int .i64 (md)) (.int .i64 (ms)) (.int .i64 (me)) (.int .i64 (ml))
       obtain ⟨wz, hwz⟩ : ∃ wz, wz = putR w3 W.heap.size (.int .i64 (mc)) (.int .i64 (md)) (.int .i64 (ms)) (.int .i64 (me)) (.int .i64 (ml)) := ⟨_, rfl⟩
       rw [← hwz] at hdone
       unfold putR at hwz
       rw [← hwz]
       obtain ⟨hd1, hd2, hd3⟩ := hdone
       have hz0 : wz.cell? ⟨W.heap.size, 0, none⟩ = some (.int .i64 (mc)) := by rw [cell_of_block hd3]; rfl
       have hz1 : wz.cell? ⟨W.heap.size, 1, none⟩ = some (.int .i64 (md)) := by rw [cell_of_block hd3]; rfl
       have hz2 : wz.cell? ⟨W.heap.size, 2, none⟩ = some (.int .i64 (ms)) := by rw [cell_of_block hd3]; rfl
       have hz3 : wz.cell? ⟨W.heap.size, 3, none⟩ = some (.int .i64 (me)) := by rw [cell_of_block hd3]; rfl
       have hz4 : wz.cell? ⟨W.heap.size, 4, none⟩ = some (.int .i64 (ml)) := by rw [cell_of_block hd3]; rfl
       refine bodyPost_ret (v := .agg #[.int .i64 (mc), .int .i64 (md), .int .i64 (ms), .int .i64 (me), .int .i64 (ml)]) (by simp [results, Tryz.results130, go_sem, hz0, hz1, hz2, hz3, hz4]) rfl ⟨⟨mc, md, ms, me, ml⟩, rfl, ?_, hd1, hd2⟩
       show (-1 ≤ mc ∧ mc ≤ 16) ∧ (-1 ≤ md ∧ md ≤ 16) ∧ (-1 ≤ ms ∧ ms ≤ 16) ∧ (-1 ≤ me ∧ me ≤ 16) ∧ (-1 ≤ ml ∧ ml ≤ 16)
       omega
end Go.Proofs.YtmjplkbmhdkggaaGreat
namespace Go.Proofs.YtmjplkbmhdkggaaGreat
set_option linter.unusedVariables false
set_option linter.unusedSimpArgs false
/-- Up to the greatest cut, then to and fro. -/
def zig (c l : Nat) : List Int := (List.range c).map fun i => if i < l then (i : Int) else if (i - l) % 2 = 0 then (l : Int) - 2 else (l : Int) - 1
def zigB (c l : Nat) : Bool := decide (c < 2) || decide (l < 2) || decide (c < l) ||
 (decide ((zig c l).length = c) && (zig c l).all (fun x => decide (0 ≤ x) && decide (x ≤ (l : Int) - 1)) && (List.range c).all (fun i => decide (runAt (zig c l) i = 1)) && (List.range c).all (fun i => i == 0 || decide (absI (geti (zig c l) i - geti (zig c l) (i - 1)) = 1)) && decide (l ≤ kinds (zig c l)))
theorem zig_all : ∀ c, c < 7 → ∀ l, l < 7 → zigB c l = true := by decide +kernel
theorem zig_fits {c l : Nat} (h1 : c < 7) (h2 : 2 ≤ c) (h3 : l < 7) (h4 : 2 ≤ l) (h5 : l ≤ c) : (zig c l).length = c ∧ (∀ x ∈ zig c l, 0 ≤ x ∧ x ≤ (l : Int) - 1) ∧ (∀ i, i < c → runAt (zig c l) i = 1) ∧ (∀ i, i < c → i = 0 ∨ absI (geti (zig c l) i - geti (zig c l) (i - 1)) = 1) ∧ l ≤ kinds (zig c l) := by
 have h := zig_all c h1 l h3
 unfold zigB at h
 simp only [decide_eq_false (show ¬ c < 2 by omega), decide_eq_false (show ¬ l < 2 by omega), decide_eq_false (show ¬ c < l by omega), Bool.false_or, Bool.and_eq_true, decide_eq_true_eq, List.all_eq_true, List.mem_range, Bool.or_eq_true, beq_iff_eq] at h
 obtain ⟨⟨⟨⟨g1, g2⟩, g3⟩, g4⟩, g5⟩ := h
 exact ⟨g1, g2, g3, g4, g5⟩
theorem keysOf_ne {m : Mk} (h : m.ok = true) : keysOf m ≠ [] := by
 have hm := Mk.ok_iff.1 h
 obtain ⟨c, hc⟩ : ∃ c : Nat, m.c = (c : Int) := ⟨m.c.toNat, by omega⟩
 obtain ⟨l, hl, hl2⟩ : ∃ l : Nat, 2 ≤ l ∧ (l : Int) = max 2 m.l := ⟨(max 2 m.l).toNat, by omega, by omega⟩
 have hf := zig_fits (c := c) (l := l) (by omega) (by omega) (by omega) hl (by omega)
 intro e
 have hk : zig c l ∈ keysOf m := by
  refine (mem_keysOf (by omega)).2 (isKey_iff.2 ⟨by rw [hf.1]; exact hc.symm, fun x hx => ?_, begins_iff.2 fun i hi => ?_, ?_⟩)
  ·have := hf.2.1 x hx; omega
  ·rw [hf.1] at hi
   have h1 := hf.2.2.1 i hi
   have h2 := hf.2.2.2.1 i hi
   unfold fitAt
   rw [h1, Bool.and_eq_true]
   refine ⟨by simp; omega, ?_⟩
   rcases h2 with h2 | h2
   ·simp [h2]
   ·rw [h2]; simp; omega
  ·have := hf.2.2.2.2; omega
 rw [e] at hk
 cases hk
end Go.Proofs.YtmjplkbmhdkggaaGreat
namespace Go.Proofs.YtmjplkbmhdkggaaGreat
open Go.RowKit
set_option linter.unusedVariables false
set_option linter.unusedSimpArgs false
theorem own_ints {w : World} {B : Nat} {v v1 : Value} {l : List Int} {x : Int} (h : w.ownsRow B 2 1 v1 (l.length + 1) (l.map (Value.int .i64) ++ [.int .i64 x])) : w.ownsRow B 2 1 v1 (l ++ [x]).length ((l ++ [x]).map (Value.int .i64)) := by simpa using h
set_option maxRecDepth 100000 in
set_option maxHeartbeats 2000000 in
theorem l02DrawCuts_any (B0 SB : Nat) (m : Mk) (hm : SmallM m) (W : World) (h : Src B0 SB W) :
  Calls Tryz.prog 166 #[.pointer (some ⟨SB, 0, none⟩), .agg #[.int .i64 m.c, .int .i64 m.d, .int .i64 m.s, .int .i64 m.e, .int .i64 m.l]] W fun e w' => ∃ v l, e = .returned v ∧ (F1 W.heap.size w' v l ∧ l.length ≤ 9) ∧ Src B0 SB w' ∧ Only SB W w' := by
 have hSl := h.lt
 have hB0 : B0 ≤ SB := h.1
 obtain ⟨⟨hc1, hc2⟩, ⟨hd1, hd2⟩, ⟨hs1, hs2⟩, _, _⟩ := hm
 obtain ⟨mc, md, ms, me, ml⟩ := m
 dsimp only at *
 obtain ⟨W1, hW1, hB01, hz01, HZ01, hc01, hh01⟩ := box_facts W #[.int .i64 mc, .int .i64 md, .int .i64 ms, .int .i64 me, .int .i64 ml] 31
 have hs1' := h.below hB01
 have hbL : Below W1.heap.size W1 (W1.alloc (.cells #[] 2)) := (Below.refl _ _).alloc (Nat.le_refl _) _
 have hsL := hs1'.below hbL
 have hcL : ∀ o, (W1.alloc (.cells #[] 2)).cell? ⟨W.heap.size, o, none⟩ = (#[.int .i64 mc, .int .i64 md, .int .i64 ms, .int .i64 me, .int .i64 ml] : Array Value)[o]? := fun o => by rw [(bcell hbL).1 _ _ hz01, hc01]
 have hown0 := own_lit0 W1 (W.heap.size + 1) 2 1 (by omega)
 have hz1e := HZ01.out
 have hown0 : (W1.alloc (.cells #[] 2)).ownsRow (W.heap.size + 1) 2 1 (.slice (some ⟨W.heap.size + 1, 0, none⟩) 0 0) 0 [] := by rw [← hz1e] at hown0 ⊢; exact hown0
 have HL := Lib.hid (And.intro hsL (And.intro hown0 (And.intro hbL (And.intro hh01 hW1)))); clear hsL hown0 hbL hs1' h hh01 hz1e
 go_enter Tryz.func166, Tryz.ntmps166
 go_wp2_with fail
 rw [← hW1]
 refine (l01Next_any B0 SB _ _ HL.out.1).mono ?_
 rintro e' w2 ⟨A0, rfl, ⟨hA0, hA1⟩, hs2', ho2⟩
 have hbox : w2.heap[W.heap.size]? = some (.cells #[.int .i64 mc, .int .i64 md, .int .i64 ms, .int .i64 me, .int .i64 ml] 31 (0, 0)) := ho2.heap ((HL.out.2.2.1.block _ hz01).trans HL.out.2.2.2.1) (fun e => by omega)
 have hownA := own_only HL.out.2.1 ho2 (by omega)
 have hoW : Only SB W w2 := ((Only.of_below hB01).then_below HL.out.2.2.1).trans ho2
 have HI := Lib.hid (And.intro hs2' (And.intro hbox (And.intro hownA hoW))); clear hs2' hbox hownA hoW ho2 hcL hc01 hW1 hB01
 go_wp2_with fail
 go_loopw [5, 6, 7] (fun cv av i wr => ∃ (k : Nat) (A : Int) (l : List Int), k ≤ 8 ∧ i = .int .i64 (k : Int) ∧ av = .int .i64 A ∧ (-64 * (k + 1 : Int) ≤ A ∧ A ≤ 64 * (k + 1 : Int)) ∧ l.length = k ∧ wr.ownsRow (W.heap.size + 1) 2 1 cv l.length (l.map (Value.int .i64)) ∧ Src B0 SB wr ∧ Only SB W wr ∧ wr.heap[W.heap.size]? = some (.cells #[.int .i64 mc, .int .i64 md, .int .i64 ms, .int .i64 me, .int .i64 ml] 31 (0, 0))) (fun _ _ i _ => 8 - (intOf i).toNat)
 case atStart => exact ⟨0, A0, [], by omega, rfl, rfl, ⟨by omega, by omega⟩, rfl, HI.out.2.2.1, HI.out.1, HI.out.2.2.2, HI.out.2.1⟩
 case round =>
  obtain ⟨k, A, l, hk8, rfl, rfl, ⟨hAl, hAu⟩, hlk, hown, hsr, hoW, hbox⟩ := hrel
  have hzr := hoW.size
  have hzrb : W.heap.size + 1 ≤ wr.heap.size := lt_of_heap hbox
  have hc : ∀ o, wr.cell? ⟨W.heap.size, o, none⟩ = (#[.int .i64 mc, .int .i64 md, .int .i64 ms, .int .i64 me, .int .i64 ml] : Array Value)[o]? := fun o => by rw [cell_of_block hbox]
  by_cases hkk : (k : Int) < min 8 mc
  ·have hd : decide ((k : Int) < min 8 mc) = true := decide_eq_true hkk
   have hk7 : k ≤ 7 := by omega
   have HR := Lib.hid (And.intro hsr (And.intro hoW (And.intro hbox hlk))); clear hsr hoW hbox hlk
   obtain ⟨oa, oc, rfl, _, _⟩ := own_form hown
   have hl9 : l.length ≤ 1000 := by have := HR.out.2.2.2; omega
   go_wp2_with (at_builtin; refine wp_app1 _ rfl _ _ 44 rfl (W.heap.size + 1) 2 (.int .i64 0) 8 Tryz.underlying44 inf_int rfl _ _ _ rfl hown (.int .i64 A) _ rfl rfl (by omega) (by omega) (by omega) ?_; intro v1 w1 hown1 hgrow1 hblk1 hB1)
   have hown2 := own_ints (v := .slice oa l.length oc) hown1
   have hbx1 : w1.heap[W.heap.size]? = some (.cells #[.int .i64 mc, .int .i64 md, .int .i64 ms, .int .i64 me, .int .i64 ml] 31 (0, 0)) := (hgrow1.block _ (lt_of_heap HR.out.2.2.1) (fun e => by have := (hown.lt _ e.symm).1; omega)).trans HR.out.2.2.1
   have hg1 : Chg (fun i => W.heap.size + 1 ≤ i) wr w1 := (Chg.refl _ _).grown hgrow1 (fun g hg => .inl (hown.lt g hg).1)
   have hsr1 := HR.out.1.keep hg1 (fun b hb => ⟨by omega, by omega⟩)
   have hoW1 : Only SB W w1 := Chg.trans HR.out.2.1 (G := fun i => W.heap.size + 1 ≤ i) hg1 (fun i hi => .inr (by omega))
   clear hown hgrow1 hblk1 hB1 hg1
   have hc1 : ∀ o, w1.cell? ⟨W.heap.size, o, none⟩ = (#[.int .i64 mc, .int .i64 md, .int .i64 ms, .int .i64 me, .int .i64 ml] : Array Value)[o]? := fun o => by rw [cell_of_block hbx1]
   have hc12 : w1.drew.cell? ⟨W.heap.size, 2, none⟩ = some (.int .i64 ms) := hc1 2
   have HR1 := Lib.hid (And.intro hsr1 (And.intro hoW1 (And.intro hbx1 hown2))); clear hsr1 hoW1 hbx1 hown2 hc
   have hwr1 : IntKind.i64.wrap (2 * max 0 ms) = 2 * max 0 ms := IntWalk.i64_in _ (by omega)
   have hwr2 : IntKind.i64.wrap (2 * max 0 ms + 1) = 2 * max 0 ms + 1 := IntWalk.i64_in _ (by omega)
   refine wp_region_noPanic ?_
   refine wp_region_held_drew (S := fun w' => w'.cell? ⟨W.heap.size, 2, none⟩ = some (.int .i64 ms)) (by kernel_rfl) hc12 (fun hHeld => ?_)
   (refine wpAnyH_take (i := 0) (v := .int .i64 A) rfl (by kernel_rfl) (by kernel_rfl) (by kernel_rfl) (fun _ _ _ h => h) (Or.inl ⟨by kernel_rfl, fun w hSw => by (try dsimp only at hSw); go_split_ands; go_simp⟩) (by assumption) ?_; simp only [Act.put, List.setIfInBounds_toArray, List.set_cons_zero, List.set_cons_succ])
   (refine wpAnyH_take (i := 1) (v := .pointer (some ⟨SB, 0, none⟩)) rfl (by kernel_rfl) (by kernel_rfl) (by kernel_rfl) (fun _ _ _ h => h) (Or.inl ⟨by kernel_rfl, fun w hSw => by (try dsimp only at hSw); go_split_ands; go_simp⟩) (by assumption) ?_; simp only [Act.put, List.setIfInBounds_toArray, List.set_cons_zero, List.set_cons_succ])
   (refine wpAnyH_take (i := 2) (v := .pointer (some ⟨W.heap.size, 2, none⟩)) rfl (by kernel_rfl) (by kernel_rfl) (by kernel_rfl) (fun _ _ _ h => h) (Or.inl ⟨by kernel_rfl, fun w hSw => by (try dsimp only at hSw); go_split_ands; go_simp⟩) (by assumption) ?_; simp only [Act.put, List.setIfInBounds_toArray, List.set_cons_zero, List.set_cons_succ])
   (refine wpAnyH_take (i := 3) (v := .int .i64 ms) rfl (by kernel_rfl) (by kernel_rfl) (by kernel_rfl) (fun _ _ _ h => h) (Or.inl ⟨by kernel_rfl, fun w hSw => by (try dsimp only at hSw); go_split_ands; go_simp⟩) (by assumption) ?_; simp only [Act.put, List.setIfInBounds_toArray, List.set_cons_zero, List.set_cons_succ])
   (refine wpAnyH_take (i := 4) (v := .int .i64 (max 0 ms)) rfl (by kernel_rfl) (by kernel_rfl) (by kernel_rfl) (fun _ _ _ h => h) (Or.inl ⟨by kernel_rfl, fun w hSw => by (try dsimp only at hSw); go_split_ands; go_simp⟩) (by assumption) ?_; simp only [Act.put, List.setIfInBounds_toArray, List.set_cons_zero, List.set_cons_succ])
   (refine wpAnyH_take (i := 5) (v := .int .i64 (2 * max 0 ms)) rfl (by kernel_rfl) (by kernel_rfl) (by kernel_rfl) (fun _ _ _ h => h) (Or.inl ⟨by kernel_rfl, fun w hSw => by (try dsimp only at hSw); go_split_ands; go_simp⟩) (by assumption) ?_; simp only [Act.put, List.setIfInBounds_toArray, List.set_cons_zero, List.set_cons_succ])
   (refine wpAnyH_take (i := 6) (v := .int .i64 (2 * max 0 ms + 1)) rfl (by kernel_rfl) (by kernel_rfl) (by kernel_rfl) (fun _ _ _ h => h) (Or.inl ⟨by kernel_rfl, fun w hSw => by (try dsimp only at hSw); go_split_ands; go_simp⟩) (by assumption) ?_; simp only [Act.put, List.setIfInBounds_toArray, List.set_cons_zero, List.set_cons_succ])
   (refine wpAnyH_take (i := 9) (v := .pointer (some ⟨W.heap.size, 2, none⟩)) rfl (by kernel_rfl) (by kernel_rfl) (by kernel_rfl) (fun _ _ _ h => h) (Or.inl ⟨by kernel_rfl, fun w hSw => by (try dsimp only at hSw); go_split_ands; go_simp⟩) (by assumption) ?_; simp only [Act.put, List.setIfInBounds_toArray, List.set_cons_zero, List.set_cons_succ])
   (refine wpAnyH_take (i := 10) (v := .int .i64 ms) rfl (by kernel_rfl) (by kernel_rfl) (by kernel_rfl) (fun _ _ _ h => h) (Or.inl ⟨by kernel_rfl, fun w hSw => by (try dsimp only at hSw); go_split_ands; go_simp⟩) (by assumption) ?_; simp only [Act.put, List.setIfInBounds_toArray, List.set_cons_zero, List.set_cons_succ])
   refine wpAnyH_ready (rs := [7]) (by kernel_rfl) (by simp) (AllReadyH.cons rfl (fun K hK => ?_) AllReadyH.nil)
   go_simp
   go_at_call 78
   refine (l01Next_any B0 SB _ _ (HR1.out.1.below ((Below.refl _ _).drew))).mono ?_
   rintro e' w3 ⟨x, rfl, ⟨hx0, hx1⟩, hs3, ho3⟩
   have ho3' : Only SB w1 w3 := (Only.of_below ((Below.refl w1.heap.size w1).drew)).trans ho3
   have hbx3 := ho3'.heap HR1.out.2.2.1 (fun e => by omega)
   have hown3 := own_only HR1.out.2.2.2 ho3' (by omega)
   have hoW3 := HR1.out.2.1.trans ho3'
   have hc3 : ∀ o, w3.cell? ⟨W.heap.size, o, none⟩ = (#[.int .i64 mc, .int .i64 md, .int .i64 ms, .int .i64 me, .int .i64 ml] : Array Value)[o]? := fun o => by rw [cell_of_block hbx3]
   have hc32 : w3.cell? ⟨W.heap.size, 2, none⟩ = some (.int .i64 ms) := hc3 2
   have hwr3 : IntKind.i64.wrap (A + x) = A + x := IntWalk.i64_in _ (by omega)
   have hwr4 : IntKind.i64.wrap (A + x - ms) = A + x - ms := IntWalk.i64_in _ (by omega)
   have H3 := Lib.hid (And.intro hs3 (And.intro hoW3 (And.intro hbx3 hown3))); clear hs3 hoW3 hbx3 hown3 ho3 ho3' hc1
   dsimp only
   (refine hK.out _ _ hc32 (fun hHeld => ?_); clear hK K; (try simp only [Act.put, List.setIfInBounds_toArray, List.set_cons_zero, List.set_cons_succ]))
   (refine wpAnyH_ready (rs := [8]) (by kernel_rfl) (by simp) (AllReadyH.cons rfl (fun K hK => ?_) AllReadyH.nil); go_simp)
   (refine hK.out _ _ hc32 (fun hHeld => ?_); clear hK K; (try simp only [Act.put, List.setIfInBounds_toArray, List.set_cons_zero, List.set_cons_succ]))
   (refine wpAnyH_ready (rs := [11]) (by kernel_rfl) (by simp) (AllReadyH.cons rfl (fun K hK => ?_) AllReadyH.nil); go_simp)
   (refine hK.out _ _ hc32 (fun hHeld => ?_); clear hK K; (try simp only [Act.put, List.setIfInBounds_toArray, List.set_cons_zero, List.set_cons_succ]))
   (refine wpAnyH_ready (rs := [12]) (by kernel_rfl) (by simp) (AllReadyH.cons rfl (fun K hK => ?_) AllReadyH.nil); go_simp)
   (refine hK.out _ _ hc32 (fun hHeld => ?_); clear hK K; (try simp only [Act.put, List.setIfInBounds_toArray, List.set_cons_zero, List.set_cons_succ]))
   refine wpAnyH_done (by kernel_rfl) (NoPanic.normal ?_) _
   go_wp2_with fail
   refine (l01Next_any B0 SB _ _ H3.out.1).mono ?_
   rintro e' w4 ⟨y, rfl, ⟨hy0, hy1⟩, hs4, ho4⟩
   have hbx4 := ho4.heap H3.out.2.2.1 (fun e => by omega)
   have hown4 := own_only H3.out.2.2.2 ho4 (by omega)
   have hoW4 := H3.out.2.1.trans ho4
   have hc4 : ∀ o, w4.cell? ⟨W.heap.size, o, none⟩ = (#[.int .i64 mc, .int .i64 md, .int .i64 ms, .int .i64 me, .int .i64 ml] : Array Value)[o]? := fun o => by rw [cell_of_block hbx4]
   have H4 := Lib.hid (And.intro hs4 (And.intro hoW4 (And.intro hbx4 hown4))); clear hs4 hoW4 hbx4 hown4 ho4 hc3 hc32
   have hlk := HR.out.2.2.2
   by_cases hyp : 0 < y
   ·have hyd : decide (0 < y) = true := decide_eq_true hyp
    have hwr5 : IntKind.i64.wrap (md - 1) = md - 1 := IntWalk.i64_in _ (by omega)
    clear hlk
    go_wp2_with fail
    go_roundw
    case rel => exact ⟨k + 1, max 0 (min (md - 1) (A + x - ms)), l ++ [A], by omega, by go_num, rfl, ⟨by omega, by omega⟩, by have := HR.out.2.2.2; simp; omega, by simpa using H4.out.2.2.2, H4.out.1, H4.out.2.1, H4.out.2.2.1⟩
    case measure => simp [intOf]; omega
   ·have hyd : decide (0 < y) = false := decide_eq_false hyp
    clear hlk
    go_wp2_with fail
    go_roundw
    case rel => exact ⟨k + 1, A + x - ms, l ++ [A], by omega, by go_num, rfl, ⟨by omega, by omega⟩, by have := HR.out.2.2.2; simp; omega, by simpa using H4.out.2.2.2, H4.out.1, H4.out.2.1, H4.out.2.2.1⟩
    case measure => simp [intOf]; omega
  ·have hd : decide ((k : Int) < min 8 mc) = false := decide_eq_false hkk
   have HR := Lib.hid (And.intro hsr (And.intro hoW (And.intro hown hlk))); clear hsr hoW hown hlk hbox
   obtain ⟨oa, oc, rfl, _, _⟩ := own_form HR.out.2.2.1
   go_wp2_with fail
   refine (l01Next_any B0 SB _ _ HR.out.1).mono ?_
   rintro e' w3 ⟨x, rfl, ⟨hx0, hx1⟩, hs3, ho3⟩
   have hown3 := own_only HR.out.2.2.1 ho3 (by omega)
   have hoW3 := HR.out.2.1.trans ho3
   have hz3 := ho3.size
   clear hc
   by_cases hx : x = 0
   ·subst hx
    have hll : l.length ≤ 8 := by have := HR.out.2.2.2; omega
    have H3 := Lib.hid (And.intro hs3 hoW3); clear hs3 hoW3 ho3
    go_wp2_with (at_builtin; refine wp_app1 _ rfl _ _ 44 rfl (W.heap.size + 1) 2 (.int .i64 0) 8 Tryz.underlying44 inf_int rfl _ _ _ rfl hown3 (.int .i64 0) _ rfl rfl (by omega) (by omega) (by omega) ?_; intro v1 w1 hown1 hgrow1 hblk1 hB1)
    have hown4 := own_ints (v := .slice oa l.length oc) hown1
    have hg1 : Chg (fun i => W.heap.size + 1 ≤ i) w3 w1 := (Chg.refl _ _).grown hgrow1 (fun g hg => .inl (hown3.lt g hg).1)
    have hsr1 := H3.out.1.keep hg1 (fun b hb => ⟨by omega, by omega⟩)
    have hoW1 : Only SB W w1 := Chg.trans H3.out.2 (G := fun i => W.heap.size + 1 ≤ i) hg1 (fun i hi => .inr (by omega))
    have H4 := Lib.hid (And.intro hsr1 (And.intro hoW1 (own_F1 (own_base hown4 (show W.heap.size ≤ W.heap.size + 1 by omega))))); clear hsr1 hoW1 hown4 hg1 hgrow1 hblk1 hB1 hown1 hown3
    go_ret
    exact ⟨_, l ++ [0], rfl, ⟨H4.out.2.2, by simp; omega⟩, H4.out.1, H4.out.2.1⟩
   ·have e0 : (x == 0) = false := by rw [beq_eq_false_iff_ne]; exact hx
    have hll : l.length ≤ 8 := by have := HR.out.2.2.2; omega
    have H3 := Lib.hid (And.intro hs3 (And.intro hoW3 (own_F1 (own_base hown3 (show W.heap.size ≤ W.heap.size + 1 by omega))))); clear hs3 hoW3 ho3 hown3
    go_wp2_with fail
    go_ret
    exact ⟨_, l, rfl, ⟨H3.out.2.2, by omega⟩, H3.out.1, H3.out.2.1⟩
theorem behind_some {m : Mk} (hc : 0 ≤ m.c) {l : List Int} (hl : l.length = m.c.toNat) (hr : ∀ k, k < l.length → 0 ≤ geti l k ∧ geti l k ≤ m.d - 1) (h : (nextAns (behind m l)).2 = true) : isKeyB m (nextAns (behind m l)).1 = true := by
 obtain ⟨k, r, e⟩ := nextAns_true h
 rw [e]
 show isKeyB m k = true
 have hk : k ∈ behind m l := by rw [e]; simp
 unfold behind behindFrom at hk
 rw [List.mem_flatMap] at hk
 obtain ⟨i, hi, hk⟩ := hk
 rw [List.mem_map] at hi
 obtain ⟨j, hj, rfl⟩ := hi
 have hj' := List.mem_range.1 hj
 rw [List.mem_flatMap] at hk
 obtain ⟨y, hy, hk⟩ := hk
 have hy2 := mem_depths.1 hy
 unfold genB at hk
 split at hk
 ·rename_i hb
  obtain ⟨h1, h2, h3, h4⟩ := (gen_mem _ _ k).1 hk
  have hpl : (l.take (m.c.toNat - 1 - j) ++ [y]).length = m.c.toNat - 1 - j + 1 := by simp; omega
  rw [hpl] at h2 h3
  have hkl : k.length = m.c.toNat := by omega
  obtain ⟨z, hz⟩ := h1
  refine isKey_iff.2 ⟨by omega, fun x hx => ?_, begins_iff.2 fun i hi => ?_, h4⟩
  ·obtain ⟨i, hi, rfl⟩ := List.getElem_of_mem hx
   rw [← geti_eq hi]
   by_cases hlt : i < m.c.toNat - 1 - j + 1
   ·rw [← hz, geti_append (by rw [hpl]; exact hlt)]
    by_cases hlt2 : i < m.c.toNat - 1 - j
    ·rw [geti_append (by simp; omega), geti_take (by omega)]
     exact hr i (by omega)
    ·have e2 : i = (l.take (m.c.toNat - 1 - j)).length := by simp; omega
     rw [e2, geti_snoc]
     have := hr (m.c.toNat - 1 - j) (by omega)
     omega
   ·exact (h3 i (by omega) hi).1
  ·by_cases hlt : i < m.c.toNat - 1 - j + 1
   ·have h5 := begins_iff.1 hb i (by rw [hpl]; exact hlt)
    rw [← hz, fitAt_append (by rw [hpl]; exact hlt)]
    exact h5
   ·exact (h3 i (by omega) hi).2
 ·cases hk
set_option maxRecDepth 100000 in
set_option maxHeartbeats 2000000 in
theorem l02Some_any (B0 SB : Nat) (m : Mk) (hm : m.ok = true) (W : World) (h : Src B0 SB W) :
  Calls Tryz.prog 167 #[.pointer (some ⟨SB, 0, none⟩), .agg #[.int .i64 m.c, .int .i64 m.d, .int .i64 m.s, .int .i64 m.e, .int .i64 m.l]] W fun e w' => ∃ v key, e = .returned v ∧ (V1 (fun b => W.heap.size ≤ b) w' v key ∧ isKeyB m key = true) ∧ Src B0 SB w' ∧ Only SB W w' := by
 have hSl := h.lt
 have hB0 : B0 ≤ SB := h.1
 have hmo := Mk.ok_iff.1 hm
 obtain ⟨W1, hW1, hB01, hz01, HZ01, hc01, hh01⟩ := box_facts W #[.int .i64 m.c, .int .i64 m.d, .int .i64 m.s, .int .i64 m.e, .int .i64 m.l] 31
 have hs1' := h.below hB01
 have hbL : Below W1.heap.size W1 (W1.alloc (.cells #[] 2)) := (Below.refl _ _).alloc (Nat.le_refl _) _
 have hsL := hs1'.below hbL
 have hown0 := own_lit0 W1 (W.heap.size + 1) 2 1 (by omega)
 have hz1e := HZ01.out
 have hown0 : (W1.alloc (.cells #[] 2)).ownsRow (W.heap.size + 1) 2 1 (.slice (some ⟨W.heap.size + 1, 0, none⟩) 0 0) 0 [] := by rw [← hz1e] at hown0 ⊢; exact hown0
 have hbxL := (hbL.block _ hz01).trans hh01
 have hoL : Only SB W (W1.alloc (.cells #[] 2)) := (Only.of_below hB01).then_below hbL
 have HL := Lib.hid (And.intro hsL (And.intro hown0 (And.intro hoL (And.intro hbxL hm)))); clear hsL hown0 hbL hs1' h hh01 hz1e hoL hbxL hm
 go_enter Tryz.func167, Tryz.ntmps167
 go_wp2_with fail
 rw [← hW1]
 clear hc01 hW1 hB01
 go_loopw [5, 6] (fun cv i wr => ∃ (k : Nat) (l : List Int), (k : Int) ≤ m.c ∧ i = .int .i64 (k : Int) ∧ l.length = k ∧ (∀ j, j < l.length → 0 ≤ geti l j ∧ geti l j ≤ m.d - 1) ∧ wr.ownsRow (W.heap.size + 1) 2 1 cv l.length (l.map (Value.int .i64)) ∧ Src B0 SB wr ∧ Only SB W wr ∧ wr.heap[W.heap.size]? = some (.cells #[.int .i64 m.c, .int .i64 m.d, .int .i64 m.s, .int .i64 m.e, .int .i64 m.l] 31 (0, 0))) (fun _ i _ => 6 - (intOf i).toNat)
 case atStart => exact ⟨0, [], by omega, rfl, rfl, fun j hj => by simp at hj, HL.out.2.1, HL.out.1, HL.out.2.2.1, HL.out.2.2.2.1⟩
 case round =>
  obtain ⟨k, l, hkc, rfl, hlk, hlr, hown, hsr, hoW, hbox⟩ := hrel
  have hzr := hoW.size
  have hzrb : W.heap.size + 1 ≤ wr.heap.size := lt_of_heap hbox
  have hc : ∀ o, wr.cell? ⟨W.heap.size, o, none⟩ = (#[.int .i64 m.c, .int .i64 m.d, .int .i64 m.s, .int .i64 m.e, .int .i64 m.l] : Array Value)[o]? := fun o => by rw [cell_of_block hbox]
  obtain ⟨oa, oc, rfl, _, _⟩ := own_form hown
  by_cases hkk : (k : Int) < m.c
  ·have hd : decide ((k : Int) < m.c) = true := decide_eq_true hkk
   have HR := Lib.hid (And.intro hsr (And.intro hoW (And.intro hbox (And.intro hlk (And.intro hlr hown))))); clear hsr hoW hbox hlk hlr hown
   go_wp2_with fail
   refine (l01Next_any B0 SB _ _ HR.out.1).mono ?_
   rintro e' w3 ⟨x, rfl, ⟨hx0, hx1⟩, hs3, ho3⟩
   have hown3 := own_only HR.out.2.2.2.2.2 ho3 (by omega)
   have hbx3 := ho3.heap HR.out.2.2.1 (fun e => by omega)
   have hoW3 := HR.out.2.1.trans ho3
   have hz3 := ho3.size
   have hl9 : l.length ≤ 1000 := by have := HR.out.2.2.2.1; omega
   have H3 := Lib.hid (And.intro hs3 (And.intro hoW3 hbx3)); clear hs3 hoW3 hbx3 ho3 hc
   go_wp2_with (at_builtin; refine wp_app1 _ rfl _ _ 44 rfl (W.heap.size + 1) 2 (.int .i64 0) 8 Tryz.underlying44 inf_int rfl _ _ _ rfl hown3 (.int .i64 x) _ rfl rfl (by omega) (by omega) (by omega) ?_; intro v1 w1 hown1 hgrow1 hblk1 hB1)
   have hown4 := own_ints (v := .slice oa l.length oc) hown1
   have hg1 : Chg (fun i => W.heap.size + 1 ≤ i) w3 w1 := (Chg.refl _ _).grown hgrow1 (fun g hg => .inl (hown3.lt g hg).1)
   have hsr1 := H3.out.1.keep hg1 (fun b hb => ⟨by omega, by omega⟩)
   have hoW1 : Only SB W w1 := Chg.trans H3.out.2.1 (G := fun i => W.heap.size + 1 ≤ i) hg1 (fun i hi => .inr (by omega))
   have hbx1 := hg1.heap H3.out.2.2 (fun e => by omega)
   have H4 := Lib.hid (And.intro hsr1 (And.intro hoW1 (And.intro hbx1 hown4))); clear hsr1 hoW1 hbx1 hown4 hg1 hgrow1 hblk1 hB1 hown1 hown3
   go_roundw
   case rel =>
    refine ⟨k + 1, l ++ [x], by omega, by go_num, by have := HR.out.2.2.2.1; simp; omega, fun j hj => ?_, H4.out.2.2.2, H4.out.1, H4.out.2.1, H4.out.2.2.1⟩
    by_cases hjl : j < l.length
    ·rw [geti_append hjl]; exact HR.out.2.2.2.2.1 j hjl
    ·have e : j = l.length := by simp at hj; omega
     subst e
     rw [geti_snoc]; omega
   case measure => simp [intOf]; omega
  ·have hd : decide ((k : Int) < m.c) = false := decide_eq_false hkk
   have hlc : l.length = m.c.toNat := by omega
   have hV : V1 (fun b => W.heap.size ≤ b) wr (.slice oa l.length oc) l := (own_F1 (own_base hown (show W.heap.size ≤ W.heap.size + 1 by omega))).v1
   have hnx := l02Next_any m HL.out.2.2.2.2 (.slice oa l.length oc) l wr hV (by omega) (fun j hj => by have := hlr j hj; omega)
   have hbs := behind_some (m := m) (by omega) hlc hlr
   obtain ⟨ans, hans⟩ : ∃ a, nextAns (behind m l) = a := ⟨_, rfl⟩
   rw [hans] at hnx hbs
   obtain ⟨ak, ab⟩ := ans
   have HR := Lib.hid (And.intro hsr (And.intro hoW (And.intro hbox (And.intro hnx (And.intro hbs hV))))); clear hsr hoW hbox hnx hbs hown hlk hlr hans hlc hV
   go_wp2_with fail
   refine HR.out.2.2.2.1.mono ?_
   rintro e' w3 ⟨kv, rfl, hkv, hb3⟩
   have hs3 := HR.out.1.below hb3
   have hoW3 := HR.out.2.1.then_below hb3
   have hbx3 := (hb3.block _ (lt_of_heap HR.out.2.2.1)).trans HR.out.2.2.1
   have hc3 : ∀ o, w3.cell? ⟨W.heap.size, o, none⟩ = (#[.int .i64 m.c, .int .i64 m.d, .int .i64 m.s, .int .i64 m.e, .int .i64 m.l] : Array Value)[o]? := fun o => by rw [cell_of_block hbx3]
   have hz3 := hb3.size
   cases ab
   ·have H3 := Lib.hid (And.intro hs3 (And.intro hoW3 hbx3)); clear hs3 hoW3 hbx3 hb3 hkv hc
    have hne := keysOf_ne HL.out.2.2.2.2
    have hfst := l02First_any m HL.out.2.2.2.2 m.c.toNat (fun _ => False) (.slice none 0 0) [] w3 ⟨none, 0, rfl, Nat.le_refl _, Nat.zero_le _, fun k hk => by simp at hk⟩ (fun _ => .inl rfl) (by simp; omega) (fun k hk => by simp at hk)
    rw [genB_nil] at hfst
    obtain ⟨key, rest, hkeys⟩ : ∃ key rest, keysOf m = key :: rest := by
     cases hK : keysOf m with
     | nil => exact absurd hK hne
     | cons a b => exact ⟨a, b, rfl⟩
    have hkk2 : isKeyB m key = true := (mem_keysOf (by omega)).1 (by rw [hkeys]; simp)
    rw [hkeys] at hfst
    have hfst : Calls Tryz.prog 119 #[.agg #[.int .i64 m.c, .int .i64 m.d, .int .i64 m.s, .int .i64 m.e, .int .i64 m.l], .slice none 0 0] w3 (FirstPost (fun _ => False) w3 (key, true)) := hfst
    have HF := Lib.hid (And.intro hfst hkk2); clear hfst hkk2 hkeys hne
    go_wp2_with fail
    refine HF.out.1.mono ?_
    rintro e' w4 ⟨kv2, rfl, hkv2, hb4⟩
    have hV2 := hkv2 rfl
    have H4 := Lib.hid (And.intro (H3.out.1.below hb4) (And.intro (H3.out.2.1.then_below hb4) (hV2.mono (S' := fun b => W.heap.size ≤ b) (fun b h1 _ => by rcases h1 with h1 | h1; exact h1.elim; omega) (fun _ _ _ => rfl)))); clear hV2 hkv2 hb4
    go_wp2_with fail
    go_ret
    exact ⟨_, key, rfl, ⟨H4.out.2.2, HF.out.2⟩, H4.out.1, H4.out.2.1⟩
   ·have H3 := Lib.hid (And.intro hs3 (And.intro hoW3 ((hkv rfl).mono (S' := fun b => W.heap.size ≤ b) (fun b h1 _ => by rcases h1 with h1 | h1; exact h1.elim; omega) (fun _ _ _ => rfl)))); clear hs3 hoW3 hbx3 hb3 hkv hc hc3
    go_wp2_with fail
    go_ret
    exact ⟨_, ak, rfl, ⟨H3.out.2.2, HR.out.2.2.2.2.1 trivial⟩, H3.out.1, H3.out.2.1⟩
end Go.Proofs.YtmjplkbmhdkggaaGreat
