/- What the program and the reference answer on counts of open steps; copies and comparisons of lists of steps. No conditions. -/
import Derived.WalkSmall
import Derived.Deep.QuietTactic
import Derived.BigQuiet
import Derived.Laws.Cover1
import Derived.Test.YtbekpololmahoaaGreatDoorMLib
import Derived.Test.YtbekpololmahoaaGreatDoorMEach5
import Derived.Test.YtbekpololmahoaaGreatDoorMTable
import Derived.Test.YtbekpololmahoaaGreatDoorMShelf0
namespace Go.Proofs.YtbekpololmahoaaGreatDoor
open Go.RowKit
set_option linter.unusedVariables false
set_option linter.unusedSimpArgs false
def openSt (l : List (Int × Int)) : Nat → Nat
 | 0 => 0
 | k + 1 => openSt l k + if openS (gets l k) = true then 1 else 0
theorem openTo_le (l : List (Int × Int)) : ∀ k, openSt l k ≤ k
 | 0 => Nat.le_refl _
 | k + 1 => by have := openTo_le l k; unfold openSt; split <;> omega
theorem isOpenStep_b (x : Int × Int) (W : World) (r : Bool) (hr : openS x = r) :
  Calls Tryz.prog 21 #[.agg #[.int .i64 x.1, .int .i64 x.2]] W fun e' w' => e' = .returned (.bool r) ∧ Below W.heap.size W w' := by subst hr; exact isOpenStep_any _ _
theorem l19Open_b (x : Int × Int) (W : World) (r : Bool) (hr : openS x = r) :
  Calls Tryz.prog 37 #[.agg #[.int .i64 x.1, .int .i64 x.2]] W fun e' w' => e' = .returned (.bool r) ∧ Below W.heap.size W w' := by subst hr; exact l19Open_any _ _
theorem countOpenR_any {S : Nat → Prop} (v : Value) (l : List (Int × Int)) (W : World) (h : VS S W v l) :
  Calls Tryz.prog 17 #[v] W fun e' w' => e' = .returned (.int .i64 (openSt l l.length)) ∧ Below W.heap.size W w' := by
 have hV := h
 obtain ⟨a, c, rfl, hm⟩ := h.form
 go_enter Tryz.func17, Tryz.ntmps17
 go_wp2_with fail
 go_loopw [3, 4] (fun s i wr => ∃ k : Nat, k ≤ l.length ∧ i = .int .i64 k ∧ s = .int .i64 (openSt l k) ∧ Below W.heap.size W wr) (fun _ i _ => l.length - (intOf i).toNat)
 case atStart => exact ⟨0, Nat.zero_le _, rfl, rfl, Below.refl _ _⟩
 case round =>
  obtain ⟨k, hk, rfl, rfl, hB⟩ := hrel
  have hol := openTo_le l k
  have hzW := hB.size
  by_cases hkk : k < l.length
  ·obtain ⟨b1, off1, rfl, _, hc1, hc2⟩ := (hV.below hB).cell hkk
   cases ho : openS (gets l k)
   ·have HO := Lib.hid ho; clear ho
    go_wp2_with (go_at_call 37; refine (l19Open_b _ _ _ HO.out).mono ?_; rintro e' w' ⟨rfl, hb⟩)
    go_roundw
    case rel => exact ⟨k + 1, by omega, by go_num, by rw [openSt, if_neg (by rw [HO.out]; decide)]; rfl, hB.trans (hb.mono hzW)⟩
    case measure => simp [intOf]; omega
   ·have HO := Lib.hid ho; clear ho
    go_wp2_with (go_at_call 37; refine (l19Open_b _ _ _ HO.out).mono ?_; rintro e' w' ⟨rfl, hb⟩)
    go_roundw
    case rel => exact ⟨k + 1, by omega, by go_num, by rw [openSt, if_pos HO.out]; go_num, hB.trans (hb.mono hzW)⟩
    case measure => simp [intOf]; omega
  ·obtain rfl : k = l.length := by omega
   go_wp2_with fail
   go_ret
   exact ⟨rfl, hB⟩
theorem inf_step : (Tryz.prog.info? 48).map (fun i => (i.zero, i.size, i.bytes)) = some (some (.agg #[.int .i64 0, .int .i64 0]), 2, 16) := by kernel_rfl
/-- v holds steps, in block b alone. -/
def XS (w : World) (v : Value) (l : List (Int × Int)) (b : Nat) : Prop :=
 ∃ a c, v = .slice a l.length c ∧ l.length ≤ c ∧ c ≤ maxLen ∧
   (l ≠ [] → ∃ off cs e, a = some ⟨b, off, none⟩ ∧ w.heap[b]? = some (.cells cs e (0, 0)) ∧ ∀ k, k < l.length → cs[off + k * 2]? = some (.int .i64 (gets l k).1) ∧ cs[off + k * 2 + 1]? = some (.int .i64 (gets l k).2))
theorem XS.keep {w w' : World} {v : Value} {l : List (Int × Int)} {b : Nat} (h : XS w v l b) (hk : l ≠ [] → w'.heap[b]? = w.heap[b]?) : XS w' v l b := by
 obtain ⟨a, c, rfl, h1, h2, h⟩ := h
 refine ⟨a, c, rfl, h1, h2, fun hn => ?_⟩
 obtain ⟨off, cs, e, ha, hh, hc⟩ := h hn
 exact ⟨off, cs, e, ha, by rw [hk hn, hh], hc⟩
theorem XS.lt {w : World} {v : Value} {l : List (Int × Int)} {b : Nat} (h : XS w v l b) (hn : l ≠ []) : b < w.heap.size := by
 obtain ⟨a, c, rfl, h1, h2, h⟩ := h
 obtain ⟨off, cs, e, ha, hh, hc⟩ := h hn
 exact lt_of_heap hh
theorem XS.vs {w : World} {v : Value} {l : List (Int × Int)} {b : Nat} {S : Nat → Prop} (h : XS w v l b) (hS : l ≠ [] → S b) : VS S w v l := by
 obtain ⟨a, c, rfl, h1, h2, h⟩ := h
 refine ⟨a, c, rfl, h1, h2, fun k hk => ?_⟩
 have hn : l ≠ [] := by intro e; subst e; simp at hk
 obtain ⟨off, cs, e, ha, hh, hc⟩ := h hn
 exact ⟨b, off, ha, hS hn, by rw [cell_of_block hh]; exact (hc k hk).1, by rw [cell_of_block hh]; exact (hc k hk).2⟩
theorem VS.any {S : Nat → Prop} {w : World} {v : Value} {l : List (Int × Int)} (h : VS S w v l) : VS (fun _ => True) w v l := h.mono (fun _ _ _ => trivial) (fun _ _ _ => rfl)
theorem likeSteps_q {S S' : Nat → Prop} (va vb : Value) (a b : List (Int × Int)) (W : World) (ha : VS S W va a) (hb : VS S' W vb b) :
  Calls Tryz.prog 15 #[va, vb] W fun e' w' => e' = .returned (.bool (decide (a = b))) ∧ ∃ n, w' = W.drewN n := by
 have hA := ha
 have hB := hb
 obtain ⟨pa, ca, rfl, hma⟩ := ha.form
 obtain ⟨pb, cb, rfl, hmb⟩ := hb.form
 by_cases hl : a.length = b.length
 ·have hle : ((a.length : Int) == (b.length : Int)) = true := by simp; omega
  have hle2 : ((a.length : Int) != (b.length : Int)) = false := by simp; omega
  have Hl := Lib.hid hl; clear hl
  go_enter Tryz.func15, Tryz.ntmps15
  go_wp2_with fail
  go_loopw [5] (fun i wr => ∃ (k n : Nat), k ≤ a.length ∧ i = .int .i64 k ∧ a.take k = b.take k ∧ wr = W.drewN n) (fun i _ => a.length - (intOf i).toNat)
  case atStart => exact ⟨0, 0, Nat.zero_le _, rfl, rfl, rfl⟩
  case round =>
   obtain ⟨k, n, hk, rfl, hpre, rfl⟩ := hrel
   have Hpre := Lib.hid hpre; clear hpre
   by_cases hkk : k < a.length
   ·have hkb : k < b.length := by rw [← Hl.out]; exact hkk
    obtain ⟨b1, off1, rfl, _, hc1, hd1⟩ := hA.cell hkk
    obtain ⟨b2, off2, rfl, _, hc2, hd2⟩ := hB.cell hkb
    obtain ⟨x, hx⟩ : ∃ x, gets a k = x := ⟨_, rfl⟩
    obtain ⟨y, hy⟩ : ∃ y, gets b k = y := ⟨_, rfl⟩
    rw [hx] at hc1 hd1
    rw [hy] at hc2 hd2
    have Hxy := Lib.hid (And.intro hx hy); clear hx hy
    by_cases he1 : x.1 = y.1
    ·have e1 : (x.1 == y.1) = true := by simp [he1]
     by_cases he2 : x.2 = y.2
     ·have e2 : (x.2 == y.2) = true := by simp [he2]
      have he : x = y := Prod.ext he1 he2
      have He := Lib.hid he; clear he he1 he2
      go_wp2_with fail
      go_quiet (fail)
      go_wp2_with fail
      go_roundw
      case rel => exact ⟨k + 1, _, by omega, by go_num, by rw [take_gets hkk, take_gets hkb, Hpre.out, Hxy.out.1, Hxy.out.2, He.out], rfl⟩
      case measure => simp [intOf]; omega
     ·have e2 : (x.2 == y.2) = false := by simp [he2]
      have hne : decide (a = b) = false := decide_eq_false (fun e => he2 (by rw [← Hxy.out.1, ← Hxy.out.2, e]))
      have Hne := Lib.hid hne; clear hne he1 he2
      go_wp2_with fail
      go_quiet (fail)
      go_wp2_with fail
      go_ret
      exact ⟨ret_bool Hne.out.symm, _, by first | rfl | rw [World.drewN_drewN]⟩
    ·have e1 : (x.1 == y.1) = false := by simp [he1]
     have hne : decide (a = b) = false := decide_eq_false (fun e => he1 (by rw [← Hxy.out.1, ← Hxy.out.2, e]))
     have Hne := Lib.hid hne; clear hne he1
     go_wp2_with fail
     go_quiet (fail)
     go_wp2_with fail
     go_ret
     exact ⟨ret_bool Hne.out.symm, _, by first | rfl | rw [World.drewN_drewN]⟩
   ·have hab : a = b := by
     have := Hpre.out
     rw [List.take_of_length_le (by omega), List.take_of_length_le (by rw [← Hl.out]; omega)] at this
     exact this
    have heq : decide (a = b) = true := decide_eq_true hab
    have Heq := Lib.hid heq; clear heq hab
    go_wp2_with fail
    go_ret
    exact ⟨ret_bool Heq.out.symm, _, by first | rfl | rw [World.drewN_drewN]⟩
 ·have hne : decide (a = b) = false := decide_eq_false (fun e => hl (by rw [e]))
  have hle : ((a.length : Int) == (b.length : Int)) = false := by simp; omega
  have hle2 : ((a.length : Int) != (b.length : Int)) = true := by simp; omega
  have Hne := Lib.hid hne; clear hne
  go_enter Tryz.func15, Tryz.ntmps15
  go_wp2_with fail
  go_ret
  exact ⟨ret_bool Hne.out.symm, 0, rfl⟩
theorem likeSteps_w {S S' : Nat → Prop} (va vb : Value) (a b : List (Int × Int)) (W : World) (r : Bool) (hr : decide (a = b) = r) (ha : VS S W va a) (hb : VS S' W vb b) :
  Calls Tryz.prog 15 #[va, vb] W fun e' w' => e' = .returned (.bool r) ∧ Below W.heap.size W w' :=
 (likeSteps_q va vb a b W ha hb).mono fun _ _ ⟨h1, n, h2⟩ => ⟨by rw [h1, hr], by rw [h2]; exact below_drewN (Below.refl _ _) n⟩
def marks (n : Nat) (k : Int) : List Int := (List.range n).map fun i => k + (i : Nat)
theorem rows_ne {ls : List (List Int)} {k : Nat} (h : k < ls.length) : ls ≠ [] := by intro e; subst e; simp at h
def Rg (lo hi : Nat) : Nat → Prop := fun b => lo ≤ b ∧ b < hi
def XR1 (lo hi : Nat) (w : World) (v : Value) (l : List Int) : Prop := ∃ b, X1 w v l b ∧ (l ≠ [] → lo ≤ b ∧ b < hi)
def XR2 (lo hi : Nat) (w : World) (v : Value) (ls : List (List Int)) : Prop :=
 ∃ ob bk, X2 w v ls ob bk ∧ (ls ≠ [] → lo ≤ ob ∧ ob < hi) ∧ ∀ k, k < ls.length → getl ls k ≠ [] → lo ≤ bk k ∧ bk k < hi
section
variable {lo hi lo' hi' s B : Nat} {w w' : World} {v : Value} {l : List Int} {ls : List (List Int)}
theorem XR1.below (h : XR1 lo hi w v l) (hb : Below w.heap.size w w') : XR1 lo hi w' v l := by
 obtain ⟨b, h1, h2⟩ := h
 exact ⟨b, h1.keep (fun hn => hb.block _ (h1.lt hn)), h2⟩
theorem XR2.below (h : XR2 lo hi w v ls) (hb : Below w.heap.size w w') : XR2 lo hi w' v ls := by
 obtain ⟨ob, bk, h1, h2, h3⟩ := h
 exact ⟨ob, bk, h1.keep (fun hn => hb.block _ (h1.lt hn).1) (fun k hk hn => hb.block _ ((h1.lt (rows_ne hk)).2 k hk hn)), h2, h3⟩
theorem XR1.chg (h : XR1 lo hi w v l) (hc : Chg (Rg lo' hi') w w') (hd : hi ≤ lo' ∨ hi' ≤ lo) : XR1 lo hi w' v l := by
 obtain ⟨b, h1, h2⟩ := h
 exact ⟨b, h1.keep (fun hn => hc.block _ (h1.lt hn) (fun hf => by have := h2 hn; obtain ⟨g1, g2⟩ := hf; omega)), h2⟩
theorem XR2.chg (h : XR2 lo hi w v ls) (hc : Chg (Rg lo' hi') w w') (hd : hi ≤ lo' ∨ hi' ≤ lo) : XR2 lo hi w' v ls := by
 obtain ⟨ob, bk, h1, h2, h3⟩ := h
 exact ⟨ob, bk, h1.keep (fun hn => hc.block _ (h1.lt hn).1 (fun hf => by have := h2 hn; obtain ⟨g1, g2⟩ := hf; omega)) (fun k hk hn => hc.block _ ((h1.lt (rows_ne hk)).2 k hk hn) (fun hf => by have := h3 k hk hn; obtain ⟨g1, g2⟩ := hf; omega)), h2, h3⟩
theorem XR1.v1 (h : XR1 lo hi w v l) : V1 (fun _ => True) w v l := by
 obtain ⟨b, h1, _⟩ := h; exact h1.v1 (fun _ => trivial)
theorem XR2.v2 (h : XR2 lo hi w v ls) : V2 (fun _ => True) w v ls := by
 obtain ⟨ob, bk, h1, _⟩ := h; exact h1.v2 (fun _ => trivial) (fun _ _ _ => trivial)
theorem XR1.form (h : XR1 lo hi w v l) : ∃ a c, v = .slice a l.length c := by
 obtain ⟨b, ⟨a, c, rfl, _⟩, _⟩ := h; exact ⟨a, c, rfl⟩
theorem XR2.form (h : XR2 lo hi w v ls) : ∃ a c, v = .slice a ls.length c := by
 obtain ⟨ob, bk, ⟨a, c, rfl, _⟩, _⟩ := h; exact ⟨a, c, rfl⟩
theorem F1.any (h : F1 B w v l) : V1 (fun _ => True) w v l := h.v1.any
theorem F2.any (h : F2 B w v ls) : V2 (fun _ => True) w v ls := h.v2.any
end
def XRS (lo hi : Nat) (w : World) (v : Value) (l : List (Int × Int)) : Prop := ∃ b, XS w v l b ∧ (l ≠ [] → lo ≤ b ∧ b < hi)
/-- Fresh steps. -/
def FS (B : Nat) (w : World) (v : Value) (l : List (Int × Int)) : Prop := ∃ b, XS w v l b ∧ (l ≠ [] → B ≤ b)
section
variable {lo hi lo' hi' s B : Nat} {w w' : World} {v : Value} {l : List (Int × Int)}
theorem XRS.below (h : XRS lo hi w v l) (hb : Below w.heap.size w w') : XRS lo hi w' v l := by
 obtain ⟨b, h1, h2⟩ := h
 exact ⟨b, h1.keep (fun hn => hb.block _ (h1.lt hn)), h2⟩
theorem XRS.chg (h : XRS lo hi w v l) (hc : Chg (Rg lo' hi') w w') (hd : hi ≤ lo' ∨ hi' ≤ lo) : XRS lo hi w' v l := by
 obtain ⟨b, h1, h2⟩ := h
 exact ⟨b, h1.keep (fun hn => hc.block _ (h1.lt hn) (fun hf => by have := h2 hn; obtain ⟨g1, g2⟩ := hf; omega)), h2⟩
theorem XRS.vs (h : XRS lo hi w v l) : VS (fun _ => True) w v l := by
 obtain ⟨b, h1, _⟩ := h; exact h1.vs (fun _ => trivial)
theorem XRS.form (h : XRS lo hi w v l) : ∃ a c, v = .slice a l.length c := by
 obtain ⟨b, ⟨a, c, rfl, _⟩, _⟩ := h; exact ⟨a, c, rfl⟩
theorem VS.old {S : Nat → Prop} (h : VS S w v l) : VS (fun b => b < w.heap.size) w v l := h.mono (fun _ _ h => h) (fun _ _ _ => rfl)
theorem FS.mono {B' : Nat} (h : FS B w v l) (hb : B' ≤ B) : FS B' w v l := by
 obtain ⟨b, h1, h2⟩ := h
 exact ⟨b, h1, fun hn => Nat.le_trans hb (h2 hn)⟩
theorem FS.vs (h : FS B w v l) : VS (fun _ => True) w v l := by
 obtain ⟨b, h1, _⟩ := h; exact h1.vs (fun _ => trivial)
theorem FS.nil : FS B w (.slice none 0 0) [] := ⟨0, ⟨none, 0, rfl, Nat.le_refl _, Nat.zero_le _, fun hn => absurd rfl hn⟩, fun hn => absurd rfl hn⟩
theorem FS.below (h : FS B w v l) (hb : Below w.heap.size w w') : FS B w' v l := by
 obtain ⟨b, h1, h2⟩ := h
 exact ⟨b, h1.keep (fun hn => hb.block _ (h1.lt hn)), h2⟩
end
theorem F1.only {B SB : Nat} {w w' : World} {v : Value} {l : List Int} (h : F1 B w v l) (hc : Only SB w w') (hs : SB < B) : F1 B w' v l := by
 obtain ⟨b, h1, h2⟩ := h
 exact ⟨b, h1.keep fun hn => hc.block b (h1.lt hn) (fun e => by have := h2 hn; omega), h2⟩
theorem F2.only {B SB : Nat} {w w' : World} {v : Value} {ls : List (List Int)} (h : F2 B w v ls) (hc : Only SB w w') (hs : SB < B) : F2 B w' v ls := by
 obtain ⟨ob, bk, h1, h2, h3⟩ := h
 exact ⟨ob, bk, h1.keep (fun hn => hc.block ob (h1.lt hn).1 (fun e => by have := h2 hn; omega)) (fun k hk hn => hc.block _ ((h1.lt (by intro e; subst e; simp at hk)).2 k hk hn) (fun e => by have := h3 k hk hn; omega)), h2, h3⟩
theorem own_only {B SB : Nat} {E : TypeId} {w w' : World} {v : Value} {n : Nat} {xs : List Value} (h : w.ownsRow B E 1 v n xs) (hc : Only SB w w') (hs : SB < B) : w'.ownsRow B E 1 v n xs :=
 own_chg h hc (fun g hg e => by have := (h.lt g hg).1; omega)
theorem Only.setNew {SB b off : Nat} {w0 w : World} (h : Only SB w0 w) (hb : w0.heap.size ≤ b) (u : Value) : Only SB w0 (w.setCell ⟨b, off, none⟩ u) := Chg.setCell h (p := ⟨b, off, none⟩) (.inr hb) u
theorem Src.only {B0 SB : Nat} {w w' : World} (h : Src B0 SB w) {b off : Nat} (hb : b ≠ SB) (hB : B0 ≤ b) (u : Value) (he : w' = w.setCell ⟨b, off, none⟩ u) : Src B0 SB w' := by
 subst he
 exact h.keep (F := fun i => i = b) ((Chg.refl (fun i => i = b) _).setCell (p := ⟨b, off, none⟩) (.inl rfl) u) (fun i hi => by subst hi; exact ⟨hB, hb⟩)
set_option maxRecDepth 100000 in
set_option maxHeartbeats 1000000 in
theorem l01From_any {S : Nat → Prop} (v : Value) (l : List Int) (W : World) (h : VB S W v l) :
  Calls Tryz.prog 20 #[v] W fun e w' => e = .returned (.pointer (some ⟨W.heap.size, 0, none⟩)) ∧ Src W.heap.size W.heap.size w' ∧ Below W.heap.size W w' := by
 have hV := h.mono (S' := fun b => b < W.heap.size) (fun _ _ h => h) (fun _ _ _ => rfl)
 obtain ⟨a, c, rfl, hm⟩ := hV.form
 have HV := Lib.hid hV; clear h hV
 have hbA : Below W.heap.size W (W.alloc (.cells #[.slice a l.length c, .int .i64 0, .int .i64 30011] 74)) := (Below.refl _ _).alloc (Nat.le_refl _) _
 have HA := Lib.hid hbA; clear hbA
 go_enter Tryz.func20, Tryz.ntmps20
 go_wp2_with fail
 go_loopw [4] (fun i wr => ∃ (k : Nat) (seed : Int), k ≤ l.length ∧ i = .int .i64 (k : Int) ∧ 0 ≤ seed ∧ seed < 2147483647 ∧ wr.heap[W.heap.size]? = some (.cells #[.slice a l.length c, .int .i64 0, .int .i64 seed] 74 (0, 0)) ∧ Below W.heap.size W wr) (fun i _ => l.length - (intOf i).toNat)
 case atStart => exact ⟨0, 30011, Nat.zero_le _, rfl, by omega, by omega, heap_alloc_self _ _, HA.out⟩
 case round =>
  obtain ⟨k, seed, hk, rfl, hs0, hs1, hh, hB⟩ := hrel
  by_cases hkk : k < l.length
  ·obtain ⟨b, off, rfl, hb, hcc, hr1, hr2⟩ := (HV.out.mono (fun _ h _ => h) (Below.keep hB fun b hb _ => hb)).cell hkk
   have hbS : ¬ b = W.heap.size := fun e => by have h3 : b < W.heap.size := hb; omega
   obtain ⟨x, hx⟩ : ∃ x, geti l k = x := ⟨_, rfl⟩
   rw [hx] at hcc hr1 hr2
   have c0 : wr.cell? ⟨W.heap.size, 2, none⟩ = some (.int .i64 seed) := by rw [cell_of_block hh]; rfl
   have f0 := frozen_of_block hh 2
   have hk1 : decide (k < l.length) = true := decide_eq_true hkk
   have hdr : ∀ u : World, u.drew.heap = u.heap := fun _ => rfl
   by_cases h64 : (k : Int) < 64
   ·have hd : decide ((k : Int) < 64) = true := decide_eq_true h64
    have Hh := Lib.hid (And.intro hh (And.intro hB hx)); clear hh hB hx
    go_wp2_with fail
    go_region
    all_goals
     go_wp2_with fail
     go_roundw
     case rel =>
      refine ⟨k + 1, (seed * 67 + x) % 2147483647, by omega, by go_num, by omega, by omega, ?_, ?_⟩
      ·rw [hdr, heap_setCell_self Hh.out.1]; simp
      ·exact (Hh.out.2.1.setCell (Nat.le_refl _) _).drew
     case measure => simp [intOf]; omega
   ·have hd : decide ((k : Int) < 64) = false := decide_eq_false h64
    have Hh := Lib.hid (And.intro hh hB); clear hh hB
    go_wp2_with fail
    go_ret
    exact ⟨rfl, ⟨Nat.le_refl _, _, _, _, 0, seed, Hh.out.1, HV.out.mono (fun _ h _ => h) (Below.keep Hh.out.2 fun b hb _ => hb), Nat.zero_le _, hs0, hs1⟩, Hh.out.2⟩
  ·have hk1 : decide (k < l.length) = false := decide_eq_false hkk
   have Hh := Lib.hid (And.intro hh hB); clear hh hB
   go_wp2_with fail
   go_ret
   exact ⟨rfl, ⟨Nat.le_refl _, _, _, _, 0, seed, Hh.out.1, HV.out.mono (fun _ h _ => h) (Below.keep Hh.out.2 fun b hb _ => hb), Nat.zero_le _, hs0, hs1⟩, Hh.out.2⟩
/-- A maker that is being drawn: its block, and the block of the answer. -/
structure Mks (B0 SB RB MB : Nat) (W w : World) (c d s e l : Int) : Prop where
 src : Src B0 SB w
 only : Only SB W w
 hr : w.heap[RB]? = some (.cells #[.int .i64 0, .int .i64 0, .int .i64 0, .int .i64 0, .int .i64 0] 32 (0, 0))
 hm : w.heap[MB]? = some (.cells #[.int .i64 c, .int .i64 d, .int .i64 s, .int .i64 e, .int .i64 l] 32 (0, 0))
 ne : RB ≠ SB ∧ MB ≠ SB ∧ RB ≠ MB ∧ W.heap.size ≤ RB ∧ W.heap.size ≤ MB ∧ B0 ≤ RB ∧ B0 ≤ MB
theorem Mks.go {B0 SB RB MB : Nat} {W w w' : World} {c d s e l : Int} (h : Mks B0 SB RB MB W w c d s e l) (hs : Src B0 SB w') (ho : Only SB w w') : Mks B0 SB RB MB W w' c d s e l :=
 ⟨hs, h.only.trans ho, ho.heap h.hr (fun e => h.ne.1 e), ho.heap h.hm (fun e => h.ne.2.1 e), h.ne⟩
theorem Mks.put {B0 SB RB MB : Nat} {W w : World} {c d s e l c' d' s' e' l' : Int} {o : Nat} {v : Value} (h : Mks B0 SB RB MB W w c d s e l) (hc : (#[Value.int .i64 c, .int .i64 d, .int .i64 s, .int .i64 e, .int .i64 l] : Array Value).setIfInBounds o v = #[.int .i64 c', .int .i64 d', .int .i64 s', .int .i64 e', .int .i64 l']) :
  Mks B0 SB RB MB W (w.setCell ⟨MB, o, none⟩ v) c' d' s' e' l' := by
 obtain ⟨n1, n2, n3, n4, n5, n6, n7⟩ := h.ne
 exact ⟨h.src.only n2 n7 v rfl, h.only.setNew n5 v, (heap_setCell_other _ n3).trans h.hr, by rw [heap_setCell_self h.hm, hc], h.ne⟩
theorem Mks.cell {B0 SB RB MB : Nat} {W w : World} {c d s e l : Int} (h : Mks B0 SB RB MB W w c d s e l) (o : Nat) : w.cell? ⟨MB, o, none⟩ = (#[.int .i64 c, .int .i64 d, .int .i64 s, .int .i64 e, .int .i64 l] : Array Value)[o]? := by rw [cell_of_block h.hm]
theorem Mks.rcell {B0 SB RB MB : Nat} {W w : World} {c d s e l : Int} (h : Mks B0 SB RB MB W w c d s e l) (o : Nat) : w.cell? ⟨RB, o, none⟩ = (#[.int .i64 0, .int .i64 0, .int .i64 0, .int .i64 0, .int .i64 0] : Array Value)[o]? := by rw [cell_of_block h.hr]
/-- The end: the answer's block is written. -/
def putR (w : World) (RB : Nat) (v0 v1 v2 v3 v4 : Value) : World := ((((w.setCell ⟨RB, 0, none⟩ v0).setCell ⟨RB, 1, none⟩ v1).setCell ⟨RB, 2, none⟩ v2).setCell ⟨RB, 3, none⟩ v3).setCell ⟨RB, 4, none⟩ v4
theorem Mks.done {B0 SB RB MB : Nat} {W w : World} {c d s e l : Int} (h : Mks B0 SB RB MB W w c d s e l) (v0 v1 v2 v3 v4 : Value) : Src B0 SB (putR w RB v0 v1 v2 v3 v4) ∧ Only SB W (putR w RB v0 v1 v2 v3 v4) ∧ (putR w RB v0 v1 v2 v3 v4).heap[RB]? = some (.cells #[v0, v1, v2, v3, v4] 32 (0, 0)) := by
 obtain ⟨n1, n2, n3, n4, n5, n6, n7⟩ := h.ne
 refine ⟨((((h.src.only n1 n6 v0 rfl).only n1 n6 v1 rfl).only n1 n6 v2 rfl).only n1 n6 v3 rfl).only n1 n6 v4 rfl, ((((h.only.setNew n4 v0).setNew n4 v1).setNew n4 v2).setNew n4 v3).setNew n4 v4, ?_⟩
 unfold putR
 rw [heap_setCell_self (heap_setCell_self (heap_setCell_self (heap_setCell_self (heap_setCell_self h.hr _) _) _) _) _]
 simp
set_option maxRecDepth 100000 in
set_option maxHeartbeats 1000000 in
theorem l02Valid_any (B0 SB : Nat) (W : World) (h : Src B0 SB W) :
  Calls Tryz.prog 114 #[.pointer (some ⟨SB, 0, none⟩)] W fun e w' => ∃ m : Mk, e = .returned (.agg #[.int .i64 m.c, .int .i64 m.d, .int .i64 m.s, .int .i64 m.e, .int .i64 m.l]) ∧ (m.ok = true ∧ m.c ≤ 4 ∧ m.d ≤ 4) ∧ Src B0 SB w' ∧ Only SB W w' := by
 have hSl := h.lt
 have hB0 : B0 ≤ SB := h.1
 have hbA : Below W.heap.size W (W.alloc (.cells #[.int .i64 0, .int .i64 0, .int .i64 0, .int .i64 0, .int .i64 0] 32)) := (Below.refl _ _).alloc (Nat.le_refl _) _
 have hA := h.below hbA
 have hh0 := heap_alloc_self W (.cells #[.int .i64 0, .int .i64 0, .int .i64 0, .int .i64 0, .int .i64 0] 32)
 have HA := Lib.hid (And.intro hA (And.intro hbA hh0)); clear hA hbA h hh0
 go_enter Tryz.func114, Tryz.ntmps114
 go_wp2_with fail
 refine (l01Next_any B0 SB 3 _ HA.out.1).mono ?_
 rintro e' w1 ⟨x1, rfl, hx1, hs1, ho1⟩
 have HH1 := Lib.hid (And.intro hs1 ho1); clear hs1 ho1
 go_wp2_with fail
 refine (l01Next_any B0 SB 3 _ HH1.out.1).mono ?_
 rintro e' w2 ⟨x2, rfl, hx2, hs2, ho2⟩
 have hsz : W.heap.size + 1 ≤ w2.heap.size := by have h1 := HH1.out.2.size; have h2 := ho2.size; simp at h1; omega
 have hK : Mks B0 SB W.heap.size w2.heap.size W (w2.alloc (.cells #[.int .i64 (2 + x1), .int .i64 (2 + x2), .int .i64 0, .int .i64 0, .int .i64 0] 32)) (2 + x1) (2 + x2) 0 0 0 := by
  have hb2 : Below w2.heap.size w2 (w2.alloc (.cells #[.int .i64 (2 + x1), .int .i64 (2 + x2), .int .i64 0, .int .i64 0, .int .i64 0] 32)) := (Below.refl _ _).alloc (Nat.le_refl _) _
  have hr2 := ho2.heap (HH1.out.2.heap HA.out.2.2 (fun e => by omega)) (fun e => by omega)
  exact ⟨hs2.below hb2, (((Only.of_below HA.out.2.1).trans HH1.out.2).trans ho2).then_below hb2, (hb2.block _ (lt_of_heap hr2)).trans hr2, heap_alloc_self _ _, by omega, by omega, by omega, Nat.le_refl _, by omega, by omega, by omega⟩
 obtain ⟨w3, hw3⟩ : ∃ w3, w3 = w2.alloc (.cells #[.int .i64 (2 + x1), .int .i64 (2 + x2), .int .i64 0, .int .i64 0, .int .i64 0] 32) := ⟨_, rfl⟩
 rw [← hw3] at hK
 have Hw3 := Lib.hid hw3; clear hw3 hs2 ho2
 go_wp2_with fail
 rw [← Hw3.out]
 refine (l01Next_any B0 SB (2 + x2 - 1) _ hK.src).mono ?_
 rintro e' w4 ⟨x3, rfl, hx3, hs4, ho4⟩
 have hK := hK.go hs4 ho4
 clear hs4 ho4
 have hcm := hK.cell
 have hcr := hK.rcell
 have hfm := fun o => frozen_of_block hK.hm o
 have hfr := fun o => frozen_of_block hK.hr o
 have hK5 := hK.put (o := 2) (v := .int .i64 (1 + x3)) (c' := 2 + x1) (d' := 2 + x2) (s' := 1 + x3) (e' := 0) (l' := 0) (by simp)
 obtain ⟨w5, hw5⟩ : ∃ w5, w5 = w4.setCell ⟨w2.heap.size, 2, none⟩ (.int .i64 (1 + x3)) := ⟨_, rfl⟩
 rw [← hw5] at hK5
 have Hw5 := Lib.hid (And.intro hw5 hK5); clear hw5 hK hK5
 go_wp2_with fail
 rw [← Hw5.out.1]
 clear hcm hcr hfm hfr
 refine (l01Next_any B0 SB (2 + x1) _ Hw5.out.2.src).mono ?_
 rintro e' w6 ⟨x4, rfl, hx4, hs6, ho6⟩
 have hK := Hw5.out.2.go hs6 ho6
 clear hs6 ho6
 have hcm := hK.cell
 have hcr := hK.rcell
 have hfm := fun o => frozen_of_block hK.hm o
 have hfr := fun o => frozen_of_block hK.hr o
 have hK7 := hK.put (o := 3) (v := .int .i64 (1 + x4)) (c' := 2 + x1) (d' := 2 + x2) (s' := 1 + x3) (e' := 1 + x4) (l' := 0) (by simp)
 obtain ⟨w7, hw7⟩ : ∃ w7, w7 = w6.setCell ⟨w2.heap.size, 3, none⟩ (.int .i64 (1 + x4)) := ⟨_, rfl⟩
 rw [← hw7] at hK7
 have Hw7 := Lib.hid (And.intro hw7 hK7); clear hw7 hK hK7
 have hm1 : ¬ 2 + x1 < 2 := by omega
 have hm2 : ¬ 2 + x2 < 2 := by omega
 have hne1 : ¬ W.heap.size = w2.heap.size := by omega
 have hne2 : ¬ w2.heap.size = W.heap.size := by omega
 go_wp2_with fail
 rw [← Hw7.out.1]
 clear hcm hcr hfm hfr
 refine (l01Next_any B0 SB 2 _ Hw7.out.2.src).mono ?_
 rintro e' w8 ⟨x5, rfl, hx5, hs8, ho8⟩
 have hK := Hw7.out.2.go hs8 ho8
 clear hs8 ho8
 have hcm := hK.cell
 have hcr := hK.rcell
 have hfm := fun o => frozen_of_block hK.hm o
 have hfr := fun o => frozen_of_block hK.hr o
 have hK9 := hK.put (o := 4) (v := .int .i64 (1 + x5)) (c' := 2 + x1) (d' := 2 + x2) (s' := 1 + x3) (e' := 1 + x4) (l' := 1 + x5) (by simp)
 obtain ⟨w9, hw9⟩ : ∃ w9, w9 = w8.setCell ⟨w2.heap.size, 4, none⟩ (.int .i64 (1 + x5)) := ⟨_, rfl⟩
 rw [← hw9] at hK9
 have Hw9 := Lib.hid (And.intro hw9 hK9); clear hw9 hK hK9
 go_wp2_with fail
 rw [← Hw9.out.1]
 have hdone := Hw9.out.2.done (.int .i64 (2 + x1)) (.int .i64 (2 + x2)) (.int .i64 (1 + x3)) (.int .i64 (1 + x4)) (.int .i64 (1 + x5))
 obtain ⟨wz, hwz⟩ : ∃ wz, wz = putR w9 W.heap.size (.int .i64 (2 + x1)) (.int .i64 (2 + x2)) (.int .i64 (1 + x3)) (.int .i64 (1 + x4)) (.int .i64 (1 + x5)) := ⟨_, rfl⟩
 rw [← hwz] at hdone
 unfold putR at hwz
 rw [← hwz]
 obtain ⟨hd1, hd2, hd3⟩ := hdone
 have hz0 : wz.cell? ⟨W.heap.size, 0, none⟩ = some (.int .i64 (2 + x1)) := by rw [cell_of_block hd3]; rfl
 have hz1 : wz.cell? ⟨W.heap.size, 1, none⟩ = some (.int .i64 (2 + x2)) := by rw [cell_of_block hd3]; rfl
 have hz2 : wz.cell? ⟨W.heap.size, 2, none⟩ = some (.int .i64 (1 + x3)) := by rw [cell_of_block hd3]; rfl
 have hz3 : wz.cell? ⟨W.heap.size, 3, none⟩ = some (.int .i64 (1 + x4)) := by rw [cell_of_block hd3]; rfl
 have hz4 : wz.cell? ⟨W.heap.size, 4, none⟩ = some (.int .i64 (1 + x5)) := by rw [cell_of_block hd3]; rfl
 refine bodyPost_ret (v := .agg #[.int .i64 (2 + x1), .int .i64 (2 + x2), .int .i64 (1 + x3), .int .i64 (1 + x4), .int .i64 (1 + x5)]) (by simp [results, Tryz.results114, go_sem, hz0, hz1, hz2, hz3, hz4]) rfl ⟨⟨2 + x1, 2 + x2, 1 + x3, 1 + x4, 1 + x5⟩, rfl, ⟨Mk.ok_iff.2 ?_, ?_, ?_⟩, hd1, hd2⟩
 ·show (2 ≤ 2 + x1 ∧ 2 + x1 ≤ 6) ∧ (2 ≤ 2 + x2 ∧ 2 + x2 ≤ 8) ∧ (1 ≤ 1 + x3 ∧ 1 + x3 ≤ 2 + x2 - 1) ∧ (1 ≤ 1 + x4 ∧ 1 + x4 ≤ 2 + x1) ∧ (1 ≤ 1 + x5 ∧ 1 + x5 ≤ 2 + x1 ∧ 1 + x5 ≤ 2 + x2)
  omega
 ·show 2 + x1 ≤ 4; omega
 ·show 2 + x2 ≤ 4; omega
/-- A small list in new memory. -/
theorem lit_V1 (w : World) (T : TypeId) (l : List Int) (hl : l.length ≤ 1000) : V1 (fun b => b = w.heap.size) (w.alloc (.cells (l.map (Value.int .i64)).toArray T)) (.slice (some ⟨w.heap.size, 0, none⟩) l.length l.length) l := by
 refine ⟨_, _, rfl, Nat.le_refl _, by unfold maxLen; omega, fun k hk => ⟨w.heap.size, 0, .int .i64 (geti l k), rfl, rfl, ?_, rfl⟩⟩
 rw [cell_of_block (heap_alloc_self _ _), Nat.zero_add]
 simp [geti_eq hk, hk]
def SmallM (m : Mk) : Prop := (-1 ≤ m.c ∧ m.c ≤ 16) ∧ (-1 ≤ m.d ∧ m.d ≤ 16) ∧ (-1 ≤ m.s ∧ m.s ≤ 16) ∧ (-1 ≤ m.e ∧ m.e ≤ 16) ∧ (-1 ≤ m.l ∧ m.l ≤ 16)
theorem Mks.alloc {B0 SB RB MB : Nat} {W w : World} {c d s e l : Int} (h : Mks B0 SB RB MB W w c d s e l) (o : Obj) : Mks B0 SB RB MB W (w.alloc o) c d s e l := by
 have hb : Below w.heap.size w (w.alloc o) := (Below.refl _ _).alloc (Nat.le_refl _) _
 exact ⟨h.src.below hb, h.only.then_below hb, (hb.block _ (lt_of_heap h.hr)).trans h.hr, (hb.block _ (lt_of_heap h.hm)).trans h.hm, h.ne⟩
set_option maxRecDepth 100000 in
set_option maxHeartbeats 2000000 in
theorem l02Draw_any (B0 SB : Nat) (W : World) (h : Src B0 SB W) :
  Calls Tryz.prog 93 #[.pointer (some ⟨SB, 0, none⟩)] W fun e w' => ∃ m : Mk, e = .returned (.agg #[.int .i64 m.c, .int .i64 m.d, .int .i64 m.s, .int .i64 m.e, .int .i64 m.l]) ∧ SmallM m ∧ Src B0 SB w' ∧ Only SB W w' := by
 have hSl := h.lt
 have hB0 : B0 ≤ SB := h.1
 have hbA : Below W.heap.size W (W.alloc (.cells #[.int .i64 0, .int .i64 0, .int .i64 0, .int .i64 0, .int .i64 0] 32)) := (Below.refl _ _).alloc (Nat.le_refl _) _
 have hA := h.below hbA
 have hh0 := heap_alloc_self W (.cells #[.int .i64 0, .int .i64 0, .int .i64 0, .int .i64 0, .int .i64 0] 32)
 have HA := Lib.hid (And.intro hA (And.intro hbA hh0)); clear hA hbA h hh0
 go_enter Tryz.func93, Tryz.ntmps93
 go_wp2_with fail
 refine (l02Valid_any B0 SB _ HA.out.1).mono ?_
 rintro e' w1 ⟨⟨mc, md, ms, me, ml⟩, rfl, ⟨hmk, hc4, hd4⟩, hs1, ho1⟩
 have hmo := Mk.ok_iff.1 hmk
 have hmo : (2 ≤ mc ∧ mc ≤ 6) ∧ (2 ≤ md ∧ md ≤ 8) ∧ (1 ≤ ms ∧ ms ≤ md - 1) ∧ (1 ≤ me ∧ me ≤ mc) ∧ (1 ≤ ml ∧ ml ≤ mc ∧ ml ≤ md) := hmo
 have hc4 : mc ≤ 4 := hc4
 have hd4 : md ≤ 4 := hd4
 clear hmk
 have hsz : W.heap.size + 1 ≤ w1.heap.size := by have h1 := ho1.size; simp at h1; omega
 have hK : Mks B0 SB W.heap.size w1.heap.size W (w1.alloc (.cells #[.int .i64 mc, .int .i64 md, .int .i64 ms, .int .i64 me, .int .i64 ml] 32)) mc md ms me ml := by
  have hb2 : Below w1.heap.size w1 (w1.alloc (.cells #[.int .i64 mc, .int .i64 md, .int .i64 ms, .int .i64 me, .int .i64 ml] 32)) := (Below.refl _ _).alloc (Nat.le_refl _) _
  have hr2 := ho1.heap HA.out.2.2 (fun e => by omega)
  exact ⟨hs1.below hb2, ((Only.of_below HA.out.2.1).trans ho1).then_below hb2, (hb2.block _ (lt_of_heap hr2)).trans hr2, heap_alloc_self _ _, by omega, by omega, by omega, Nat.le_refl _, by omega, by omega, by omega⟩
 obtain ⟨w2, hw2⟩ : ∃ w2, w2 = w1.alloc (.cells #[.int .i64 mc, .int .i64 md, .int .i64 ms, .int .i64 me, .int .i64 ml] 32) := ⟨_, rfl⟩
 rw [← hw2] at hK
 have Hw2 := Lib.hid (And.intro hw2 hK); clear hw2 hs1 ho1 hK
 go_wp2_with fail
 rw [← Hw2.out.1]
 refine (l01Next_any B0 SB 30 _ Hw2.out.2.src).mono ?_
 rintro e' w3 ⟨x, rfl, hx, hs3, ho3⟩
 have hK := Hw2.out.2.go hs3 ho3
 clear hs3 ho3
 have hne1 : ¬ W.heap.size = w1.heap.size := by omega
 have hne2 : ¬ w1.heap.size = W.heap.size := by omega
 by_cases h0 : x = 0
 ·subst h0
  have hL := lit_V1 w3 2 [1, 6, 7] (by simp)
  have hKa := hK.alloc (.cells #[.int .i64 (1), .int .i64 (6), .int .i64 (7)] 2)
  obtain ⟨wa, hwa⟩ : ∃ wa, wa = w3.alloc (.cells #[.int .i64 (1), .int .i64 (6), .int .i64 (7)] 2) := ⟨_, rfl⟩
  have hL : V1 (fun b => b = w3.heap.size) wa (.slice (some ⟨w3.heap.size, 0, none⟩) 3 3) [1, 6, 7] := by rw [hwa]; exact hL
  rw [← hwa] at hKa
  have hsz3 : SB < w3.heap.size := hK.src.lt
  have HL := Lib.hid (And.intro hL (And.intro hKa hwa)); clear hL hKa hwa
  have hcm := hK.cell
  have hcr := hK.rcell
  have hfm := fun o => frozen_of_block hK.hm o
  have hfr := fun o => frozen_of_block hK.hr o
  have hK' := Lib.hid hK; clear hK
  go_wp2_with fail
  rw [← HL.out.2.2]
  clear hcm hcr hfm hfr
  refine (l01Pick_any B0 SB _ [1, 6, 7] wa HL.out.2.1.src HL.out.1 (fun b hb => by omega) (by simp)).mono ?_
  rintro e' w4 ⟨y, rfl, hy, hs4, ho4⟩
  have hyb : -1 ≤ y ∧ y ≤ 16 := by
   simp only [List.mem_cons, List.mem_nil_iff, or_false] at hy
   rcases hy with h | h | h <;> omega
  have hK := HL.out.2.1.go hs4 ho4
  clear hs4 ho4 hy
  have hcm := hK.cell
  have hcr := hK.rcell
  have hfm := fun o => frozen_of_block hK.hm o
  have hfr := fun o => frozen_of_block hK.hr o
  have hK5 := hK.put (o := 0) (v := .int .i64 y) (c' := y) (d' := md) (s' := ms) (e' := me) (l' := ml) (by simp)
  obtain ⟨w5, hw5⟩ : ∃ w5, w5 = w4.setCell ⟨w1.heap.size, 0, none⟩ (.int .i64 y) := ⟨_, rfl⟩
  rw [← hw5] at hK5
  have Hw5 := Lib.hid (And.intro hw5 hK5); clear hw5 hK hK5
  go_wp2_with fail
  (try rw [← Hw5.out.1])
  have hdone := Hw5.out.2.done (.int .i64 (y)) (.int .i64 (md)) (.int .i64 (ms)) (.int .i64 (me)) (.int .i64 (ml))
  obtain ⟨wz, hwz⟩ : ∃ wz, wz = putR w5 W.heap.size (.int .i64 (y)) (.int .i64 (md)) (.int .i64 (ms)) (.int .i64 (me)) (.int .i64 (ml)) := ⟨_, rfl⟩
  rw [← hwz] at hdone
  unfold putR at hwz
  rw [← hwz]
  obtain ⟨hd1, hd2, hd3⟩ := hdone
  have hz0 : wz.cell? ⟨W.heap.size, 0, none⟩ = some (.int .i64 (y)) := by rw [cell_of_block hd3]; rfl
  have hz1 : wz.cell? ⟨W.heap.size, 1, none⟩ = some (.int .i64 (md)) := by rw [cell_of_block hd3]; rfl
  have hz2 : wz.cell? ⟨W.heap.size, 2, none⟩ = some (.int .i64 (ms)) := by rw [cell_of_block hd3]; rfl
  have hz3 : wz.cell? ⟨W.heap.size, 3, none⟩ = some (.int .i64 (me)) := by rw [cell_of_block hd3]; rfl
  have hz4 : wz.cell? ⟨W.heap.size, 4, none⟩ = some (.int .i64 (ml)) := by rw [cell_of_block hd3]; rfl
  refine bodyPost_ret (v := .agg #[.int .i64 (y), .int .i64 (md), .int .i64 (ms), .int .i64 (me), .int .i64 (ml)]) (by simp [results, Tryz.results93, go_sem, hz0, hz1, hz2, hz3, hz4]) rfl ⟨⟨y, md, ms, me, ml⟩, rfl, ?_, hd1, hd2⟩
  show (-1 ≤ y ∧ y ≤ 16) ∧ (-1 ≤ md ∧ md ≤ 16) ∧ (-1 ≤ ms ∧ ms ≤ 16) ∧ (-1 ≤ me ∧ me ≤ 16) ∧ (-1 ≤ ml ∧ ml ≤ 16)
  omega
 ·have e0 : (x == 0) = false := by rw [beq_eq_false_iff_ne]; exact h0
  by_cases h1 : x = 1
  ·subst h1
   have hL := lit_V1 w3 2 [1, 8, 9] (by simp)
   have hKa := hK.alloc (.cells #[.int .i64 (1), .int .i64 (8), .int .i64 (9)] 2)
   obtain ⟨wa, hwa⟩ : ∃ wa, wa = w3.alloc (.cells #[.int .i64 (1), .int .i64 (8), .int .i64 (9)] 2) := ⟨_, rfl⟩
   have hL : V1 (fun b => b = w3.heap.size) wa (.slice (some ⟨w3.heap.size, 0, none⟩) 3 3) [1, 8, 9] := by rw [hwa]; exact hL
   rw [← hwa] at hKa
   have hsz3 : SB < w3.heap.size := hK.src.lt
   have HL := Lib.hid (And.intro hL (And.intro hKa hwa)); clear hL hKa hwa
   have hcm := hK.cell
   have hcr := hK.rcell
   have hfm := fun o => frozen_of_block hK.hm o
   have hfr := fun o => frozen_of_block hK.hr o
   have hK' := Lib.hid hK; clear hK
   go_wp2_with fail
   rw [← HL.out.2.2]
   clear hcm hcr hfm hfr
   refine (l01Pick_any B0 SB _ [1, 8, 9] wa HL.out.2.1.src HL.out.1 (fun b hb => by omega) (by simp)).mono ?_
   rintro e' w4 ⟨y, rfl, hy, hs4, ho4⟩
   have hyb : -1 ≤ y ∧ y ≤ 16 := by
    simp only [List.mem_cons, List.mem_nil_iff, or_false] at hy
    rcases hy with h | h | h <;> omega
   have hK := HL.out.2.1.go hs4 ho4
   clear hs4 ho4 hy
   have hcm := hK.cell
   have hcr := hK.rcell
   have hfm := fun o => frozen_of_block hK.hm o
   have hfr := fun o => frozen_of_block hK.hr o
   have hK5 := hK.put (o := 1) (v := .int .i64 y) (c' := mc) (d' := y) (s' := ms) (e' := me) (l' := ml) (by simp)
   obtain ⟨w5, hw5⟩ : ∃ w5, w5 = w4.setCell ⟨w1.heap.size, 1, none⟩ (.int .i64 y) := ⟨_, rfl⟩
   rw [← hw5] at hK5
   have Hw5 := Lib.hid (And.intro hw5 hK5); clear hw5 hK hK5
   go_wp2_with fail
   (try rw [← Hw5.out.1])
   have hdone := Hw5.out.2.done (.int .i64 (mc)) (.int .i64 (y)) (.int .i64 (ms)) (.int .i64 (me)) (.int .i64 (ml))
   obtain ⟨wz, hwz⟩ : ∃ wz, wz = putR w5 W.heap.size (.int .i64 (mc)) (.int .i64 (y)) (.int .i64 (ms)) (.int .i64 (me)) (.int .i64 (ml)) := ⟨_, rfl⟩
   rw [← hwz] at hdone
   unfold putR at hwz
   rw [← hwz]
   obtain ⟨hd1, hd2, hd3⟩ := hdone
   have hz0 : wz.cell? ⟨W.heap.size, 0, none⟩ = some (.int .i64 (mc)) := by rw [cell_of_block hd3]; rfl
   have hz1 : wz.cell? ⟨W.heap.size, 1, none⟩ = some (.int .i64 (y)) := by rw [cell_of_block hd3]; rfl
   have hz2 : wz.cell? ⟨W.heap.size, 2, none⟩ = some (.int .i64 (ms)) := by rw [cell_of_block hd3]; rfl
   have hz3 : wz.cell? ⟨W.heap.size, 3, none⟩ = some (.int .i64 (me)) := by rw [cell_of_block hd3]; rfl
   have hz4 : wz.cell? ⟨W.heap.size, 4, none⟩ = some (.int .i64 (ml)) := by rw [cell_of_block hd3]; rfl
   refine bodyPost_ret (v := .agg #[.int .i64 (mc), .int .i64 (y), .int .i64 (ms), .int .i64 (me), .int .i64 (ml)]) (by simp [results, Tryz.results93, go_sem, hz0, hz1, hz2, hz3, hz4]) rfl ⟨⟨mc, y, ms, me, ml⟩, rfl, ?_, hd1, hd2⟩
   show (-1 ≤ mc ∧ mc ≤ 16) ∧ (-1 ≤ y ∧ y ≤ 16) ∧ (-1 ≤ ms ∧ ms ≤ 16) ∧ (-1 ≤ me ∧ me ≤ 16) ∧ (-1 ≤ ml ∧ ml ≤ 16)
   omega
  ·have e1 : (x == 1) = false := by rw [beq_eq_false_iff_ne]; exact h1
   by_cases h2 : x = 2
   ·subst h2
    have hL := lit_V1 w3 2 [0, md - 1, md] (by simp)
    have hKa := hK.alloc (.cells #[.int .i64 (0), .int .i64 (md - 1), .int .i64 (md)] 2)
    obtain ⟨wa, hwa⟩ : ∃ wa, wa = w3.alloc (.cells #[.int .i64 (0), .int .i64 (md - 1), .int .i64 (md)] 2) := ⟨_, rfl⟩
    have hL : V1 (fun b => b = w3.heap.size) wa (.slice (some ⟨w3.heap.size, 0, none⟩) 3 3) [0, md - 1, md] := by rw [hwa]; exact hL
    rw [← hwa] at hKa
    have hsz3 : SB < w3.heap.size := hK.src.lt
    have HL := Lib.hid (And.intro hL (And.intro hKa hwa)); clear hL hKa hwa
    have hcm := hK.cell
    have hcr := hK.rcell
    have hfm := fun o => frozen_of_block hK.hm o
    have hfr := fun o => frozen_of_block hK.hr o
    have hK' := Lib.hid hK; clear hK
    go_wp2_with fail
    rw [← HL.out.2.2]
    clear hcm hcr hfm hfr
    refine (l01Pick_any B0 SB _ [0, md - 1, md] wa HL.out.2.1.src HL.out.1 (fun b hb => by omega) (by simp)).mono ?_
    rintro e' w4 ⟨y, rfl, hy, hs4, ho4⟩
    have hyb : -1 ≤ y ∧ y ≤ 16 := by
     simp only [List.mem_cons, List.mem_nil_iff, or_false] at hy
     rcases hy with h | h | h <;> omega
    have hK := HL.out.2.1.go hs4 ho4
    clear hs4 ho4 hy
    have hcm := hK.cell
    have hcr := hK.rcell
    have hfm := fun o => frozen_of_block hK.hm o
    have hfr := fun o => frozen_of_block hK.hr o
    have hK5 := hK.put (o := 2) (v := .int .i64 y) (c' := mc) (d' := md) (s' := y) (e' := me) (l' := ml) (by simp)
    obtain ⟨w5, hw5⟩ : ∃ w5, w5 = w4.setCell ⟨w1.heap.size, 2, none⟩ (.int .i64 y) := ⟨_, rfl⟩
    rw [← hw5] at hK5
    have Hw5 := Lib.hid (And.intro hw5 hK5); clear hw5 hK hK5
    go_wp2_with fail
    (try rw [← Hw5.out.1])
    have hdone := Hw5.out.2.done (.int .i64 (mc)) (.int .i64 (md)) (.int .i64 (y)) (.int .i64 (me)) (.int .i64 (ml))
    obtain ⟨wz, hwz⟩ : ∃ wz, wz = putR w5 W.heap.size (.int .i64 (mc)) (.int .i64 (md)) (.int .i64 (y)) (.int .i64 (me)) (.int .i64 (ml)) := ⟨_, rfl⟩
    rw [← hwz] at hdone
    unfold putR at hwz
    rw [← hwz]
    obtain ⟨hd1, hd2, hd3⟩ := hdone
    have hz0 : wz.cell? ⟨W.heap.size, 0, none⟩ = some (.int .i64 (mc)) := by rw [cell_of_block hd3]; rfl
    have hz1 : wz.cell? ⟨W.heap.size, 1, none⟩ = some (.int .i64 (md)) := by rw [cell_of_block hd3]; rfl
    have hz2 : wz.cell? ⟨W.heap.size, 2, none⟩ = some (.int .i64 (y)) := by rw [cell_of_block hd3]; rfl
    have hz3 : wz.cell? ⟨W.heap.size, 3, none⟩ = some (.int .i64 (me)) := by rw [cell_of_block hd3]; rfl
    have hz4 : wz.cell? ⟨W.heap.size, 4, none⟩ = some (.int .i64 (ml)) := by rw [cell_of_block hd3]; rfl
    refine bodyPost_ret (v := .agg #[.int .i64 (mc), .int .i64 (md), .int .i64 (y), .int .i64 (me), .int .i64 (ml)]) (by simp [results, Tryz.results93, go_sem, hz0, hz1, hz2, hz3, hz4]) rfl ⟨⟨mc, md, y, me, ml⟩, rfl, ?_, hd1, hd2⟩
    show (-1 ≤ mc ∧ mc ≤ 16) ∧ (-1 ≤ md ∧ md ≤ 16) ∧ (-1 ≤ y ∧ y ≤ 16) ∧ (-1 ≤ me ∧ me ≤ 16) ∧ (-1 ≤ ml ∧ ml ≤ 16)
    omega
   ·have e2 : (x == 2) = false := by rw [beq_eq_false_iff_ne]; exact h2
    by_cases h3 : x = 3
    ·subst h3
     have hL := lit_V1 w3 2 [0, mc, mc + 1] (by simp)
     have hKa := hK.alloc (.cells #[.int .i64 (0), .int .i64 (mc), .int .i64 (mc + 1)] 2)
     obtain ⟨wa, hwa⟩ : ∃ wa, wa = w3.alloc (.cells #[.int .i64 (0), .int .i64 (mc), .int .i64 (mc + 1)] 2) := ⟨_, rfl⟩
     have hL : V1 (fun b => b = w3.heap.size) wa (.slice (some ⟨w3.heap.size, 0, none⟩) 3 3) [0, mc, mc + 1] := by rw [hwa]; exact hL
     rw [← hwa] at hKa
     have hsz3 : SB < w3.heap.size := hK.src.lt
     have HL := Lib.hid (And.intro hL (And.intro hKa hwa)); clear hL hKa hwa
     have hcm := hK.cell
     have hcr := hK.rcell
     have hfm := fun o => frozen_of_block hK.hm o
     have hfr := fun o => frozen_of_block hK.hr o
     have hK' := Lib.hid hK; clear hK
     go_wp2_with fail
     rw [← HL.out.2.2]
     clear hcm hcr hfm hfr
     refine (l01Pick_any B0 SB _ [0, mc, mc + 1] wa HL.out.2.1.src HL.out.1 (fun b hb => by omega) (by simp)).mono ?_
     rintro e' w4 ⟨y, rfl, hy, hs4, ho4⟩
     have hyb : -1 ≤ y ∧ y ≤ 16 := by
      simp only [List.mem_cons, List.mem_nil_iff, or_false] at hy
      rcases hy with h | h | h <;> omega
     have hK := HL.out.2.1.go hs4 ho4
     clear hs4 ho4 hy
     have hcm := hK.cell
     have hcr := hK.rcell
     have hfm := fun o => frozen_of_block hK.hm o
     have hfr := fun o => frozen_of_block hK.hr o
     have hK5 := hK.put (o := 3) (v := .int .i64 y) (c' := mc) (d' := md) (s' := ms) (e' := y) (l' := ml) (by simp)
     obtain ⟨w5, hw5⟩ : ∃ w5, w5 = w4.setCell ⟨w1.heap.size, 3, none⟩ (.int .i64 y) := ⟨_, rfl⟩
     rw [← hw5] at hK5
     have Hw5 := Lib.hid (And.intro hw5 hK5); clear hw5 hK hK5
     go_wp2_with fail
     (try rw [← Hw5.out.1])
     have hdone := Hw5.out.2.done (.int .i64 (mc)) (.int .i64 (md)) (.int .i64 (ms)) (.int .i64 (y)) (.int .i64 (ml))
     obtain ⟨wz, hwz⟩ : ∃ wz, wz = putR w5 W.heap.size (.int .i64 (mc)) (.int .i64 (md)) (.int .i64 (ms)) (.int .i64 (y)) (.int .i64 (ml)) := ⟨_, rfl⟩
     rw [← hwz] at hdone
     unfold putR at hwz
     rw [← hwz]
     obtain ⟨hd1, hd2, hd3⟩ := hdone
     have hz0 : wz.cell? ⟨W.heap.size, 0, none⟩ = some (.int .i64 (mc)) := by rw [cell_of_block hd3]; rfl
     have hz1 : wz.cell? ⟨W.heap.size, 1, none⟩ = some (.int .i64 (md)) := by rw [cell_of_block hd3]; rfl
     have hz2 : wz.cell? ⟨W.heap.size, 2, none⟩ = some (.int .i64 (ms)) := by rw [cell_of_block hd3]; rfl
     have hz3 : wz.cell? ⟨W.heap.size, 3, none⟩ = some (.int .i64 (y)) := by rw [cell_of_block hd3]; rfl
     have hz4 : wz.cell? ⟨W.heap.size, 4, none⟩ = some (.int .i64 (ml)) := by rw [cell_of_block hd3]; rfl
     refine bodyPost_ret (v := .agg #[.int .i64 (mc), .int .i64 (md), .int .i64 (ms), .int .i64 (y), .int .i64 (ml)]) (by simp [results, Tryz.results93, go_sem, hz0, hz1, hz2, hz3, hz4]) rfl ⟨⟨mc, md, ms, y, ml⟩, rfl, ?_, hd1, hd2⟩
     show (-1 ≤ mc ∧ mc ≤ 16) ∧ (-1 ≤ md ∧ md ≤ 16) ∧ (-1 ≤ ms ∧ ms ≤ 16) ∧ (-1 ≤ y ∧ y ≤ 16) ∧ (-1 ≤ ml ∧ ml ≤ 16)
     omega
    ·have e3 : (x == 3) = false := by rw [beq_eq_false_iff_ne]; exact h3
     by_cases h4 : x = 4
     ·subst h4
      have hL := lit_V1 w3 2 [0, min mc md, min mc md + 1] (by simp)
      have hKa := hK.alloc (.cells #[.int .i64 (0), .int .i64 (min mc md), .int .i64 (min mc md + 1)] 2)
      obtain ⟨wa, hwa⟩ : ∃ wa, wa = w3.alloc (.cells #[.int .i64 (0), .int .i64 (min mc md), .int .i64 (min mc md + 1)] 2) := ⟨_, rfl⟩
      have hL : V1 (fun b => b = w3.heap.size) wa (.slice (some ⟨w3.heap.size, 0, none⟩) 3 3) [0, min mc md, min mc md + 1] := by rw [hwa]; exact hL
      rw [← hwa] at hKa
      have hsz3 : SB < w3.heap.size := hK.src.lt
      have HL := Lib.hid (And.intro hL (And.intro hKa hwa)); clear hL hKa hwa
      have hcm := hK.cell
      have hcr := hK.rcell
      have hfm := fun o => frozen_of_block hK.hm o
      have hfr := fun o => frozen_of_block hK.hr o
      have hK' := Lib.hid hK; clear hK
      go_wp2_with fail
      rw [← HL.out.2.2]
      clear hcm hcr hfm hfr
      refine (l01Pick_any B0 SB _ [0, min mc md, min mc md + 1] wa HL.out.2.1.src HL.out.1 (fun b hb => by omega) (by simp)).mono ?_
      rintro e' w4 ⟨y, rfl, hy, hs4, ho4⟩
      have hyb : -1 ≤ y ∧ y ≤ 16 := by
       simp only [List.mem_cons, List.mem_nil_iff, or_false] at hy
       rcases hy with h | h | h <;> omega
      have hK := HL.out.2.1.go hs4 ho4
      clear hs4 ho4 hy
      have hcm := hK.cell
      have hcr := hK.rcell
      have hfm := fun o => frozen_of_block hK.hm o
      have hfr := fun o => frozen_of_block hK.hr o
      have hK5 := hK.put (o := 4) (v := .int .i64 y) (c' := mc) (d' := md) (s' := ms) (e' := me) (l' := y) (by simp)
      obtain ⟨w5, hw5⟩ : ∃ w5, w5 = w4.setCell ⟨w1.heap.size, 4, none⟩ (.int .i64 y) := ⟨_, rfl⟩
      rw [← hw5] at hK5
      have Hw5 := Lib.hid (And.intro hw5 hK5); clear hw5 hK hK5
      go_wp2_with fail
      (try rw [← Hw5.out.1])
      have hdone := Hw5.out.2.done (.int .i64 (mc)) (.int .i64 (md)) (.int .i64 (ms)) (.int .i64 (me)) (.int .i64 (y))
      obtain ⟨wz, hwz⟩ : ∃ wz, wz = putR w5 W.heap.size (.int .i64 (mc)) (.int .i64 (md)) (.int .i64 (ms)) (.int .i64 (me)) (.int .i64 (y)) := ⟨_, rfl⟩
      rw [← hwz] at hdone
      unfold putR at hwz
      rw [← hwz]
      obtain ⟨hd1, hd2, hd3⟩ := hdone
      have hz0 : wz.cell? ⟨W.heap.size, 0, none⟩ = some (.int .i64 (mc)) := by rw [cell_of_block hd3]; rfl
      have hz1 : wz.cell? ⟨W.heap.size, 1, none⟩ = some (.int .i64 (md)) := by rw [cell_of_block hd3]; rfl
      have hz2 : wz.cell? ⟨W.heap.size, 2, none⟩ = some (.int .i64 (ms)) := by rw [cell_of_block hd3]; rfl
      have hz3 : wz.cell? ⟨W.heap.size, 3, none⟩ = some (.int .i64 (me)) := by rw [cell_of_block hd3]; rfl
      have hz4 : wz.cell? ⟨W.heap.size, 4, none⟩ = some (.int .i64 (y)) := by rw [cell_of_block hd3]; rfl
      refine bodyPost_ret (v := .agg #[.int .i64 (mc), .int .i64 (md), .int .i64 (ms), .int .i64 (me), .int .i64 (y)]) (by simp [results, Tryz.results93, go_sem, hz0, hz1, hz2, hz3, hz4]) rfl ⟨⟨mc, md, ms, me, y⟩, rfl, ?_, hd1, hd2⟩
      show (-1 ≤ mc ∧ mc ≤ 16) ∧ (-1 ≤ md ∧ md ≤ 16) ∧ (-1 ≤ ms ∧ ms ≤ 16) ∧ (-1 ≤ me ∧ me ≤ 16) ∧ (-1 ≤ y ∧ y ≤ 16)
      omega
     ·have e4 : (x == 4) = false := by rw [beq_eq_false_iff_ne]; exact h4
      by_cases h5 : x = 5
      ·subst h5
       have HK := Lib.hid hK; clear hK
       go_wp2_with fail
       refine (l01Next_any B0 SB 2 _ HK.out.src).mono ?_
       rintro e' w4 ⟨y1, rfl, hy1, hs4, ho4⟩
       have HK4 := Lib.hid (HK.out.go hs4 ho4); clear hs4 ho4
       go_wp2_with fail
       refine (l01Next_any B0 SB 2 _ HK4.out.src).mono ?_
       rintro e' w5 ⟨y2, rfl, hy2, hs5, ho5⟩
       have hK := HK4.out.go hs5 ho5
       clear hs5 ho5
       have hcm := hK.cell
       have hcr := hK.rcell
       have hfm := fun o => frozen_of_block hK.hm o
       have hfr := fun o => frozen_of_block hK.hr o
       have HK5 := Lib.hid hK; clear hK
       go_wp2_with fail
       have hdone := HK5.out.done (.int .i64 (6)) (.int .i64 (4 + y1)) (.int .i64 (2 + y2)) (.int .i64 (2)) (.int .i64 (3))
       obtain ⟨wz, hwz⟩ : ∃ wz, wz = putR w5 W.heap.size (.int .i64 (6)) (.int .i64 (4 + y1)) (.int .i64 (2 + y2)) (.int .i64 (2)) (.int .i64 (3)) := ⟨_, rfl⟩
       rw [← hwz] at hdone
       unfold putR at hwz
       rw [← hwz]
       obtain ⟨hd1, hd2, hd3⟩ := hdone
       have hz0 : wz.cell? ⟨W.heap.size, 0, none⟩ = some (.int .i64 (6)) := by rw [cell_of_block hd3]; rfl
       have hz1 : wz.cell? ⟨W.heap.size, 1, none⟩ = some (.int .i64 (4 + y1)) := by rw [cell_of_block hd3]; rfl
       have hz2 : wz.cell? ⟨W.heap.size, 2, none⟩ = some (.int .i64 (2 + y2)) := by rw [cell_of_block hd3]; rfl
       have hz3 : wz.cell? ⟨W.heap.size, 3, none⟩ = some (.int .i64 (2)) := by rw [cell_of_block hd3]; rfl
       have hz4 : wz.cell? ⟨W.heap.size, 4, none⟩ = some (.int .i64 (3)) := by rw [cell_of_block hd3]; rfl
       refine bodyPost_ret (v := .agg #[.int .i64 6, .int .i64 (4 + y1), .int .i64 (2 + y2), .int .i64 2, .int .i64 3]) (by simp [results, Tryz.results93, go_sem, hz0, hz1, hz2, hz3, hz4]) rfl ⟨⟨6, 4 + y1, 2 + y2, 2, 3⟩, rfl, ?_, hd1, hd2⟩
       show (-1 ≤ (6 : Int) ∧ (6 : Int) ≤ 16) ∧ (-1 ≤ 4 + y1 ∧ 4 + y1 ≤ 16) ∧ (-1 ≤ 2 + y2 ∧ 2 + y2 ≤ 16) ∧ (-1 ≤ (2 : Int) ∧ (2 : Int) ≤ 16) ∧ (-1 ≤ (3 : Int) ∧ (3 : Int) ≤ 16)
       omega
      ·have e5 : (x == 5) = false := by rw [beq_eq_false_iff_ne]; exact h5
       have hcm := hK.cell
       have hcr := hK.rcell
       have hfm := fun o => frozen_of_block hK.hm o
       have hfr := fun o => frozen_of_block hK.hr o
       have HK := Lib.hid hK; clear hK
       go_wp2_with fail
       (try rw [← HK.out.hm])
       have hdone := HK.out.done (.int .i64 (mc)) (.int .i64 (md)) (.int .i64 (ms)) (.int .i64 (me)) (.int .i64 (ml))
       obtain ⟨wz, hwz⟩ : ∃ wz, wz = putR w3 W.heap.size (.int .i64 (mc)) (.int .i64 (md)) (.int .i64 (ms)) (.int .i64 (me)) (.int .i64 (ml)) := ⟨_, rfl⟩
       rw [← hwz] at hdone
       unfold putR at hwz
       rw [← hwz]
       obtain ⟨hd1, hd2, hd3⟩ := hdone
       have hz0 : wz.cell? ⟨W.heap.size, 0, none⟩ = some (.int .i64 (mc)) := by rw [cell_of_block hd3]; rfl
       have hz1 : wz.cell? ⟨W.heap.size, 1, none⟩ = some (.int .i64 (md)) := by rw [cell_of_block hd3]; rfl
       have hz2 : wz.cell? ⟨W.heap.size, 2, none⟩ = some (.int .i64 (ms)) := by rw [cell_of_block hd3]; rfl
       have hz3 : wz.cell? ⟨W.heap.size, 3, none⟩ = some (.int .i64 (me)) := by rw [cell_of_block hd3]; rfl
       have hz4 : wz.cell? ⟨W.heap.size, 4, none⟩ = some (.int .i64 (ml)) := by rw [cell_of_block hd3]; rfl
       refine bodyPost_ret (v := .agg #[.int .i64 (mc), .int .i64 (md), .int .i64 (ms), .int .i64 (me), .int .i64 (ml)]) (by simp [results, Tryz.results93, go_sem, hz0, hz1, hz2, hz3, hz4]) rfl ⟨⟨mc, md, ms, me, ml⟩, rfl, ?_, hd1, hd2⟩
       show (-1 ≤ mc ∧ mc ≤ 16) ∧ (-1 ≤ md ∧ md ≤ 16) ∧ (-1 ≤ ms ∧ ms ≤ 16) ∧ (-1 ≤ me ∧ me ≤ 16) ∧ (-1 ≤ ml ∧ ml ≤ 16)
       omega
end Go.Proofs.YtbekpololmahoaaGreatDoor
namespace Go.Proofs.YtbekpololmahoaaGreatDoor
set_option linter.unusedVariables false
set_option linter.unusedSimpArgs false
/-- Up to the greatest cut, then to and fro. -/
def zig (c l : Nat) : List Int := (List.range c).map fun i => if i < l then (i : Int) else if (i - l) % 2 = 0 then (l : Int) - 2 else (l : Int) - 1
def zigB (c l : Nat) : Bool := decide (c < 2) || decide (l < 2) || decide (c < l) ||
 (decide ((zig c l).length = c) && (zig c l).all (fun x => decide (0 ≤ x) && decide (x ≤ (l : Int) - 1)) && (List.range c).all (fun i => decide (runAt (zig c l) i = 1)) && (List.range c).all (fun i => i == 0 || decide (absI (geti (zig c l) i - geti (zig c l) (i - 1)) = 1)) && decide (l ≤ kinds (zig c l)))
theorem zig_all : ∀ c, c < 7 → ∀ l, l < 7 → zigB c l = true := by decide +kernel
theorem zig_fits {c l : Nat} (h1 : c < 7) (h2 : 2 ≤ c) (h3 : l < 7) (h4 : 2 ≤ l) (h5 : l ≤ c) : (zig c l).length = c ∧ (∀ x ∈ zig c l, 0 ≤ x ∧ x ≤ (l : Int) - 1) ∧ (∀ i, i < c → runAt (zig c l) i = 1) ∧ (∀ i, i < c → i = 0 ∨ absI (geti (zig c l) i - geti (zig c l) (i - 1)) = 1) ∧ l ≤ kinds (zig c l) := by
 have h := zig_all c h1 l h3
 unfold zigB at h
 simp only [decide_eq_false (show ¬ c < 2 by omega), decide_eq_false (show ¬ l < 2 by omega), decide_eq_false (show ¬ c < l by omega), Bool.false_or, Bool.and_eq_true, decide_eq_true_eq, List.all_eq_true, List.mem_range, Bool.or_eq_true, beq_iff_eq] at h
 obtain ⟨⟨⟨⟨g1, g2⟩, g3⟩, g4⟩, g5⟩ := h
 exact ⟨g1, g2, g3, g4, g5⟩
theorem keysOf_ne {m : Mk} (h : m.ok = true) : keysOf m ≠ [] := by
 have hm := Mk.ok_iff.1 h
 obtain ⟨c, hc⟩ : ∃ c : Nat, m.c = (c : Int) := ⟨m.c.toNat, by omega⟩
 obtain ⟨l, hl, hl2⟩ : ∃ l : Nat, 2 ≤ l ∧ (l : Int) = max 2 m.l := ⟨(max 2 m.l).toNat, by omega, by omega⟩
 have hf := zig_fits (c := c) (l := l) (by omega) (by omega) (by omega) hl (by omega)
 intro e
 have hk : zig c l ∈ keysOf m := by
  refine (mem_keysOf (by omega)).2 (isKey_iff.2 ⟨by rw [hf.1]; exact hc.symm, fun x hx => ?_, begins_iff.2 fun i hi => ?_, ?_⟩)
  ·have := hf.2.1 x hx; omega
  ·rw [hf.1] at hi
   have h1 := hf.2.2.1 i hi
   have h2 := hf.2.2.2.1 i hi
   unfold fitAt
   rw [h1, Bool.and_eq_true]
   refine ⟨by simp; omega, ?_⟩
   rcases h2 with h2 | h2
   ·simp [h2]
   ·rw [h2]; simp; omega
  ·have := hf.2.2.2.2; omega
 rw [e] at hk
 cases hk
end Go.Proofs.YtbekpololmahoaaGreatDoor
