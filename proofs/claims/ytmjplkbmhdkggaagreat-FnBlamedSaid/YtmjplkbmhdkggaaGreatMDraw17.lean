/- The draws of the laws on designs: systems with cuts. No conditions. -/
import Derived.Lib.RabinKarpLaws
import Derived.Test.YtmjplkbmhdkggaaGreatMDraw14
import Derived.Test.YtmjplkbmhdkggaaGreatMGen
import Derived.Test.YtmjplkbmhdkggaaGreatMShelf0
import Derived.Test.YtmjplkbmhdkggaaGreatMLib
import Derived.Test.YtmjplkbmhdkggaaGreatMTable
namespace Go.Proofs.YtmjplkbmhdkggaaGreat
open Go.RowKit
set_option linter.unusedVariables false
set_option linter.unusedSimpArgs false
theorem putS_new {W w : World} {c0 c1 c2 c3 c4 c5 : Value} (hB : Below W.heap.size W w) (h : w.heap[W.heap.size]? = some (.cells #[c0, c1, c2, c3, c4, c5] 33 (0, 0))) (v0 v1 v2 v3 v4 v5 : Value) :
  Below W.heap.size W (putS w W.heap.size v0 v1 v2 v3 v4 v5) ∧ (putS w W.heap.size v0 v1 v2 v3 v4 v5).heap[W.heap.size]? = some (.cells #[v0, v1, v2, v3, v4, v5] 33 (0, 0)) ∧ ∀ b, b ≠ W.heap.size → (putS w W.heap.size v0 v1 v2 v3 v4 v5).heap[b]? = w.heap[b]? := by
 refine ⟨?_, ?_, fun b hb => ?_⟩
 ·unfold putS putR
  exact ((((((hB.setCell (Nat.le_refl _) _).setCell (Nat.le_refl _) _).setCell (Nat.le_refl _) _).setCell (Nat.le_refl _) _).setCell (Nat.le_refl _) _).setCell (Nat.le_refl _) _)
 ·unfold putS putR
  rw [heap_setCell_self (heap_setCell_self (heap_setCell_self (heap_setCell_self (heap_setCell_self (heap_setCell_self h _) _) _) _) _) _]
  simp
 ·unfold putS putR
  (repeat rw [heap_setCell_other _ hb])
theorem VB.below {S : Nat → Prop} {w w' : World} {v : Value} {l : List Int} (h : VB S w v l) (hb : Below w.heap.size w w') : VB S w' v l :=
 h.mono (fun _ h _ => h) (Below.keep hb fun _ _ h => h)
theorem Only.to_below {SB B : Nat} {a b : World} (h : Only SB a b) (hS : B ≤ SB) (hB : B ≤ a.heap.size) : Below B a b := Chg.to_below h (fun i hi => by omega) hB
/-- What a draw of a system and cuts from a code answers; X: what stands beside them. -/
def DrawC (W : World) (X : Mk → List (List Int) → List (List Int) → World → List Value → Prop) (e : Ending) (w' : World) : Prop :=
 ∃ (m : Mk) (u cv : Value) (T cuts : List (List Int)) (vs : List Value), e = .returned (.tuple (#[.agg #[.int .i64 m.c, .int .i64 m.d, .int .i64 m.s, .int .i64 m.e, .int .i64 m.l, u], cv] ++ vs.toArray)) ∧ X m T cuts w' vs ∧ V2 (fun b => W.heap.size ≤ b) w' u T ∧ V2 (fun b => W.heap.size ≤ b) w' cv cuts ∧ Below W.heap.size W w'
def DrawC2 (W : World) : Ending → World → Prop := DrawC W fun _ _ _ _ vs => vs = []
theorem DrawC2.open {W w' : World} {e : Ending} (h : DrawC2 W e w') : ∃ (m : Mk) (u cv : Value) (T cuts : List (List Int)), e = .returned (.tuple #[.agg #[.int .i64 m.c, .int .i64 m.d, .int .i64 m.s, .int .i64 m.e, .int .i64 m.l, u], cv]) ∧ V2 (fun b => W.heap.size ≤ b) w' u T ∧ V2 (fun b => W.heap.size ≤ b) w' cv cuts ∧ Below W.heap.size W w' := by
 obtain ⟨m, u, cv, T, cuts, vs, rfl, rfl, h1, h2, h3⟩ := h
 exact ⟨m, u, cv, T, cuts, rfl, h1, h2, h3⟩
/-- A function value that answers g of a number, and makes at most new memory. -/
def PredI (f : FuncId) (caps : Array Value) (W : World) (g : Int → Bool) (l : List Int) : Prop :=
 ∀ (w : World) (x : Int), Below W.heap.size W w → x ∈ l → Calls Tryz.prog f (#[.int .i64 x] ++ caps) w fun e w' => e = .returned (.bool (g x)) ∧ Below w.heap.size w w'
theorem indexFuncI_any {S : Nat → Prop} (v : Value) (l : List Int) (f : FuncId) (caps : Array Value) (g : Int → Bool) (W : World) (h : V1 S W v l) (hf : Enters f) (hp : PredI f caps W g l) :
  Calls Tryz.prog 141 #[v, .func (.func f) #[] caps] W fun e' w' => e' = .returned (.int .i64 (idxR g l 0)) ∧ Below W.heap.size W w' := by
 have hV := h
 obtain ⟨a, c, rfl, hm⟩ := h.form
 have Hp := Lib.hid hp; clear hp
 go_enter Tryz.func141, Tryz.ntmps141
 go_wp2_with fail
 go_loopw [5, 8] (fun _ i wr => ∃ k : Nat, k ≤ l.length ∧ i = .int .i64 k ∧ idxR g l 0 = idxR g (l.drop k) k ∧ Below W.heap.size W wr) (fun _ i _ => l.length - (intOf i).toNat)
 case atStart => exact ⟨0, Nat.zero_le _, rfl, rfl, Below.refl _ _⟩
 case round =>
  obtain ⟨k, hk, rfl, hrem, hB⟩ := hrel
  have Hr := Lib.hid hrem; clear hrem
  by_cases hkk : k < l.length
  ·obtain ⟨b1, off1, rfl, _, hc1⟩ := (hV.below hB).cell hkk
   have hf' := hf
   unfold Enters at hf'
   cases hg : g (geti l k)
   ·have HG := Lib.hid hg; clear hg
    go_wp2_with fail
    have hcl := Hp.out _ _ hB (geti_mem hkk)
    rw [HG.out] at hcl
    refine hcl.mono ?_
    rintro e' w' ⟨rfl, hb⟩
    have hzB := hb.size
    have hzW := hB.size
    go_wp2_with fail
    go_roundw
    case rel => exact ⟨k + 1, by omega, by go_num, by rw [Hr.out, idxR_stepi hkk, HG.out]; rfl, hB.trans (hb.mono hzW)⟩
    case measure => simp [intOf]; omega
   ·have HG := Lib.hid hg; clear hg
    go_wp2_with fail
    have hcl := Hp.out _ _ hB (geti_mem hkk)
    rw [HG.out] at hcl
    refine hcl.mono ?_
    rintro e' w' ⟨rfl, hb⟩
    have hzB := hb.size
    have hzW := hB.size
    go_wp2_with fail
    go_ret
    exact ⟨ret_int (by rw [Hr.out, idxR_stepi hkk, HG.out]; rfl), hB.trans (hb.mono hzW)⟩
  ·have hd : l.drop k = [] := List.drop_of_length_le (by omega)
   have Hd := Lib.hid hd; clear hd
   go_wp2_with fail
   go_ret
   exact ⟨ret_int (by rw [Hr.out, Hd.out]; rfl), hB⟩
theorem idxR_lt {g : Int → Bool} : ∀ {l : List Int} {k : Nat}, 0 ≤ idxR g l k → idxR g l k < k + l.length
 | [], k, h => by simp [idxR] at h
 | x :: xs, k, h => by
   unfold idxR at h ⊢
   split at h
   ·rename_i hg; rw [if_pos hg]; simp; omega
   ·rename_i hg; rw [if_neg hg]; have := idxR_lt h; simp; omega
/-- The first numbers of the first k lists that g lets pass, if each of these lists has one. -/
def firsts (g : Int → Bool) (ls : List (List Int)) : Nat → Option (List Int)
 | 0 => some []
 | k + 1 => match firsts g ls k with
   | none => none
   | some l => if idxR g (getl ls k) 0 < 0 then none else some (l ++ [geti (getl ls k) (idxR g (getl ls k) 0).toNat])
theorem firsts_len {g : Int → Bool} {ls : List (List Int)} : ∀ {k : Nat} {l : List Int}, firsts g ls k = some l → l.length = k
 | 0, l, h => by simp [firsts] at h; simp [← h]
 | k + 1, l, h => by
   unfold firsts at h
   split at h
   ·cases h
   ·rename_i l' hl'
    split at h
    ·cases h
    ·injection h with h; subst h; simp [firsts_len hl']
theorem firsts_none {g : Int → Bool} {ls : List (List Int)} {k : Nat} (h : firsts g ls k = none) : ∀ {n}, k ≤ n → firsts g ls n = none
 | 0, hk => by obtain rfl : k = 0 := by omega
               exact h
 | n + 1, hk => by
   by_cases hkn : k = n + 1
   ·subst hkn; exact h
   ·unfold firsts; rw [firsts_none h (show k ≤ n by omega)]
def firstsAns (g : Int → Bool) (ls : List (List Int)) : List Int × Bool := match firsts g ls ls.length with
 | none => ([], false)
 | some l => (l, true)
/-- A fresh list that may grow in place. -/
def FO (B : Nat) (w : World) (v : Value) (l : List Int) : Prop := F1 B w v l ∧ (l ≠ [] → w.ownsRow B 2 1 v l.length (l.map (Value.int .i64)))
theorem FO.below {B : Nat} {w w' : World} {v : Value} {l : List Int} (h : FO B w v l) (hb : Below w.heap.size w w') : FO B w' v l :=
 ⟨h.1.below hb, fun hn => own_chg (h.2 hn) (Chg.of_below (F := fun _ => False) hb) (fun _ _ h => h)⟩
theorem FO.mono {B B' : Nat} {w : World} {v : Value} {l : List Int} (h : FO B w v l) (hb : B' ≤ B) : FO B' w v l := ⟨h.1.mono hb, fun hn => own_base (h.2 hn) hb⟩
theorem firstFrom_own {S : Nat → Prop} (v : Value) (ls : List (List Int)) (f : FuncId) (caps : Array Value) (g : Int → Bool) (W : World) (h : V2 S W v ls) (hl6 : ls.length ≤ 1048576) (hf : Enters f) (hp : ∀ k, k < ls.length → PredI f caps W g (getl ls k)) :
  Calls Tryz.prog 135 #[v, .func (.func f) #[] caps] W fun e' w' => ∃ v', e' = .returned (.tuple #[v', .bool (firstsAns g ls).2]) ∧ FO W.heap.size w' v' (firstsAns g ls).1 ∧ Below W.heap.size W w' := by
 have hV := h
 obtain ⟨a, c, rfl, hm⟩ := h.form
 have Hp := Lib.hid hp; clear hp
 obtain ⟨B, hBs⟩ : ∃ B, B = W.heap.size := ⟨_, rfl⟩
 rw [← hBs]
 have hown0 := own_lit0 W B 2 1 (by omega)
 obtain ⟨ans, hans⟩ : ∃ r, firstsAns g ls = r := ⟨_, rfl⟩
 rw [hans]
 have Hans := Lib.hid hans; clear hans
 have Hp2 : ∀ w : World, Below B W w → Below W.heap.size W w := fun w h => by rw [← hBs]; exact h
 have hBle : B ≤ W.heap.size := by omega
 have hBge : W.heap.size ≤ B := by omega
 have Hp2 := Lib.hid Hp2
 have hHB := Lib.hid hBs
 clear hBs
 go_enter Tryz.func135, Tryz.ntmps135
 go_wp2_with fail
 go_loopw [6, 8, 9, 13] (fun ro _ _ i wr => ∃ (k : Nat) (l : List Int), k ≤ ls.length ∧ i = .int .i64 k ∧ firsts g ls k = some l ∧ wr.ownsRow B 2 1 ro l.length (l.map (Value.int .i64)) ∧ Below B W wr) (fun _ _ _ i _ => ls.length - (intOf i).toNat)
 case atStart => exact ⟨0, [], Nat.zero_le _, rfl, rfl, hown0, (Below.refl _ _).alloc (by omega) _⟩
 case round =>
  obtain ⟨k, l, hk, rfl, hfk, hown, hB⟩ := hrel
  have hll := firsts_len hfk
  have Hfk := Lib.hid hfk; clear hfk
  by_cases hkk : k < ls.length
  ·obtain ⟨b1, off1, a1, c1, rfl, _, hc1, hr1⟩ := (hV.below (Hp2.out _ hB)).cell hkk
   have hlen1 := hr1.len
   unfold maxLen at hlen1
   have hpk : PredI f caps wr g (getl ls k) := fun w x hb hx => Hp.out k hkk w x (Hp2.out _ (hB.trans (hb.mono (by have := hB.size; omega)))) hx
   by_cases hix : idxR g (getl ls k) 0 < 0
   ·have hfin : ans = ([], false) := by
     rw [← Hans.out]; unfold firstsAns
     rw [firsts_none (k := k + 1) (by unfold firsts; rw [Hfk.out]; simp only [if_pos hix]) (by omega)]
    subst hfin
    have Hown := Lib.hid hown; clear hown
    go_wp2_with fail
    refine (indexFuncI_any _ _ _ _ _ _ hr1 hf hpk).mono ?_
    rintro e' w2 ⟨rfl, hb2⟩
    generalize idxR g (getl ls k) 0 = q at *
    go_wp2_with fail
    go_ret2
    exact ⟨_, rfl, ⟨⟨0, ⟨none, 0, rfl, Nat.le_refl _, Nat.zero_le _, fun hn => absurd rfl hn⟩, fun hn => absurd rfl hn⟩, fun hn => absurd rfl hn⟩, hB.trans (hb2.mono (by have := hB.size; omega))⟩
   ·have hlt := idxR_lt (g := g) (l := getl ls k) (k := 0) (by omega)
    have hst : firsts g ls (k + 1) = some (l ++ [geti (getl ls k) (idxR g (getl ls k) 0).toNat]) := by
     unfold firsts; rw [Hfk.out]; simp only [if_neg hix]
    have Hst := Lib.hid hst; clear hst
    obtain ⟨q, hq⟩ : ∃ q : Nat, idxR g (getl ls k) 0 = (q : Int) := ⟨(idxR g (getl ls k) 0).toNat, by omega⟩
    have hql : q < (getl ls k).length := by omega
    have Hq := Lib.hid hq; clear hq
    clear hix hlt
    have Hown := Lib.hid hown; clear hown
    go_wp2_with fail
    refine (indexFuncI_any _ _ _ _ _ _ hr1 hf hpk).mono ?_
    rintro e' w2 ⟨rfl, hb2⟩
    rw [Hq.out]
    obtain ⟨b2, off2, ea, _, hc2⟩ := (hr1.below hb2).cell hql
    subst ea
    have hown2 := own_chg Hown.out (Chg.of_below (F := fun _ => False) hb2) (fun _ _ h => h)
    have hB2 := hB.trans (hb2.mono (by have := hB.size; omega))
    have hzB := hB2.size
    go_wp2_with (at_builtin; refine wp_app1 _ rfl _ _ 44 rfl B 2 (.int .i64 0) 8 Tryz.underlying44 inf_int rfl _ _ _ rfl hown2 (.int .i64 (geti (getl ls k) q)) _ rfl rfl (by omega) (by omega) (by omega) ?_; intro v1 w1 hown1 hgrow1 hblk1 hB1)
    go_roundw
    case rel =>
     refine ⟨k + 1, _, by omega, by go_num, Hst.out, ?_, ?_⟩
     ·rw [Hq.out]
      simpa using hown1
     ·exact hB2.trans (hB1.mono (by omega))
    case measure => simp [intOf]; omega
  ·obtain rfl : k = ls.length := by omega
   have hfin : ans = (l, true) := by
    rw [← Hans.out]; unfold firstsAns
    rw [Hfk.out]
   subst hfin
   go_wp2_with fail
   go_ret2
   exact ⟨_, rfl, ⟨own_F1 hown, fun _ => hown⟩, hB⟩
/-- All choices of one number of each list, in order. -/
def allR : List (List Int) → List (List Int)
 | [] => [[]]
 | r :: rs => r.flatMap fun x => (allR rs).map fun l => x :: l
theorem mem_allR : ∀ {rows : List (List Int)} {l : List Int}, l ∈ allR rows ↔ l.length = rows.length ∧ ∀ k, k < rows.length → geti l k ∈ getl rows k
 | [], l => by
   simp only [allR, List.mem_singleton, List.length_nil]
   constructor
   ·rintro rfl; exact ⟨rfl, fun k hk => by omega⟩
   ·rintro ⟨h, _⟩; exact List.eq_nil_of_length_eq_zero h
 | r :: rs, l => by
   simp only [allR, List.mem_flatMap, List.mem_map]
   constructor
   ·rintro ⟨x, hx, l', hl', rfl⟩
    obtain ⟨h1, h2⟩ := mem_allR.1 hl'
    refine ⟨by simp [h1], fun k hk => ?_⟩
    cases k with
    | zero => exact hx
    | succ k => exact h2 k (by simpa using hk)
   ·rintro ⟨h1, h2⟩
    cases l with
    | nil => simp at h1
    | cons x l =>
      refine ⟨x, h2 0 (by simp), l, mem_allR.2 ⟨by simpa using h1, fun k hk => ?_⟩, rfl⟩
      exact h2 (k + 1) (by simpa using hk)
/-- The numbers of a list as one number. -/
def codeL : List Int → Int
 | [] => 0
 | x :: xs => x * 16 ^ xs.length + codeL xs
def Dig (l : List Int) : Prop := ∀ x ∈ l, 0 ≤ x ∧ x < 16
theorem pow16 (n : Nat) : (0 : Int) < 16 ^ n := by
 induction n with
 | zero => simp
 | succ n ih => rw [Int.pow_succ]; omega
theorem codeL_bd : ∀ {l : List Int}, Dig l → 0 ≤ codeL l ∧ codeL l < 16 ^ l.length
 | [], _ => by simp [codeL]
 | x :: xs, h => by
   have hx := h x (List.mem_cons_self ..)
   have ih := codeL_bd (l := xs) fun y hy => h y (List.mem_cons_of_mem _ hy)
   have hp := pow16 xs.length
   have e : (16 : Int) ^ (x :: xs).length = 16 * 16 ^ xs.length := by rw [List.length_cons, Int.pow_succ, Int.mul_comm]
   rw [e, codeL]
   have h1 : 0 ≤ x * 16 ^ xs.length := Int.mul_nonneg hx.1 (Int.le_of_lt hp)
   have h2 : x * 16 ^ xs.length ≤ 15 * 16 ^ xs.length := Int.mul_le_mul_of_nonneg_right (by omega) (Int.le_of_lt hp)
   omega
theorem codeL_cons {x y : Int} {xs ys : List Int} (h : Dig (x :: xs)) (h' : Dig (y :: ys)) (hl : xs.length = ys.length) (hxy : x < y) : codeL (x :: xs) < codeL (y :: ys) := by
 have b1 := codeL_bd (l := xs) fun z hz => h z (List.mem_cons_of_mem _ hz)
 have b2 := codeL_bd (l := ys) fun z hz => h' z (List.mem_cons_of_mem _ hz)
 have hp := pow16 xs.length
 rw [codeL, codeL, ← hl]
 have h2 : (x + 1) * 16 ^ xs.length ≤ y * 16 ^ xs.length := Int.mul_le_mul_of_nonneg_right (by omega) (Int.le_of_lt hp)
 rw [Int.add_mul] at h2
 omega
theorem codeL_inj : ∀ {a b : List Int}, Dig a → Dig b → a.length = b.length → codeL a = codeL b → a = b
 | [], [], _, _, _, _ => rfl
 | [], y :: b, _, _, h, _ => by simp at h
 | x :: a, [], _, _, h, _ => by simp at h
 | x :: a, y :: b, ha, hb, h, e => by
   have hl : a.length = b.length := by simpa using h
   have hxy : x = y := by
    rcases Int.lt_trichotomy x y with h1 | h1 | h1
    ·have := codeL_cons ha hb hl h1; omega
    ·exact h1
    ·have := codeL_cons hb ha hl.symm h1; omega
   subst hxy
   rw [codeL, codeL, hl] at e
   rw [codeL_inj (fun z hz => ha z (List.mem_cons_of_mem _ hz)) (fun z hz => hb z (List.mem_cons_of_mem _ hz)) hl (by omega)]
/-- How good a choice of n numbers is: few different ones first, then the smaller ones. -/
def wt (n : Nat) (l : List Int) : Int := (diffI l).length * 16 ^ n + codeL l
theorem wt_lt {n : Nat} {a b : List Int} (ha : Dig a) (hb : Dig b) (hla : a.length = n) (hlb : b.length = n) : wt n a < wt n b ↔ (diffI a).length < (diffI b).length ∨ ((diffI a).length = (diffI b).length ∧ codeL a < codeL b) := by
 have b1 := codeL_bd ha
 have b2 := codeL_bd hb
 rw [hla] at b1
 rw [hlb] at b2
 have hp := pow16 n
 unfold wt
 constructor
 ·intro h
  rcases Nat.lt_trichotomy (diffI a).length (diffI b).length with h1 | h1 | h1
  ·exact .inl h1
  ·refine .inr ⟨h1, ?_⟩; rw [h1] at h; omega
  ·exfalso
   have h2 : (((diffI b).length : Int) + 1) * 16 ^ n ≤ ((diffI a).length : Int) * 16 ^ n := Int.mul_le_mul_of_nonneg_right (by omega) (Int.le_of_lt hp)
   rw [Int.add_mul] at h2
   omega
 ·rintro (h | ⟨h1, h2⟩)
  ·have h2 : (((diffI a).length : Int) + 1) * 16 ^ n ≤ ((diffI b).length : Int) * 16 ^ n := Int.mul_le_mul_of_nonneg_right (by omega) (Int.le_of_lt hp)
   rw [Int.add_mul] at h2
   omega
  ·rw [h1]; omega
theorem wt_inj {n : Nat} {a b : List Int} (ha : Dig a) (hb : Dig b) (hla : a.length = n) (hlb : b.length = n) (h : wt n a = wt n b) : a = b := by
 have h1 : ¬ ((diffI a).length < (diffI b).length ∨ ((diffI a).length = (diffI b).length ∧ codeL a < codeL b)) := fun hh => by have := (wt_lt ha hb hla hlb).2 hh; omega
 have h2 : ¬ ((diffI b).length < (diffI a).length ∨ ((diffI b).length = (diffI a).length ∧ codeL b < codeL a)) := fun hh => by have := (wt_lt hb ha hlb hla).2 hh; omega
 exact codeL_inj ha hb (by omega) (by omega)
/-- The best of some choices. -/
def better (n : Nat) (o : Option (List Int)) (l : List Int) : Option (List Int) := match o with
 | none => some l
 | some b => if wt n l < wt n b then some l else some b
def bestW (n : Nat) (L : List (List Int)) : Option (List Int) := L.foldl (better n) none
theorem foldl_best {n : Nat} : ∀ {L : List (List Int)} {o : Option (List Int)} {b : List Int}, L.foldl (better n) o = some b → (b ∈ L ∨ o = some b) ∧ (∀ l ∈ L, wt n b ≤ wt n l) ∧ ∀ a, o = some a → wt n b ≤ wt n a
 | [], o, b, h => by
   simp only [List.foldl_nil] at h
   exact ⟨.inr h, fun l hl => (by cases hl), fun a ha => by rw [h] at ha; cases ha; exact Int.le_refl _⟩
 | x :: L, o, b, h => by
   rw [List.foldl_cons] at h
   obtain ⟨h1, h2, h3⟩ := foldl_best h
   cases o with
   | none =>
     have hx := h3 x rfl
     refine ⟨.inl ?_, fun l hl => ?_, fun a ha => (by cases ha)⟩
     ·rcases h1 with h1 | h1
      ·exact List.mem_cons_of_mem _ h1
      ·cases h1; exact List.mem_cons_self ..
     ·rcases List.mem_cons.1 hl with e | hl
      ·rw [e]; exact hx
      ·exact h2 l hl
   | some a =>
     simp only [better] at h1 h3
     by_cases hlt : wt n x < wt n a
     ·rw [if_pos hlt] at h1 h3
      have hx := h3 x rfl
      refine ⟨.inl ?_, fun l hl => ?_, fun a' ha => (by cases ha; omega)⟩
      ·rcases h1 with h1 | h1
       ·exact List.mem_cons_of_mem _ h1
       ·cases h1; exact List.mem_cons_self ..
      ·rcases List.mem_cons.1 hl with e | hl
       ·rw [e]; exact hx
       ·exact h2 l hl
     ·rw [if_neg hlt] at h1 h3
      have ha := h3 a rfl
      refine ⟨?_, fun l hl => ?_, fun a' ha' => (by cases ha'; exact ha)⟩
      ·rcases h1 with h1 | h1
       ·exact .inl (List.mem_cons_of_mem _ h1)
       ·exact .inr h1
      ·rcases List.mem_cons.1 hl with e | hl
       ·rw [e]; omega
       ·exact h2 l hl
theorem foldl_some {n : Nat} : ∀ {L : List (List Int)} {a : List Int}, ∃ b, L.foldl (better n) (some a) = some b
 | [], a => ⟨a, rfl⟩
 | x :: L, a => by
   rw [List.foldl_cons]
   have : ∃ c, better n (some a) x = some c := by
    unfold better
    by_cases h : wt n x < wt n a
    ·exact ⟨x, by simp [h]⟩
    ·exact ⟨a, by simp [h]⟩
   obtain ⟨c, hc⟩ := this
   rw [hc]; exact foldl_some
theorem bestW_none {n : Nat} {L : List (List Int)} : bestW n L = none ↔ L = [] := by
 cases L with
 | nil => simp [bestW]
 | cons x L =>
   obtain ⟨b, hb⟩ := foldl_some (n := n) (L := L) (a := x)
   constructor
   ·intro h
    unfold bestW at h
    rw [List.foldl_cons] at h
    rw [show better n none x = some x from rfl, hb] at h
    cases h
   ·intro h; cases h
theorem bestW_some {n : Nat} {L : List (List Int)} {b : List Int} (h : bestW n L = some b) : b ∈ L ∧ ∀ l ∈ L, wt n b ≤ wt n l := by
 obtain ⟨h1, h2, _⟩ := foldl_best h
 rcases h1 with h1 | h1
 ·exact ⟨h1, h2⟩
 ·cases h1
/-- Two lists of choices have the same best one if each holds the other's. -/
theorem bestW_eq {n : Nat} {L L' : List (List Int)} (hd : ∀ l ∈ L', Dig l ∧ l.length = n) (hs : ∀ l ∈ L, l ∈ L') (hb : ∀ b ∈ L', ∃ l ∈ L, wt n l ≤ wt n b) : bestW n L = bestW n L' := by
 cases hL' : bestW n L' with
 | none =>
   have e := bestW_none.1 hL'
   subst e
   exact bestW_none.2 (List.eq_nil_iff_forall_not_mem.2 fun l hl => by cases hs l hl)
 | some b =>
   obtain ⟨h1, h2⟩ := bestW_some hL'
   cases hL : bestW n L with
   | none =>
     have e := bestW_none.1 hL
     subst e
     obtain ⟨l, hl, _⟩ := hb b h1
     cases hl
   | some a =>
     obtain ⟨g1, g2⟩ := bestW_some hL
     obtain ⟨l, hl, hw⟩ := hb b h1
     have w1 := g2 l hl
     have w2 := h2 a (hs a g1)
     rw [wt_inj (hd a (hs a g1)).1 (hd b h1).1 (hd a (hs a g1)).2 (hd b h1).2 (by omega)]
theorem idxR_char {g : Int → Bool} : ∀ {l : List Int} {k : Nat}, 0 ≤ idxR g l k → ∃ i : Nat, i < l.length ∧ idxR g l k = k + i ∧ g (geti l i) = true ∧ ∀ j, j < i → g (geti l j) = false
 | [], k, h => by simp [idxR] at h
 | x :: xs, k, h => by
   unfold idxR at h ⊢
   by_cases hx : g x = true
   ·rw [if_pos hx]
    exact ⟨0, by simp, by omega, hx, fun j hj => by omega⟩
   ·rw [if_neg hx] at h ⊢
    obtain ⟨i, h1, h2, h3, h4⟩ := idxR_char h
    refine ⟨i + 1, by simp; omega, by omega, h3, fun j hj => ?_⟩
    cases j with
    | zero => exact Bool.eq_false_iff.2 hx
    | succ j => exact h4 j (by omega)
theorem idxR_none {g : Int → Bool} : ∀ {l : List Int} {k : Nat}, idxR g l k < 0 → ∀ x ∈ l, g x = false
 | [], k, h, x, hx => by cases hx
 | y :: ys, k, h, x, hx => by
   unfold idxR at h
   by_cases hy : g y = true
   ·rw [if_pos hy] at h; omega
   ·rw [if_neg hy] at h
    rcases List.mem_cons.1 hx with e | hx
    ·rw [e]; exact Bool.eq_false_iff.2 hy
    ·exact idxR_none h x hx
theorem geti_lastI {l : List Int} {x : Int} {j : Nat} (h : l.length = j) : geti (l ++ [x]) j = x := by rw [← h]; exact geti_snoc
theorem firsts_spec {g : Int → Bool} {ls : List (List Int)} (hs : ∀ k, (getl ls k).Pairwise (· < ·)) : ∀ {k : Nat} {l : List Int}, firsts g ls k = some l → ∀ j, j < k → geti l j ∈ getl ls j ∧ g (geti l j) = true ∧ ∀ x ∈ getl ls j, g x = true → geti l j ≤ x
 | 0, l, h, j, hj => by omega
 | k + 1, l, h, j, hj => by
   unfold firsts at h
   split at h
   ·cases h
   ·rename_i l' hl'
    have hlen := firsts_len hl'
    split at h
    ·cases h
    ·rename_i hidx
     obtain ⟨i, h1, h2, h3, h4⟩ := idxR_char (show 0 ≤ idxR g (getl ls k) 0 by omega)
     injection h with h
     subst h
     rw [h2]
     rw [show (((0 : Nat) : Int) + (i : Int)).toNat = i from by omega]
     by_cases hjk : j = k
     ·subst hjk
      rw [geti_lastI hlen]
      refine ⟨geti_mem h1, h3, fun x hx hgx => ?_⟩
      obtain ⟨p, hp, rfl⟩ := List.getElem_of_mem hx
      rw [geti_eq h1]
      rcases Nat.lt_trichotomy p i with e | e | e
      ·have := h4 p e
       rw [geti_eq hp, hgx] at this; cases this
      ·subst e; exact Int.le_refl _
      ·exact Int.le_of_lt (List.pairwise_iff_getElem.1 (hs j) i p h1 hp e)
     ·rw [geti_append (by omega)]
      exact firsts_spec hs hl' j (by omega)
theorem firsts_ex {g : Int → Bool} {ls : List (List Int)} : ∀ {k : Nat}, (∀ j, j < k → ∃ x ∈ getl ls j, g x = true) → ∃ l, firsts g ls k = some l
 | 0, _ => ⟨[], rfl⟩
 | k + 1, h => by
   obtain ⟨l, hl⟩ := firsts_ex (k := k) fun j hj => h j (by omega)
   obtain ⟨x, hx, hg⟩ := h k (by omega)
   unfold firsts
   rw [hl]
   simp only
   rw [if_neg (fun hn => by have := idxR_none hn x hx; rw [hg] at this; cases this)]
   exact ⟨_, rfl⟩
theorem bits_ex (p : Nat → Bool) : ∀ n, ∃ s, s < 2 ^ n ∧ ∀ x, x < n → s.testBit x = p x
 | 0 => ⟨0, by simp, fun x hx => by omega⟩
 | n + 1 => by
   obtain ⟨s, h1, h2⟩ := bits_ex p n
   have hb : s.testBit n = false := Nat.testBit_lt_two_pow h1
   cases hp : p n
   ·refine ⟨s, by rw [Nat.pow_succ]; omega, fun x hx => ?_⟩
    by_cases e : x = n
    ·subst e; rw [hb, hp]
    ·exact h2 x (by omega)
   ·refine ⟨2 ^ n + s, by rw [Nat.pow_succ]; omega, fun x hx => ?_⟩
    by_cases e : x = n
    ·subst e; rw [Nat.testBit_two_pow_add_eq, hb, hp]; rfl
    ·rw [Nat.testBit_two_pow_add_gt (by omega)]; exact h2 x (by omega)
theorem sub_len {a b : List Int} (ha : a.Pairwise (· < ·)) (hb : b.Pairwise (· < ·)) (h : ∀ x ∈ a, x ∈ b) : a.length ≤ b.length := by
 have e : b.filter (hasI a) = a := by
  refine sorted_ext (hb.filter _) ha fun x => ?_
  rw [List.mem_filter, hasI_iff]
  exact ⟨fun h => h.2, fun hx => ⟨h x hx, hx⟩⟩
 rw [← e]; exact List.length_filter_le _ _
theorem codeL_mono : ∀ {a b : List Int}, Dig a → Dig b → a.length = b.length → (∀ k, k < a.length → geti a k ≤ geti b k) → codeL a ≤ codeL b
 | [], [], _, _, _, _ => Int.le_refl _
 | [], y :: b, _, _, h, _ => by simp at h
 | x :: a, [], _, _, h, _ => by simp at h
 | x :: a, y :: b, ha, hb, h, hk => by
   have hl : a.length = b.length := by simpa using h
   have h0 : x ≤ y := hk 0 (by simp)
   rcases Int.lt_or_eq_of_le h0 with e | e
   ·exact Int.le_of_lt (codeL_cons ha hb hl e)
   ·subst e
    rw [codeL, codeL, hl]
    have := codeL_mono (fun z hz => ha z (List.mem_cons_of_mem _ hz)) (fun z hz => hb z (List.mem_cons_of_mem _ hz)) hl (fun k hk' => hk (k + 1) (by simpa using hk'))
    omega
/-- A set of rows, as a number. -/
def bitP (s : Nat) (x : Int) : Bool := s.testBit x.toNat
/-- The first choices of the sets below m. -/
def firstsTo (rows : List (List Int)) (m : Nat) : List (List Int) := (List.range m).filterMap fun s => firsts (bitP s) rows rows.length
theorem firstsTo_succ (rows : List (List Int)) (m : Nat) : firstsTo rows (m + 1) = match firsts (bitP m) rows rows.length with
  | none => firstsTo rows m
  | some l => firstsTo rows m ++ [l] := by
 unfold firstsTo
 rw [List.range_succ, List.filterMap_append]
 cases h : firsts (bitP m) rows rows.length <;> simp [h]
theorem bestW_snoc (n : Nat) (L : List (List Int)) (l : List Int) : bestW n (L ++ [l]) = better n (bestW n L) l := by
 unfold bestW; rw [List.foldl_append]; rfl
structure RowsOk (n : Nat) (rows : List (List Int)) : Prop where
 up : ∀ k, (getl rows k).Pairwise (· < ·)
 low : ∀ k, ∀ x ∈ getl rows k, 0 ≤ x ∧ x < (n : Int)
 few : n ≤ 16
theorem allR_dig {n : Nat} {rows : List (List Int)} (h : RowsOk n rows) {l : List Int} (hl : l ∈ allR rows) : Dig l ∧ l.length = rows.length := by
 obtain ⟨h1, h2⟩ := mem_allR.1 hl
 refine ⟨fun x hx => ?_, h1⟩
 obtain ⟨k, hk, rfl⟩ := List.getElem_of_mem hx
 have := h.low k _ (h2 k (by omega))
 rw [geti_eq hk] at this
 have := h.few
 omega
theorem short_best {n : Nat} {rows : List (List Int)} (h : RowsOk n rows) : bestW rows.length (firstsTo rows (2 ^ n)) = bestW rows.length (allR rows) := by
 refine bestW_eq (fun l hl => allR_dig h hl) (fun l hl => ?_) (fun b hb => ?_)
 ·unfold firstsTo at hl
  rw [List.mem_filterMap] at hl
  obtain ⟨s, _, hs⟩ := hl
  exact mem_allR.2 ⟨firsts_len hs, fun k hk => (firsts_spec h.up hs k hk).1⟩
 ·obtain ⟨hbl, hbm⟩ := mem_allR.1 hb
  obtain ⟨s, hs1, hs2⟩ := bits_ex (fun x => decide ((x : Int) ∈ b)) n
  have hbit : ∀ x : Int, 0 ≤ x → x < n → (bitP s x = true ↔ x ∈ b) := fun x h1 h2 => by
   unfold bitP
   rw [hs2 x.toNat (by omega), decide_eq_true_eq, Int.toNat_of_nonneg h1]
  have hin : ∀ k, k < rows.length → geti b k ∈ b := fun k hk => geti_mem (by omega)
  obtain ⟨l, hl⟩ := firsts_ex (g := bitP s) (ls := rows) (k := rows.length) fun j hj => by
   have := h.low j _ (hbm j hj)
   exact ⟨geti b j, hbm j hj, (hbit _ this.1 this.2).2 (hin j hj)⟩
  have hsp := firsts_spec h.up hl
  have hll := firsts_len hl
  have hlm : l ∈ allR rows := mem_allR.2 ⟨hll, fun k hk => (hsp k hk).1⟩
  refine ⟨l, by unfold firstsTo; rw [List.mem_filterMap]; exact ⟨s, List.mem_range.2 hs1, hl⟩, ?_⟩
  have hsub : ∀ x ∈ l, x ∈ b := fun x hx => by
   obtain ⟨k, hk, rfl⟩ := List.getElem_of_mem hx
   have h1 := hsp k (by omega)
   rw [geti_eq hk] at h1
   have := h.low k _ h1.1
   exact (hbit _ this.1 this.2).1 h1.2.1
  have hlen := sub_len (diffI_sort l).1 (diffI_sort b).1 fun x hx => ((diffI_sort b).2 x).2 (hsub x (((diffI_sort l).2 x).1 hx))
  have hcode := codeL_mono (allR_dig h hlm).1 (allR_dig h hb).1 (by omega) (fun k hk => by
   have := h.low k _ (hbm k (by omega))
   exact (hsp k (by omega)).2.2 _ (hbm k (by omega)) ((hbit _ this.1 this.2).2 (hin k (by omega))))
  unfold wt
  have hm : ((diffI l).length : Int) * 16 ^ rows.length ≤ ((diffI b).length : Int) * 16 ^ rows.length := Int.mul_le_mul_of_nonneg_right (by omega) (Int.le_of_lt (pow16 _))
  omega
def numB (l : List Int) : Bool := decide (l.length ≤ 100) && l.all fun x => inB x 0 1000000000000
theorem numB_iff {l : List Int} : numB l = true ↔ l.length ≤ 100 ∧ ∀ x ∈ l, 0 ≤ x ∧ x ≤ 1000000000000 := by
 simp [numB, inB]
theorem numWithin_any {S : Nat → Prop} (v : Value) (l : List Int) (lo hi : Int) (W : World) (h : V1 S W v l) :
  Calls Tryz.prog 144 #[v, .int .i64 lo, .int .i64 hi] W fun e' w' => e' = .returned (.bool (l.all fun x => inB x lo hi)) ∧ W = w' := by
 have hV := h
 obtain ⟨a, c, rfl, hm⟩ := h.form
 go_enter Tryz.func144, Tryz.ntmps144
 go_wp2_with fail
 go_loop [8, 11] (fun _ i => ∃ k : Nat, k ≤ l.length ∧ i = .int .i64 k ∧ (l.all fun x => inB x lo hi) = ((l.drop k).all fun x => inB x lo hi)) (fun _ i => l.length - (intOf i).toNat)
 case atStart => exact ⟨0, Nat.zero_le _, rfl, rfl⟩
 case round =>
  obtain ⟨k, hk, rfl, hrem⟩ := hrel
  have Hr := Lib.hid hrem; clear hrem
  by_cases hkk : k < l.length
  ·obtain ⟨b1, off1, rfl, _, hc1⟩ := hV.cell hkk
   cases hg : inB (geti l k) lo hi
   ·have HG := Lib.hid hg; clear hg
    go_wp2_with (go_at_call 59; refine (within_b _ _ _ _ _ HG.out).mono ?_; rintro e' w' ⟨rfl, rfl⟩)
    go_ret
    exact ⟨ret_bool (by rw [Hr.out, all_stepi _ hkk, HG.out]; rfl), rfl⟩
   ·have HG := Lib.hid hg; clear hg
    go_wp2_with (go_at_call 59; refine (within_b _ _ _ _ _ HG.out).mono ?_; rintro e' w' ⟨rfl, rfl⟩)
    go_round
    case rel => exact ⟨k + 1, by omega, by go_num, by rw [Hr.out, all_stepi _ hkk, HG.out]; rfl⟩
    case measure => simp [intOf]; omega
  ·have hd : l.drop k = [] := List.drop_of_length_le (by omega)
   have Hd := Lib.hid hd; clear hd
   go_wp2_with fail
   go_ret
   exact ⟨ret_bool (by rw [Hr.out, Hd.out]; rfl), rfl⟩
theorem numWithin_b {S : Nat → Prop} (v : Value) (l : List Int) (lo hi : Int) (W : World) (r : Bool) (hr : (l.all fun x => inB x lo hi) = r) (h : V1 S W v l) :
  Calls Tryz.prog 144 #[v, .int .i64 lo, .int .i64 hi] W fun e' w' => e' = .returned (.bool r) ∧ W = w' := by subst hr; exact numWithin_any v l lo hi W h
theorem areNumbers_any {S : Nat → Prop} (v : Value) (l : List Int) (W : World) (h : V1 S W v l) :
  Calls Tryz.prog 86 #[v] W fun e' w' => e' = .returned (.bool (numB l)) ∧ W = w' := by
 have hV := h
 obtain ⟨a, c, rfl, hm⟩ := h.form
 by_cases hl : l.length ≤ 100
 ·obtain ⟨r, hr⟩ : ∃ r, (l.all fun x => inB x 0 1000000000000) = r := ⟨_, rfl⟩
  have hfin : numB l = r := by unfold numB; rw [decide_eq_true hl, hr, Bool.true_and]
  rw [hfin]
  have Hr := Lib.hid hr; clear hr hfin
  go_enter Tryz.func86, Tryz.ntmps86
  go_wp2_with (go_at_call 144; refine (numWithin_b _ _ _ _ _ _ Hr.out hV).mono ?_; rintro e' w' ⟨rfl, rfl⟩)
  go_ret
  exact ⟨rfl, rfl⟩
 ·have hfin : numB l = false := by unfold numB; rw [decide_eq_false hl, Bool.false_and]
  rw [hfin]
  have Hf := Lib.hid hfin; clear hfin
  go_enter Tryz.func86, Tryz.ntmps86
  go_wp2_with fail
  go_ret
  exact ⟨rfl, rfl⟩
theorem l01Is_b (n : Int) (w : World) (r : Bool) (hr : inB n 0 1000000000000 = r) :
  Calls Tryz.prog 145 #[.int .i64 n] w fun e w' => e = .returned (.bool r) ∧ w = w' := by
 have Hr := Lib.hid hr; clear hr
 go_enter Tryz.func145, Tryz.ntmps145
 go_wp2_with (go_at_call 53; refine (l01In_b _ _ _ _ _ Hr.out).mono ?_; rintro e' w' ⟨rfl, rfl⟩)
 go_ret
 exact ⟨rfl, rfl⟩
theorem l01Numbers_any {S : Nat → Prop} (v : Value) (l : List Int) (W : World) (h : V1 S W v l) :
  Calls Tryz.prog 87 #[v] W fun e' w' => e' = .returned (.bool (numB l)) ∧ W = w' := by
 have hV := h
 obtain ⟨a, c, rfl, hm⟩ := h.form
 obtain ⟨r, hr⟩ : ∃ r, numB l = r := ⟨_, rfl⟩
 rw [hr]
 have Hr := Lib.hid hr; clear hr
 go_enter Tryz.func87, Tryz.ntmps87
 go_wp2_with fail
 go_loop [3] (fun i => ∃ k : Nat, k ≤ l.length ∧ i = .int .i64 k ∧ (l.all fun x => inB x 0 1000000000000) = ((l.drop k).all fun x => inB x 0 1000000000000)) (fun i => l.length - (intOf i).toNat)
 case atStart => exact ⟨0, Nat.zero_le _, rfl, rfl⟩
 case round =>
  obtain ⟨k, hk, rfl, hrem⟩ := hrel
  have Hm := Lib.hid hrem; clear hrem
  by_cases hkk : k < l.length
  ·obtain ⟨b1, off1, rfl, _, hc1⟩ := hV.cell hkk
   cases hg : inB (geti l k) 0 1000000000000
   ·have hfin : r = false := by rw [← Hr.out]; unfold numB; rw [Hm.out, all_stepi _ hkk, hg]; simp
    subst hfin
    have HG := Lib.hid hg; clear hg
    go_wp2_with (go_at_call 145; refine (l01Is_b _ _ _ HG.out).mono ?_; rintro e' w' ⟨rfl, rfl⟩)
    go_ret
    exact ⟨rfl, rfl⟩
   ·have HG := Lib.hid hg; clear hg
    go_wp2_with (go_at_call 145; refine (l01Is_b _ _ _ HG.out).mono ?_; rintro e' w' ⟨rfl, rfl⟩)
    go_round
    case rel => exact ⟨k + 1, by omega, by go_num, by rw [Hm.out, all_stepi _ hkk, HG.out]; rfl⟩
    case measure => simp [intOf]; omega
  ·have hd : l.drop k = [] := List.drop_of_length_le (by omega)
   have hfin : r = decide (l.length ≤ 100) := by rw [← Hr.out]; unfold numB; rw [Hm.out, hd]; simp
   have Hd := Lib.hid hd; clear hd
   have Hfin := Lib.hid hfin; clear hfin
   go_wp2_with fail
   go_ret
   exact ⟨ret_bool (by rw [Hfin.out]; exact decide_eq_decide.2 (by omega)), rfl⟩
theorem rowsOf_any {S : Nat → Prop} (v : Value) (l : List Int) (W : World) (h : V1 S W v l) (hl : l.length ≤ 1048576) :
  Calls Tryz.prog 71 #[v] W fun e' w' => ∃ v', e' = .returned v' ∧ F1 W.heap.size w' v' (diffI l) ∧ Below W.heap.size W w' := by
 have hV := h
 obtain ⟨a, c, rfl, hm⟩ := h.form
 go_enter Tryz.func71, Tryz.ntmps71
 go_wp2_with fail
 refine (slClone_any _ l _ hV hl).mono ?_
 rintro e' w1 ⟨v1, rfl, ⟨b, hx1, hb1⟩, hB1⟩
 obtain ⟨a1, c1, rfl, _⟩ := id hx1
 go_wp2_with fail
 refine (slSort_any _ l b _ hx1 hl).mono ?_
 rintro e' w2 ⟨rfl, hx2, hc2⟩
 have hlz : (l.mergeSort fun x y => decide (x ≤ y)).length = l.length := List.length_mergeSort l
 have hnz : (l.mergeSort fun x y => decide (x ≤ y)) ≠ [] ↔ l ≠ [] := by rw [Ne, ← List.length_eq_zero_iff, hlz, List.length_eq_zero_iff]
 have hB2 := hB1.trans (hc2.to_below (fun i hi => by have := hb1 hi.1; omega) hB1.size)
 have Hx2 := Lib.hid hx2; clear hx2
 have Hlz := Lib.hid (And.intro hlz hnz); clear hlz hnz
 go_wp2_with fail
 have hx2 := Hx2.out
 obtain ⟨a2, c2, e2, _⟩ := id hx2
 refine (slCompact_any _ _ b _ hx2 (by rw [Hlz.out.1]; exact hl)).mono ?_
 rintro e' w3 ⟨v3, rfl, hx3, hc3⟩
 have Hx3 := Lib.hid hx3; clear hx3
 have hB3 := hB2.trans (hc3.to_below (fun i hi => by have := hb1 (Hlz.out.2.1 hi.1); omega) hB2.size)
 have hdn : diffI l ≠ [] → l ≠ [] := fun hn e => hn (by subst e; simp [diffI, Go.Lib.compact, Go.Lib.compactUpTo])
 have Hdn := Lib.hid hdn; clear hdn
 clear e2
 go_wp2_with fail
 go_ret
 exact ⟨_, rfl, ⟨b, Hx3.out, fun hn => hb1 (Hdn.out hn)⟩, hB3⟩
def rowsAns (l : List Int) : List Int × Int := if numB l = true then (diffI l, 0) else ([], 2)
theorem F1.nil {B : Nat} {w : World} : F1 B w (.slice none 0 0) [] := ⟨0, ⟨none, 0, rfl, Nat.le_refl _, Nat.zero_le _, fun hn => absurd rfl hn⟩, fun hn => absurd rfl hn⟩
theorem RowsOf_any {S : Nat → Prop} (v : Value) (l : List Int) (W : World) (h : V1 S W v l) :
  Calls Tryz.prog 26 #[v] W fun e' w' => ∃ v', e' = .returned (.tuple #[v', .int .i64 (rowsAns l).2]) ∧ F1 W.heap.size w' v' (rowsAns l).1 ∧ Below W.heap.size W w' := by
 have hV := h
 obtain ⟨a, c, rfl, hm⟩ := h.form
 have hnum := areNumbers_any _ l W hV
 by_cases hn : numB l = true
 ·have ha : rowsAns l = (diffI l, 0) := by unfold rowsAns; rw [if_pos hn]
  rw [ha]
  have hl := (numB_iff.1 hn).1
  rw [hn] at hnum
  clear hn ha
  go_enter Tryz.func26, Tryz.ntmps26
  go_wp2_with fail
  refine hnum.mono ?_
  rintro e' w1 ⟨rfl, rfl⟩
  go_wp2_with fail
  refine (rowsOf_any _ l _ hV (by omega)).mono ?_
  rintro e' w2 ⟨v2, rfl, hF, hB⟩
  have HF := Lib.hid hF; clear hF
  go_wp2_with fail
  go_ret2
  exact ⟨_, rfl, HF.out, hB⟩
 ·have ha : rowsAns l = ([], 2) := by unfold rowsAns; rw [if_neg hn]
  rw [ha]
  rw [show numB l = false by simpa using hn] at hnum
  clear hn ha
  go_enter Tryz.func26, Tryz.ntmps26
  go_wp2_with fail
  refine hnum.mono ?_
  rintro e' w1 ⟨rfl, rfl⟩
  go_wp2_with fail
  go_ret2
  exact ⟨_, rfl, F1.nil, Below.refl _ _⟩
def cmpI (x y : Int) : Int := if x < y then -1 else if y < x then 1 else 0
def lexC : List Int → List Int → Int
 | x :: xs, y :: ys => if cmpI x y = 0 then lexC xs ys else cmpI x y
 | _, _ => 0
theorem lexC_step {a b : List Int} {k : Nat} (h1 : k < a.length) (h2 : k < b.length) : lexC (a.drop k) (b.drop k) = if cmpI (geti a k) (geti b k) = 0 then lexC (a.drop (k + 1)) (b.drop (k + 1)) else cmpI (geti a k) (geti b k) := by
 rw [List.drop_eq_getElem_cons h1, List.drop_eq_getElem_cons h2, lexC, geti_eq h1, geti_eq h2]
theorem geti_put {l : List Int} {p j : Nat} {x : Int} (hp : p < l.length) : geti (l.set p x) j = if p = j then x else geti l j := by
 unfold geti
 rw [List.getD_eq_getElem?_getD, List.getD_eq_getElem?_getD, List.getElem?_set]
 by_cases e : p = j
 ·simp [e, e ▸ hp]
 ·simp [e]
theorem X1.put {w : World} {b off n c k : Nat} {l : List Int} (h : X1 w (.slice (some ⟨b, off, none⟩) n c) l b) (hk : k < l.length) (x : Int) : X1 (w.setCell ⟨b, off + k, none⟩ (.int .i64 x)) (.slice (some ⟨b, off, none⟩) n c) (l.set k x) b := by
 obtain ⟨a', c', e, h1, h2, h3⟩ := h
 simp only [Value.slice.injEq] at e
 obtain ⟨rfl, rfl, rfl⟩ := e
 obtain ⟨off', cs, T, e, h4, h5⟩ := h3 (by intro e; subst e; simp at hk)
 cases e
 refine ⟨_, c, by rw [List.length_set], by rw [List.length_set]; exact h1, h2, fun _ => ⟨off, _, T, rfl, heap_setCell_self h4 _, fun j hj => ?_⟩⟩
 rw [List.length_set] at hj
 rw [Array.getElem?_setIfInBounds]
 have hlt : off + k < cs.size := (Array.getElem?_eq_some_iff.1 (h5 k hk)).1
 by_cases e : k = j
 ·subst e; rw [if_pos rfl, if_pos hlt, geti_put hk, if_pos rfl]
 ·rw [if_neg (by omega), h5 j hj, geti_put hk, if_neg e]
theorem isNaN_any (x : Int) (W : World) : Calls Tryz.prog 214 #[.int .i64 x] W fun e w' => e = .returned (.bool false) ∧ W = w' := by
 go_enter Tryz.func214, Tryz.ntmps214
 go_wp2_with fail
 go_ret
 exact ⟨rfl, rfl⟩
theorem cmpCompare_any (x y : Int) (W : World) : Calls Tryz.prog 184 #[.int .i64 x, .int .i64 y] W fun e w' => e = .returned (.int .i64 (cmpI x y)) ∧ W = w' := by
 obtain ⟨r, hr⟩ : ∃ r, cmpI x y = r := ⟨_, rfl⟩
 rw [hr]
 unfold cmpI at hr
 by_cases h1 : x < y
 ·rw [if_pos h1] at hr
  subst hr
  go_enter Tryz.func184, Tryz.ntmps184
  go_wp2_with (go_at_call 214; refine (isNaN_any _ _).mono ?_; rintro e' w' ⟨rfl, rfl⟩)
  go_ret
  exact ⟨rfl, rfl⟩
 ·rw [if_neg h1] at hr
  by_cases h2 : y < x
  ·rw [if_pos h2] at hr
   subst hr
   go_enter Tryz.func184, Tryz.ntmps184
   go_wp2_with (go_at_call 214; refine (isNaN_any _ _).mono ?_; rintro e' w' ⟨rfl, rfl⟩)
   go_ret
   exact ⟨rfl, rfl⟩
  ·rw [if_neg h2] at hr
   subst hr
   go_enter Tryz.func184, Tryz.ntmps184
   go_wp2_with (go_at_call 214; refine (isNaN_any _ _).mono ?_; rintro e' w' ⟨rfl, rfl⟩)
   go_ret
   exact ⟨rfl, rfl⟩
theorem slCompare_any {S S' : Nat → Prop} (u v : Value) (a b : List Int) (W : World) (h1 : V1 S W u a) (h2 : V1 S' W v b) (hl : a.length = b.length) :
  Calls Tryz.prog 137 #[u, v] W fun e w' => e = .returned (.int .i64 (lexC a b)) ∧ W = w' := by
 have hA := h1
 have hB := h2
 obtain ⟨ua, uc, rfl, hu⟩ := h1.form
 obtain ⟨va, vc, rfl, hv⟩ := h2.form
 obtain ⟨r, hr⟩ : ∃ r, lexC a b = r := ⟨_, rfl⟩
 rw [hr]
 have Hr := Lib.hid (show lexC (a.drop 0) (b.drop 0) = r from hr); clear hr
 rw [← hl]
 have Hl := Lib.hid hl; clear hl
 go_enter Tryz.func137, Tryz.ntmps137
 go_wp2_with fail
 go_loop [5, 6, 7, 8, 11] (fun _ _ _ _ i => ∃ k : Nat, k ≤ a.length ∧ i = .int .i64 (k : Int) ∧ lexC (a.drop k) (b.drop k) = r) (fun _ _ _ _ i => a.length - (intOf i).toNat)
 case atStart => exact ⟨0, Nat.zero_le _, rfl, Hr.out⟩
 case round =>
  obtain ⟨k, hk, rfl, hrem⟩ := hrel
  have Hrem := Lib.hid hrem; clear hrem
  by_cases hkk : k < a.length
  ·have hkb : k < b.length := by rw [← Hl.out]; exact hkk
   obtain ⟨b1, off1, rfl, _, hc1⟩ := hA.cell hkk
   obtain ⟨b2, off2, rfl, _, hc2⟩ := hB.cell hkb
   have hst := lexC_step hkk hkb
   rw [Hrem.out] at hst
   obtain ⟨x, hx⟩ : ∃ x, geti a k = x := ⟨_, rfl⟩
   obtain ⟨y, hy⟩ : ∃ y, geti b k = y := ⟨_, rfl⟩
   rw [hx] at hc1 hst
   rw [hy] at hc2 hst
   obtain ⟨q, hq⟩ : ∃ q, cmpI x y = q := ⟨_, rfl⟩
   rw [hq] at hst
   have hk0 : (0 : Int) ≤ (k : Int) := by omega
   have hkl : (k : Int) < (a.length : Int) := by omega
   by_cases hq0 : q = 0
   ·subst hq0
    rw [if_pos rfl] at hst
    have Hst := Lib.hid (And.intro hst hq); clear hst hq hx hy
    go_wp2_with (go_at_call 184; refine (cmpCompare_any _ _ _).mono ?_; rintro e' w' ⟨rfl, rfl⟩; rw [Hst.out.2])
    go_round
    case rel => exact ⟨k + 1, by omega, by go_num, Hst.out.1.symm⟩
    case measure => simp [intOf]; omega
   ·rw [if_neg hq0] at hst
    have hne : (q != 0) = true := by simp [hq0]
    have Hst := Lib.hid (And.intro hst hq); clear hst hq hx hy
    go_wp2_with (go_at_call 184; refine (cmpCompare_any _ _ _).mono ?_; rintro e' w' ⟨rfl, rfl⟩; rw [Hst.out.2])
    go_ret
    exact ⟨ret_int (by rw [Hst.out.1]), rfl⟩
  ·obtain rfl : k = a.length := by omega
   have hfin : (0 : Int) = r := by
    rw [← Hrem.out, List.drop_length, Hl.out, List.drop_length]; rfl
   subst hfin
   go_wp2_with fail
   go_ret
   exact ⟨rfl, rfl⟩
theorem enters_short : Enters 136 := fun args w => by kernel_rfl
theorem short1_any (x : Int) (s SB : Nat) (w : World) (hx : 0 ≤ x ∧ x < 16) (hs : s < 65536) (h : w.cell? ⟨SB, 0, none⟩ = some (.int .i64 (s : Int))) :
  Calls Tryz.prog 136 #[.int .i64 x, .pointer (some ⟨SB, 0, none⟩)] w fun e w' => e = .returned (.bool (bitP s x)) ∧ w = w' := by
 obtain ⟨k, rfl⟩ : ∃ k : Nat, x = (k : Int) := ⟨x.toNat, by omega⟩
 have hb : (bits BinOp.and IntKind.i64 ((s : Int) / 2 ^ k) 1 == 1) = bitP s (k : Int) := by
  have hle : s / 2 ^ k ≤ s := Nat.div_le_self _ _
  rw [show ((s : Int) / 2 ^ k) = ((s / 2 ^ k : Nat) : Int) from by push_cast; rfl, and_one _ (by omega)]
  unfold bitP
  rw [Int.toNat_natCast, Nat.testBit_eq_decide_div_mod_eq, Bool.eq_iff_iff, beq_iff_eq, decide_eq_true_eq]
  omega
 go_enter Tryz.func136, Tryz.ntmps136
 go_wp2_with fail
 go_ret
 exact ⟨ret_bool rfl, rfl⟩
theorem lex_code : ∀ {a b : List Int}, Dig a → Dig b → a.length = b.length → lexC a b = cmpI (codeL a) (codeL b)
 | [], [], _, _, _ => by simp [lexC, codeL, cmpI]
 | [], y :: b, _, _, h => by simp at h
 | x :: a, [], _, _, h => by simp at h
 | x :: a, y :: b, ha, hb, h => by
   have hl : a.length = b.length := by simpa using h
   rw [lexC]
   rcases Int.lt_trichotomy x y with e | e | e
   ·have := codeL_cons ha hb hl e
    have h1 : cmpI x y = -1 := by unfold cmpI; rw [if_pos e]
    have h2 : cmpI (codeL (x :: a)) (codeL (y :: b)) = -1 := by unfold cmpI; rw [if_pos this]
    rw [h1, h2, if_neg (by decide)]
   ·subst e
    rw [show cmpI x x = 0 from by unfold cmpI; simp, if_pos rfl]
    rw [lex_code (fun z hz => ha z (List.mem_cons_of_mem _ hz)) (fun z hz => hb z (List.mem_cons_of_mem _ hz)) hl]
    unfold cmpI
    rw [codeL, codeL, hl]
    simp only [Int.add_lt_add_iff_left]
   ·have := codeL_cons hb ha hl.symm e
    have h1 : cmpI x y = 1 := by unfold cmpI; rw [if_neg (by omega), if_pos e]
    have h2 : cmpI (codeL (x :: a)) (codeL (y :: b)) = 1 := by unfold cmpI; rw [if_neg (by omega), if_pos this]
    rw [h1, h2, if_neg (by decide)]
def bestTo (rows : List (List Int)) (k : Nat) : Option (List Int) := bestW rows.length (firstsTo rows k)
theorem bestTo_none {rows : List (List Int)} {k : Nat} (h : firsts (bitP k) rows rows.length = none) : bestTo rows (k + 1) = bestTo rows k := by
 unfold bestTo; rw [firstsTo_succ, h]
theorem bestTo_some {rows : List (List Int)} {k : Nat} {l : List Int} (h : firsts (bitP k) rows rows.length = some l) : bestTo rows (k + 1) = better rows.length (bestTo rows k) l := by
 unfold bestTo; rw [firstsTo_succ, h, bestW_snoc]
theorem firsts_dig {n : Nat} {rows : List (List Int)} (h : RowsOk n rows) {g : Int → Bool} {l : List Int} (hl : firsts g rows rows.length = some l) : Dig l ∧ l.length = rows.length :=
 allR_dig h (mem_allR.2 ⟨firsts_len hl, fun k hk => (firsts_spec h.up hl k hk).1⟩)
theorem bestTo_dig {n : Nat} {rows : List (List Int)} (h : RowsOk n rows) {k : Nat} {b : List Int} (hb : bestTo rows k = some b) : Dig b ∧ b.length = rows.length := by
 have := (bestW_some hb).1
 unfold firstsTo at this
 rw [List.mem_filterMap] at this
 obtain ⟨s, _, hs⟩ := this
 exact firsts_dig h hs
/-- What the program keeps of the best choice so far. -/
def BestV (B : Nat) (w : World) (bv lv : Value) : Option (List Int) → Prop
 | none => bv = .slice none 0 0 ∧ ∃ n : Nat, lv = .int .i64 (n : Int) ∧ n ≤ 100
 | some b => FO B w bv b ∧ lv = .int .i64 ((diffI b).length : Int)
theorem BestV.below {B : Nat} {w w' : World} {bv lv : Value} {o : Option (List Int)} (h : BestV B w bv lv o) (hb : Below w.heap.size w w') : BestV B w' bv lv o := by
 cases o with
 | none => exact h
 | some b => exact ⟨h.1.below hb, h.2⟩
theorem BestV.mono {B B' : Nat} {w : World} {bv lv : Value} {o : Option (List Int)} (h : BestV B w bv lv o) (hb : B' ≤ B) : BestV B' w bv lv o := by
 cases o with
 | none => exact h
 | some b => exact ⟨h.1.mono hb, h.2⟩
theorem better_lt {n : Nat} {b l : List Int} (h : wt n l < wt n b) : better n (some b) l = some l := by simp [better, h]
theorem better_ge {n : Nat} {b l : List Int} (h : ¬ wt n l < wt n b) : better n (some b) l = some b := by simp [better, h]
theorem eqlNilS (w : World) : Sem.run Tryz.prog (binOp .eql 44 (.slice none 0 0) (.slice none 0 0)) w = .ok (.bool true) w := by kernel_rfl
theorem eqlSomeS (w : World) (ad : Addr) (n c : Nat) : Sem.run Tryz.prog (binOp .eql 44 (.slice (some ad) n c) (.slice none 0 0)) w = .ok (.bool false) w := by kernel_rfl
set_option maxRecDepth 100000 in
set_option maxHeartbeats 2000000 in
theorem shortReason_any {S S' : Nat → Prop} (m : Mk) (u v : Value) (t cuts : List (List Int)) (key door n : Nat) (W : World) (hf : Fits m t cuts) (hk : key < cuts.length) (hd : door < (getl t 0).length) (hn : (n : Int) = m.c) (hR : RowsOk cuts.length (reasRows t cuts key door n)) (h : V2 S W u t) (hc : V2 S' W v cuts) :
  Calls Tryz.prog 72 #[.agg #[.int .i64 m.c, .int .i64 m.d, .int .i64 m.s, .int .i64 m.e, .int .i64 m.l, u], v, .int .i64 key, .int .i64 door] W fun e' w' => ∃ v' lv, e' = .returned v' ∧ BestV W.heap.size w' v' lv (bestW (reasRows t cuts key door n).length (allR (reasRows t cuts key door n))) ∧ Below W.heap.size W w' := by
 obtain ⟨a, c, rfl, hmx⟩ := h.form
 obtain ⟨a', c', rfl, hmx'⟩ := hc.form
 obtain ⟨W1, hW1, hB01, hz01, HZ01, hc01, hh01⟩ := box_facts W #[.int .i64 m.c, .int .i64 m.d, .int .i64 m.s, .int .i64 m.e, .int .i64 m.l, .slice a t.length c] 33
 have hrr := reasonRows_any m _ _ t cuts key door n W1 hf hk hd hn (h.below hB01) (hc.below hB01)
 have hmk := Mk.ok_iff.1 hf.ok
 have hcl := hf.few
 have hrw := hf.rows
 have hrl := reasRows_len t cuts key door n
 obtain ⟨rows, hrows⟩ : ∃ r, reasRows t cuts key door n = r := ⟨_, rfl⟩
 rw [hrows] at hrr hR hrl ⊢
 rw [← short_best hR]
 have hN10 : cuts.length ≤ 10 := by omega
 obtain ⟨M, hM⟩ : ∃ M, 2 ^ cuts.length = M := ⟨_, rfl⟩
 have hp2 : M ≤ 1024 := by rw [← hM]; exact Nat.le_trans (Nat.pow_le_pow_right (by decide) hN10) (by decide)
 have hp : (2 : Int) ^ cuts.length = (M : Int) := by rw [← hM]; push_cast; rfl
 have hw : IntKind.i64.wrap (M : Int) = (M : Int) := IntWalk.i64_in _ (by omega)
 have hl6 : rows.length ≤ 6 ∧ 2 ≤ rows.length := by omega
 rw [hM]
 have H := Lib.hid (And.intro hrr (And.intro hR (And.intro hM hrows))); clear hrr hR hM hrows hf hk hd hn h hc hmk hrl hcl hrw
 go_enter Tryz.func72, Tryz.ntmps72
 go_wp2_with fail
 rw [← hW1]
 refine H.out.1.mono ?_
 rintro e' w2 ⟨rv, rfl, hF2, hb2⟩
 have hRV := hF2.v2.old
 obtain ⟨ra, rc, rfl, hrm⟩ := hRV.form
 have hz2 := hb2.size
 clear hc01 hh01
 have hE1 := eqlNilS
 have hE2 := eqlSomeS
 go_wp2_with fail
 go_loopw [9, 11, 12, 13, 14, 15, 24] (fun bv lv _ _ _ _ i wr => ∃ k : Nat, k ≤ M ∧ i = .int .i64 (k : Int) ∧ BestV w2.heap.size wr bv lv (bestTo rows k) ∧ Below w2.heap.size w2 wr) (fun _ _ _ _ _ _ i _ => M - (intOf i).toNat)
 case atStart => exact ⟨0, Nat.zero_le _, rfl, ⟨rfl, 0, rfl, by omega⟩, Below.refl _ _⟩
 case round =>
  obtain ⟨k, hk, rfl, hbv, hB⟩ := hrel
  have hzr := hB.size
  by_cases hkk : k < M
  ·have hRr := (hRV.below hB).any
   obtain ⟨wA, hwA, hbA, hzA, HZA, hcA, _⟩ := box_facts wr #[.int .i64 (k : Int)] 3
   have hcA0 : wA.cell? ⟨wr.heap.size, 0, none⟩ = some (.int .i64 (k : Int)) := by rw [hcA]; rfl
   have hff := firstFrom_own _ rows 136 #[.pointer (some ⟨wr.heap.size, 0, none⟩)] (bitP k) wA (hRr.below hbA) (by omega) enters_short (fun j hj w x hb hx => (short1_any x k _ w (by have := H.out.2.1.low j x hx; have := H.out.2.1.few; omega) (by omega) (cell_keep hcA0 (hb.block _ (lt_of_cell hcA0)))).mono fun _ _ ⟨e1, e2⟩ => ⟨e1, by rw [e2]; exact Below.refl _ _⟩)
   cases hfr : firsts (bitP k) rows rows.length with
   | none =>
     have hfa : firstsAns (bitP k) rows = ([], false) := by unfold firstsAns; rw [hfr]
     rw [hfa] at hff
     have Hff := Lib.hid (And.intro hff (And.intro (bestTo_none hfr) hbv)); clear hff hfa hfr hbv hcA hcA0
     go_wp2_with fail
     rw [← hwA]
     refine Hff.out.1.mono ?_
     rintro e' w5 ⟨fv, rfl, hF, hb5⟩
     obtain ⟨fa, fc, rfl, _⟩ := hF.1.v1.form
     have hb05 := hbA.trans (hb5.mono (by omega))
     clear hF
     go_wp2_with fail
     go_roundw
     case rel => exact ⟨k + 1, by omega, by go_num, by rw [Hff.out.2.1]; exact Hff.out.2.2.below hb05, hB.trans (hb05.mono hzr)⟩
     case measure => simp [intOf]; omega
   | some l =>
     have hfa : firstsAns (bitP k) rows = (l, true) := by unfold firstsAns; rw [hfr]
     rw [hfa] at hff
     have hld := firsts_dig H.out.2.1 hfr
     have hlne : l ≠ [] := by intro e; rw [e] at hld; simp at hld; omega
     have hbs := bestTo_some hfr
     have Hff := Lib.hid (And.intro hff (And.intro hbs (And.intro hld hfr))); clear hff hfa hfr hcA hcA0 hbs hld
     cases hbo : bestTo rows k with
     | none =>
       rw [hbo] at hbv
       obtain ⟨rfl, ln, rfl, hln⟩ := hbv
       have hnew : bestTo rows (k + 1) = some l := by rw [Hff.out.2.1, hbo]; rfl
       have Hbo := Lib.hid (And.intro hbo hnew); clear hbo hnew
       go_wp2_with fail
       rw [← hwA]
       refine Hff.out.1.mono ?_
       rintro e' w5 ⟨fv, rfl, hF, hb5⟩
       obtain ⟨fb, hfX, hfb⟩ := id hF.1
       obtain ⟨fa, fc, rfl, hfc, hfm, hfx⟩ := id hfX
       obtain ⟨foff, fcs, fT, rfl, _, _⟩ := hfx hlne
       have hb05 := hbA.trans (hb5.mono (by omega))
       have hz5 := hb05.size
       have HF5 := Lib.hid (hF.mono (B' := w2.heap.size) (by omega)); clear hF hfX hfx
       go_wp2_with fail
       refine (rowsOf_any _ l w5 HF5.out.1.v1 (by have := Hff.out.2.2.1.2; omega)).mono ?_
       rintro e' w6 ⟨gv, rfl, hG, hb6⟩
       obtain ⟨ga, gc, rfl, _⟩ := hG.v1.form
       have hb06 := hb05.trans (hb6.mono hz5)
       clear hG
       go_wp2_with fail
       go_roundw
       case rel => exact ⟨k + 1, by omega, by go_num, by rw [Hbo.out.2]; exact ⟨HF5.out.below hb6, rfl⟩, hB.trans (hb06.mono hzr)⟩
       case measure => simp [intOf]; omega
     | some b =>
       rw [hbo] at hbv
       obtain ⟨hFb, rfl⟩ := hbv
       have hbd := bestTo_dig H.out.2.1 hbo
       have hbne : b ≠ [] := by intro e; rw [e] at hbd; simp at hbd; omega
       obtain ⟨bb, hX1, hbb⟩ := id hFb.1
       obtain ⟨ba, bc, rfl, hbc, hbm, hbx⟩ := id hX1
       obtain ⟨boff, bcs, bT, rfl, _, _⟩ := hbx hbne
       have hbs := Hff.out.2.1
       rw [hbo] at hbs
       have Hlb := Lib.hid hbd.2.symm
       have hwl := wt_lt Hff.out.2.2.1.1 hbd.1 Hff.out.2.2.1.2 hbd.2
       obtain ⟨x, hx⟩ : ∃ x, (diffI l).length = x := ⟨_, rfl⟩
       obtain ⟨y, hy⟩ : ∃ y, (diffI b).length = y := ⟨_, rfl⟩
       rw [hx, hy] at hwl
       rw [hy]
       by_cases h1 : x < y
       ·have hnew : bestTo rows (k + 1) = some l := by rw [hbs]; exact better_lt (hwl.2 (.inl h1))
        have h1i : ((diffI l).length : Int) < (y : Int) := by omega
        have Hbo := Lib.hid (And.intro hx hnew); clear hbo hnew hbs hwl hx hy hX1 hbd
        have HFb := Lib.hid hFb; clear hFb
        go_wp2_with fail
        rw [← hwA]
        refine Hff.out.1.mono ?_
        rintro e' w5 ⟨fv, rfl, hF, hb5⟩
        obtain ⟨fb, hfX, hfb⟩ := id hF.1
        obtain ⟨fa, fc, rfl, hfc, hfm, hfx⟩ := id hfX
        obtain ⟨foff, fcs, fT, rfl, _, _⟩ := hfx hlne
        have hb05 := hbA.trans (hb5.mono (by omega))
        have hz5 := hb05.size
        have HF5 := Lib.hid (hF.mono (B' := w2.heap.size) (by omega)); clear hF hfX hfx
        go_wp2_with fail
        refine (rowsOf_any _ l w5 HF5.out.1.v1 (by have := Hff.out.2.2.1.2; omega)).mono ?_
        rintro e' w6 ⟨gv, rfl, hG, hb6⟩
        obtain ⟨ga, gc, rfl, _⟩ := hG.v1.form
        have hb06 := hb05.trans (hb6.mono hz5)
        clear hG
        go_wp2_with fail
        go_roundw
        case rel => exact ⟨k + 1, by omega, by go_num, by rw [Hbo.out.2]; exact ⟨HF5.out.below hb6, rfl⟩, hB.trans (hb06.mono hzr)⟩
        case measure => simp [intOf]; omega
       ·by_cases h2 : x = y
        ·have h1i : ¬ ((diffI l).length : Int) < (y : Int) := by omega
         have h2b : (((diffI l).length : Int) == (y : Int)) = true := by simp; omega
         have hlc := lex_code Hff.out.2.2.1.1 hbd.1 (by rw [Hff.out.2.2.1.2, hbd.2])
         obtain ⟨q, hq⟩ : ∃ q, lexC l b = q := ⟨_, rfl⟩
         rw [hq] at hlc
         by_cases hq0 : q < 0
         ·have hcl : codeL l < codeL b := by
           unfold cmpI at hlc
           by_cases h3 : codeL l < codeL b
           ·exact h3
           ·rw [if_neg h3] at hlc; split at hlc <;> omega
          have hnew : bestTo rows (k + 1) = some l := by rw [hbs]; exact better_lt (hwl.2 (.inr ⟨h2, hcl⟩))
          have Hbo := Lib.hid (And.intro hx (And.intro hnew hq)); clear hbo hnew hbs hwl hx hy hX1 hbd hlc hq hcl
          have HFb := Lib.hid hFb; clear hFb
          go_wp2_with fail
          rw [← hwA]
          refine Hff.out.1.mono ?_
          rintro e' w5 ⟨fv, rfl, hF, hb5⟩
          obtain ⟨fb, hfX, hfb⟩ := id hF.1
          obtain ⟨fa, fc, rfl, hfc, hfm, hfx⟩ := id hfX
          obtain ⟨foff, fcs, fT, rfl, _, _⟩ := hfx hlne
          have hb05 := hbA.trans (hb5.mono (by omega))
          have hz5 := hb05.size
          have HF5 := Lib.hid (hF.mono (B' := w2.heap.size) (by omega)); clear hF hfX hfx
          go_wp2_with fail
          refine (rowsOf_any _ l w5 HF5.out.1.v1 (by have := Hff.out.2.2.1.2; omega)).mono ?_
          rintro e' w6 ⟨gv, rfl, hG, hb6⟩
          obtain ⟨ga, gc, rfl, _⟩ := hG.v1.form
          have hb06 := hb05.trans (hb6.mono hz5)
          clear hG
          go_wp2_with fail
          refine (slCompare_any _ _ l b w6 (HF5.out.1.v1.below hb6) (HFb.out.1.v1.below hb06) (by rw [Hff.out.2.2.1.2]; exact Hlb.out)).mono ?_
          rintro e' w' ⟨rfl, rfl⟩
          rw [Hbo.out.2.2]
          go_wp2_with fail
          go_roundw
          case rel => exact ⟨k + 1, by omega, by go_num, by rw [Hbo.out.2.1]; exact ⟨HF5.out.below hb6, rfl⟩, hB.trans (hb06.mono hzr)⟩
          case measure => simp [intOf]; omega
         ·have hcl : ¬ codeL l < codeL b := by
           intro h3
           unfold cmpI at hlc
           rw [if_pos h3] at hlc; omega
          have hnew : bestTo rows (k + 1) = some b := by rw [hbs]; exact better_ge (fun hh => by rcases hwl.1 hh with h3 | h3 <;> omega)
          have Hbo := Lib.hid (And.intro hx (And.intro hnew (And.intro hq hy))); clear hbo hnew hbs hwl hx hy hX1 hbd hlc hq hcl
          have HFb := Lib.hid hFb; clear hFb
          go_wp2_with fail
          rw [← hwA]
          refine Hff.out.1.mono ?_
          rintro e' w5 ⟨fv, rfl, hF, hb5⟩
          obtain ⟨fb, hfX, hfb⟩ := id hF.1
          obtain ⟨fa, fc, rfl, hfc, hfm, hfx⟩ := id hfX
          obtain ⟨foff, fcs, fT, rfl, _, _⟩ := hfx hlne
          have hb05 := hbA.trans (hb5.mono (by omega))
          have hz5 := hb05.size
          have HF5 := Lib.hid (hF.mono (B' := w2.heap.size) (by omega)); clear hF hfX hfx
          go_wp2_with fail
          refine (rowsOf_any _ l w5 HF5.out.1.v1 (by have := Hff.out.2.2.1.2; omega)).mono ?_
          rintro e' w6 ⟨gv, rfl, hG, hb6⟩
          obtain ⟨ga, gc, rfl, _⟩ := hG.v1.form
          have hb06 := hb05.trans (hb6.mono hz5)
          clear hG
          go_wp2_with fail
          refine (slCompare_any _ _ l b w6 (HF5.out.1.v1.below hb6) (HFb.out.1.v1.below hb06) (by rw [Hff.out.2.2.1.2]; exact Hlb.out)).mono ?_
          rintro e' w' ⟨rfl, rfl⟩
          rw [Hbo.out.2.2.1]
          go_wp2_with fail
          go_roundw
          case rel => exact ⟨k + 1, by omega, by go_num, by rw [Hbo.out.2.1]; exact ⟨HFb.out.below hb06, by rw [Hbo.out.2.2.2]⟩, hB.trans (hb06.mono hzr)⟩
          case measure => simp [intOf]; omega
        ·have h1i : ¬ ((diffI l).length : Int) < (y : Int) := by omega
         have h2b : (((diffI l).length : Int) == (y : Int)) = false := by simp; omega
         have hnew : bestTo rows (k + 1) = some b := by rw [hbs]; exact better_ge (fun hh => by rcases hwl.1 hh with h3 | h3 <;> omega)
         have Hbo := Lib.hid (And.intro hx (And.intro hnew hy)); clear hbo hnew hbs hwl hx hy hX1 hbd
         have HFb := Lib.hid hFb; clear hFb
         go_wp2_with fail
         rw [← hwA]
         refine Hff.out.1.mono ?_
         rintro e' w5 ⟨fv, rfl, hF, hb5⟩
         obtain ⟨fb, hfX, hfb⟩ := id hF.1
         obtain ⟨fa, fc, rfl, hfc, hfm, hfx⟩ := id hfX
         obtain ⟨foff, fcs, fT, rfl, _, _⟩ := hfx hlne
         have hb05 := hbA.trans (hb5.mono (by omega))
         have hz5 := hb05.size
         have HF5 := Lib.hid (hF.mono (B' := w2.heap.size) (by omega)); clear hF hfX hfx
         go_wp2_with fail
         refine (rowsOf_any _ l w5 HF5.out.1.v1 (by have := Hff.out.2.2.1.2; omega)).mono ?_
         rintro e' w6 ⟨gv, rfl, hG, hb6⟩
         obtain ⟨ga, gc, rfl, _⟩ := hG.v1.form
         have hb06 := hb05.trans (hb6.mono hz5)
         clear hG
         go_wp2_with fail
         go_roundw
         case rel => exact ⟨k + 1, by omega, by go_num, by rw [Hbo.out.2.1]; exact ⟨HFb.out.below hb06, by rw [Hbo.out.2.2]⟩, hB.trans (hb06.mono hzr)⟩
         case measure => simp [intOf]; omega
  ·obtain rfl : k = M := by omega
   have Hbv := Lib.hid hbv; clear hbv
   go_wp2_with fail
   go_ret
   exact ⟨_, _, rfl, Hbv.out.mono (by omega), hB01.trans ((hb2.trans (hB.mono hz2)).mono (by omega))⟩
theorem reasRow_up (t cuts : List (List Int)) (key door c : Nat) : ∀ k, (reasRow t cuts key door c k).Pairwise (· < ·)
 | 0 => List.Pairwise.nil
 | k + 1 => by
   unfold reasRow
   split
   ·rw [List.pairwise_append]
    refine ⟨reasRow_up t cuts key door c k, List.pairwise_singleton _ _, fun x hx y hy => ?_⟩
    obtain rfl := List.mem_singleton.1 hy
    obtain ⟨i, h1, h2, _⟩ := mem_reasRow.1 hx
    omega
   ·exact reasRow_up t cuts key door c k
theorem reasRows_ok {t cuts : List (List Int)} {key door n : Nat} (hc : cuts.length ≤ 16) : RowsOk cuts.length (reasRows t cuts key door n) := by
 have he : ∀ k, ¬ k < n → getl (reasRows t cuts key door n) k = [] := fun k hk => by
  unfold getl
  rw [List.getD_eq_getElem?_getD, List.getElem?_eq_none (by rw [reasRows_len]; omega)]
  rfl
 refine ⟨fun k => ?_, fun k x hx => ?_, hc⟩
 ·by_cases hk : k < n
  ·rw [reasRows_get hk]; exact reasRow_up _ _ _ _ _ _
  ·rw [he k hk]; exact List.Pairwise.nil
 ·by_cases hk : k < n
  ·rw [reasRows_get hk] at hx
   obtain ⟨i, h1, h2, _⟩ := mem_reasRow.1 hx
   omega
  ·rw [he k hk] at hx; cases hx
theorem F1.nil4 {B : Nat} {w : World} : F1 B w (.slice none 0 0) [] := ⟨0, ⟨none, 0, rfl, Nat.le_refl _, Nat.zero_le _, fun hn => absurd rfl hn⟩, fun hn => absurd rfl hn⟩
end Go.Proofs.YtmjplkbmhdkggaaGreat
