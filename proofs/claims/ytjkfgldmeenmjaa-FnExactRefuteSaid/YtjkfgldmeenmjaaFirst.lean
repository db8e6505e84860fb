/- The first rows that may stand in a reason: slices.IndexFunc over numbers, firstFrom, FirstReason. No conditions. -/
import Derived.Test.YtjkfgldmeenmjaaMReas
namespace Go.Proofs.Ytjkfgldmeenmjaa
open Go.RowKit
set_option linter.unusedVariables false
set_option linter.unusedSimpArgs false

/-- A function value that answers g of a number, and makes at most new memory. -/
def PredI (f : FuncId) (caps : Array Value) (W : World) (g : Int → Bool) (l : List Int) : Prop :=
  ∀ (w : World) (x : Int), Below W.heap.size W w → x ∈ l → Calls Try.prog f (#[.int .i64 x] ++ caps) w fun e w' => e = .returned (.bool (g x)) ∧ Below w.heap.size w w'
theorem indexFuncI_any {S : Nat → Prop} (v : Value) (l : List Int) (f : FuncId) (caps : Array Value) (g : Int → Bool) (W : World) (h : V1 S W v l) (hf : Enters f) (hp : PredI f caps W g l) :
    Calls Try.prog 80 #[v, .func (.func f) #[] caps] W fun e' w' => e' = .returned (.int .i64 (idxR g l 0)) ∧ Below W.heap.size W w' := by
  have hV := h
  obtain ⟨a, c, rfl, hm⟩ := h.form
  have Hp := Lib.hid hp; clear hp
  go_enter Try.func80, Try.ntmps80
  go_wp2_with fail
  go_loopw [5, 8] (fun _ i wr => ∃ k : Nat, k ≤ l.length ∧ i = .int .i64 k ∧ idxR g l 0 = idxR g (l.drop k) k ∧ Below W.heap.size W wr) (fun _ i _ => l.length - (intOf i).toNat)
  case atStart => exact ⟨0, Nat.zero_le _, rfl, rfl, Below.refl _ _⟩
  case round =>
    obtain ⟨k, hk, rfl, hrem, hB⟩ := hrel
    have Hr := Lib.hid hrem; clear hrem
    by_cases hkk : k < l.length
    · obtain ⟨b1, off1, rfl, _, hc1⟩ := (hV.below hB).cell hkk
      have hf' := hf
      unfold Enters at hf'
      cases hg : g (geti l k)
      · have HG := Lib.hid hg; clear hg
        go_wp2_with fail
        have hcl := Hp.out _ _ hB (geti_mem hkk)
        rw [HG.out] at hcl
        refine hcl.mono ?_
        rintro e' w' ⟨rfl, hb⟩
        have hzB := hb.size
        have hzW := hB.size
        go_wp2_with fail
        go_roundw
        case rel => exact ⟨k + 1, by omega, by go_num, by rw [Hr.out, idxR_stepi hkk, HG.out]; rfl, hB.trans (hb.mono hzW)⟩
        case measure => simp [intOf]; omega
      · have HG := Lib.hid hg; clear hg
        go_wp2_with fail
        have hcl := Hp.out _ _ hB (geti_mem hkk)
        rw [HG.out] at hcl
        refine hcl.mono ?_
        rintro e' w' ⟨rfl, hb⟩
        have hzB := hb.size
        have hzW := hB.size
        go_wp2_with fail
        go_ret
        exact ⟨ret_int (by rw [Hr.out, idxR_stepi hkk, HG.out]; rfl), hB.trans (hb.mono hzW)⟩
    · have hd : l.drop k = [] := List.drop_of_length_le (by omega)
      have Hd := Lib.hid hd; clear hd
      go_wp2_with fail
      go_ret
      exact ⟨ret_int (by rw [Hr.out, Hd.out]; rfl), hB⟩
theorem idxR_lt {g : Int → Bool} : ∀ {l : List Int} {k : Nat}, 0 ≤ idxR g l k → idxR g l k < k + l.length
  | [], k, h => by simp [idxR] at h
  | x :: xs, k, h => by
    unfold idxR at h ⊢
    split at h
    · rename_i hg; rw [if_pos hg]; simp; omega
    · rename_i hg; rw [if_neg hg]; have := idxR_lt h; simp; omega

theorem containsFuncI_any {S : Nat → Prop} (v : Value) (l : List Int) (f : FuncId) (caps : Array Value) (g : Int → Bool) (W : World) (h : V1 S W v l) (hf : Enters f) (hp : PredI f caps W g l) :
    Calls Try.prog 55 #[v, .func (.func f) #[] caps] W fun e' w' => e' = .returned (.bool (l.any g)) ∧ Below W.heap.size W w' := by
  have hfin := (idxR_any g l 0).1
  have Hfin := Lib.hid hfin; clear hfin
  go_enter Try.func55, Try.ntmps55
  go_wp2_with fail
  refine (indexFuncI_any _ _ _ _ _ _ h hf hp).mono ?_
  rintro e' w' ⟨rfl, hb⟩
  go_wp2_with fail
  go_ret
  exact ⟨ret_bool (by rw [← Hfin.out]), hb⟩

/-- The first numbers of the first k lists that g lets pass, if each of these lists has one. -/
def firsts (g : Int → Bool) (ls : List (List Int)) : Nat → Option (List Int)
  | 0 => some []
  | k + 1 => match firsts g ls k with
    | none => none
    | some l => if idxR g (getl ls k) 0 < 0 then none else some (l ++ [geti (getl ls k) (idxR g (getl ls k) 0).toNat])
theorem firsts_len {g : Int → Bool} {ls : List (List Int)} : ∀ {k : Nat} {l : List Int}, firsts g ls k = some l → l.length = k
  | 0, l, h => by simp [firsts] at h; simp [← h]
  | k + 1, l, h => by
    unfold firsts at h
    split at h
    · cases h
    · rename_i l' hl'
      split at h
      · cases h
      · injection h with h; subst h; simp [firsts_len hl']
theorem firsts_none {g : Int → Bool} {ls : List (List Int)} {k : Nat} (h : firsts g ls k = none) : ∀ {n}, k ≤ n → firsts g ls n = none
  | 0, hk => by obtain rfl : k = 0 := by omega
                exact h
  | n + 1, hk => by
    by_cases hkn : k = n + 1
    · subst hkn; exact h
    · unfold firsts; rw [firsts_none h (show k ≤ n by omega)]
def firstsAns (g : Int → Bool) (ls : List (List Int)) : List Int × Bool := match firsts g ls ls.length with
  | none => ([], false)
  | some l => (l, true)

/-- A fresh list that may grow in place. -/
def FO (B : Nat) (w : World) (v : Value) (l : List Int) : Prop := F1 B w v l ∧ (l ≠ [] → w.ownsRow B 2 1 v l.length (l.map (Value.int .i64)))
theorem FO.below {B : Nat} {w w' : World} {v : Value} {l : List Int} (h : FO B w v l) (hb : Below w.heap.size w w') : FO B w' v l :=
  ⟨h.1.below hb, fun hn => own_chg (h.2 hn) (Chg.of_below (F := fun _ => False) hb) (fun _ _ h => h)⟩
theorem FO.mono {B B' : Nat} {w : World} {v : Value} {l : List Int} (h : FO B w v l) (hb : B' ≤ B) : FO B' w v l := ⟨h.1.mono hb, fun hn => own_base (h.2 hn) hb⟩
theorem firstFrom_own {S : Nat → Prop} (v : Value) (ls : List (List Int)) (f : FuncId) (caps : Array Value) (g : Int → Bool) (W : World) (h : V2 S W v ls) (hl6 : ls.length ≤ 1048576) (hf : Enters f) (hp : ∀ k, k < ls.length → PredI f caps W g (getl ls k)) :
    Calls Try.prog 75 #[v, .func (.func f) #[] caps] W fun e' w' => ∃ v', e' = .returned (.tuple #[v', .bool (firstsAns g ls).2]) ∧ FO W.heap.size w' v' (firstsAns g ls).1 ∧ Below W.heap.size W w' := by
  have hV := h
  obtain ⟨a, c, rfl, hm⟩ := h.form
  have Hp := Lib.hid hp; clear hp
  obtain ⟨B, hBs⟩ : ∃ B, B = W.heap.size := ⟨_, rfl⟩
  rw [← hBs]
  have hown0 := own_lit0 W B 2 1 (by omega)
  obtain ⟨ans, hans⟩ : ∃ r, firstsAns g ls = r := ⟨_, rfl⟩
  rw [hans]
  have Hans := Lib.hid hans; clear hans
  have Hp2 : ∀ w : World, Below B W w → Below W.heap.size W w := fun w h => by rw [← hBs]; exact h
  have hBle : B ≤ W.heap.size := by omega
  have hBge : W.heap.size ≤ B := by omega
  have Hp2 := Lib.hid Hp2
  have hHB := Lib.hid hBs
  clear hBs
  go_enter Try.func75, Try.ntmps75
  go_wp2_with fail
  go_loopw [6, 8, 9, 13] (fun ro _ _ i wr => ∃ (k : Nat) (l : List Int), k ≤ ls.length ∧ i = .int .i64 k ∧ firsts g ls k = some l ∧ wr.ownsRow B 2 1 ro l.length (l.map (Value.int .i64)) ∧ Below B W wr) (fun _ _ _ i _ => ls.length - (intOf i).toNat)
  case atStart => exact ⟨0, [], Nat.zero_le _, rfl, rfl, hown0, (Below.refl _ _).alloc (by omega) _⟩
  case round =>
    obtain ⟨k, l, hk, rfl, hfk, hown, hB⟩ := hrel
    have hll := firsts_len hfk
    have Hfk := Lib.hid hfk; clear hfk
    by_cases hkk : k < ls.length
    · obtain ⟨b1, off1, a1, c1, rfl, _, hc1, hr1⟩ := (hV.below (Hp2.out _ hB)).cell hkk
      have hlen1 := hr1.len
      unfold maxLen at hlen1
      have hpk : PredI f caps wr g (getl ls k) := fun w x hb hx => Hp.out k hkk w x (Hp2.out _ (hB.trans (hb.mono (by have := hB.size; omega)))) hx
      by_cases hix : idxR g (getl ls k) 0 < 0
      · have hfin : ans = ([], false) := by
          rw [← Hans.out]; unfold firstsAns
          rw [firsts_none (k := k + 1) (by unfold firsts; rw [Hfk.out]; simp only [if_pos hix]) (by omega)]
        subst hfin
        have Hown := Lib.hid hown; clear hown
        go_wp2_with fail
        refine (indexFuncI_any _ _ _ _ _ _ hr1 hf hpk).mono ?_
        rintro e' w2 ⟨rfl, hb2⟩
        generalize idxR g (getl ls k) 0 = q at *
        go_wp2_with fail
        go_ret2
        exact ⟨_, rfl, ⟨⟨0, ⟨none, 0, rfl, Nat.le_refl _, Nat.zero_le _, fun hn => absurd rfl hn⟩, fun hn => absurd rfl hn⟩, fun hn => absurd rfl hn⟩, hB.trans (hb2.mono (by have := hB.size; omega))⟩
      · have hlt := idxR_lt (g := g) (l := getl ls k) (k := 0) (by omega)
        have hst : firsts g ls (k + 1) = some (l ++ [geti (getl ls k) (idxR g (getl ls k) 0).toNat]) := by
          unfold firsts; rw [Hfk.out]; simp only [if_neg hix]
        have Hst := Lib.hid hst; clear hst
        obtain ⟨q, hq⟩ : ∃ q : Nat, idxR g (getl ls k) 0 = (q : Int) := ⟨(idxR g (getl ls k) 0).toNat, by omega⟩
        have hql : q < (getl ls k).length := by omega
        have Hq := Lib.hid hq; clear hq
        clear hix hlt
        have Hown := Lib.hid hown; clear hown
        go_wp2_with fail
        refine (indexFuncI_any _ _ _ _ _ _ hr1 hf hpk).mono ?_
        rintro e' w2 ⟨rfl, hb2⟩
        rw [Hq.out]
        obtain ⟨b2, off2, ea, _, hc2⟩ := (hr1.below hb2).cell hql
        subst ea
        have hown2 := own_chg Hown.out (Chg.of_below (F := fun _ => False) hb2) (fun _ _ h => h)
        have hB2 := hB.trans (hb2.mono (by have := hB.size; omega))
        have hzB := hB2.size
        go_wp2_with (at_builtin; refine wp_app1 _ rfl _ _ 29 rfl B 2 (.int .i64 0) 8 Try.underlying29 inf_int rfl _ _ _ rfl hown2 (.int .i64 (geti (getl ls k) q)) _ rfl rfl (by omega) (by omega) (by omega) ?_; intro v1 w1 hown1 hgrow1 hblk1 hB1)
        go_roundw
        case rel =>
          refine ⟨k + 1, _, by omega, by go_num, Hst.out, ?_, ?_⟩
          · rw [Hq.out]
            simpa using hown1
          · exact hB2.trans (hB1.mono (by omega))
        case measure => simp [intOf]; omega
    · obtain rfl : k = ls.length := by omega
      have hfin : ans = (l, true) := by
        rw [← Hans.out]; unfold firstsAns
        rw [Hfk.out]
      subst hfin
      go_wp2_with fail
      go_ret2
      exact ⟨_, rfl, ⟨own_F1 hown, fun _ => hown⟩, hB⟩
theorem firstFrom_any {S : Nat → Prop} (v : Value) (ls : List (List Int)) (f : FuncId) (caps : Array Value) (g : Int → Bool) (W : World) (h : V2 S W v ls) (hl6 : ls.length ≤ 1048576) (hf : Enters f) (hp : ∀ k, k < ls.length → PredI f caps W g (getl ls k)) :
    Calls Try.prog 75 #[v, .func (.func f) #[] caps] W fun e' w' => ∃ v', e' = .returned (.tuple #[v', .bool (firstsAns g ls).2]) ∧ F1 W.heap.size w' v' (firstsAns g ls).1 ∧ Below W.heap.size W w' :=
  (firstFrom_own v ls f caps g W h hl6 hf hp).mono fun e' w' ⟨v', h1, h2, h3⟩ => ⟨v', h1, h2.1, h3⟩

end Go.Proofs.Ytjkfgldmeenmjaa
