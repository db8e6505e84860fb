/- Plain: rows that are kept of a system and partial cuts; the blamed rows alone have a false opening. No program here. No conditions. -/
import Derived.OwnWalk
import Derived.Test.YtmjplkbmhdkggaaGreatMRowsR
import Derived.Test.YtmjplkbmhdkggaaGreatMBlameF
import Derived.Test.YtmjplkbmhdkggaaGreatMDraw14
import Derived.Test.YtmjplkbmhdkggaaGreatMBegins
import Derived.Test.YtmjplkbmhdkggaaGreatMGen
import Derived.Test.YtmjplkbmhdkggaaGreatMShelf0
import Derived.Test.YtmjplkbmhdkggaaGreatMRefFirst
namespace Go.Proofs.YtmjplkbmhdkggaaGreat
open Go.RowKit
set_option linter.unusedVariables false
set_option linter.unusedSimpArgs false
/-- Whether one of the first k rows of a list opens a door. -/
def usedRs (t : List (List Int)) (rows : List Int) (d : Nat) : Nat → Bool
 | 0 => false
 | k + 1 => usedRs t rows d k || decide (geti (getl t (geti rows k).toNat) d = 1)
def usedD (t : List (List Int)) (rows : List Int) (d : Nat) : Bool := usedRs t rows d rows.length
theorem usedRs_iff {t : List (List Int)} {rows : List Int} {d : Nat} : ∀ {k}, usedRs t rows d k = true ↔ ∃ j, j < k ∧ geti (getl t (geti rows j).toNat) d = 1
 | 0 => by simp [usedRs]
 | k + 1 => by
   unfold usedRs
   rw [Bool.or_eq_true, usedRs_iff, decide_eq_true_iff]
   constructor
   ·rintro (⟨j, h1, h2⟩ | h)
    ·exact ⟨j, by omega, h2⟩
    ·exact ⟨k, by omega, h⟩
   ·rintro ⟨j, h1, h2⟩
    by_cases e : j = k
    ·subst e; exact .inr h2
    ·exact .inl ⟨j, by omega, h2⟩
/-- The doors among the first k that one of the rows opens. -/
def usedTo (t : List (List Int)) (rows : List Int) : Nat → List Nat
 | 0 => []
 | k + 1 => if usedD t rows k = true then usedTo t rows k ++ [k] else usedTo t rows k
theorem mem_usedTo {t : List (List Int)} {rows : List Int} {d : Nat} : ∀ {k}, d ∈ usedTo t rows k ↔ d < k ∧ usedD t rows d = true
 | 0 => by simp [usedTo]
 | k + 1 => by
   unfold usedTo
   split
   ·rename_i h
    rw [List.mem_append, mem_usedTo, List.mem_singleton]
    constructor
    ·rintro (⟨h1, h2⟩ | rfl)
     ·exact ⟨by omega, h2⟩
     ·exact ⟨by omega, h⟩
    ·rintro ⟨h1, h2⟩
     by_cases e : d = k
     ·exact .inr e
     ·exact .inl ⟨by omega, h2⟩
   ·rename_i h
    rw [mem_usedTo]
    constructor
    ·rintro ⟨h1, h2⟩; exact ⟨by omega, h2⟩
    ·rintro ⟨h1, h2⟩
     refine ⟨?_, h2⟩
     by_cases e : d = k
     ·subst e; exact absurd h2 h
     ·omega
theorem usedTo_len (t : List (List Int)) (rows : List Int) : ∀ k, (usedTo t rows k).length ≤ k
 | 0 => Nat.le_refl _
 | k + 1 => by have := usedTo_len t rows k; unfold usedTo; split <;> simp <;> omega
/-- The entries of row r at these doors. -/
def entTo (t : List (List Int)) (rows : List Int) (r : Nat) : Nat → List Int
 | 0 => []
 | k + 1 => if usedD t rows k = true then entTo t rows r k ++ [geti (getl t r) k] else entTo t rows r k
theorem entTo_map (t : List (List Int)) (rows : List Int) (r : Nat) : ∀ k, entTo t rows r k = (usedTo t rows k).map fun d => geti (getl t r) d
 | 0 => rfl
 | k + 1 => by
   unfold entTo usedTo
   rw [entTo_map t rows r k]
   split
   ·simp
   ·rfl
theorem entTo_len (t : List (List Int)) (rows : List Int) (r k : Nat) : (entTo t rows r k).length ≤ k := by rw [entTo_map, List.length_map]; exact usedTo_len _ _ _
/-- The kept rows among the first j, and their cuts. -/
def keepTo (t : List (List Int)) (rows : List Int) : Nat → List (List Int)
 | 0 => []
 | j + 1 => keepTo t rows j ++ [entTo t rows (geti rows j).toNat (getl t 0).length]
def kcutTo (cuts : List (List Int)) (rows : List Int) : Nat → List (List Int)
 | 0 => []
 | j + 1 => kcutTo cuts rows j ++ [getl cuts (geti rows j).toNat]
theorem keepTo_len (t : List (List Int)) (rows : List Int) : ∀ k, (keepTo t rows k).length = k
 | 0 => rfl
 | k + 1 => by simp [keepTo, keepTo_len t rows k]
theorem kcutTo_len (t : List (List Int)) (rows : List Int) : ∀ k, (kcutTo t rows k).length = k
 | 0 => rfl
 | k + 1 => by simp [kcutTo, kcutTo_len t rows k]
theorem getl_snoc_last (ls : List (List Int)) (x : List Int) : getl (ls ++ [x]) ls.length = x := by unfold getl; simp
theorem getl_snoc_lt {ls : List (List Int)} {x : List Int} {k : Nat} (h : k < ls.length) : getl (ls ++ [x]) k = getl ls k := by unfold getl; simp [List.getElem?_append_left h]
theorem keepTo_get {t : List (List Int)} {rows : List Int} : ∀ {n k : Nat}, k < n → getl (keepTo t rows n) k = entTo t rows (geti rows k).toNat (getl t 0).length
 | n + 1, k, h => by
   have hl := keepTo_len t rows n
   unfold keepTo
   by_cases e : k = n
   ·subst e
    conv => lhs; arg 2; rw [← hl]
    rw [getl_snoc_last]
   ·rw [getl_snoc_lt (by omega), keepTo_get (by omega)]
theorem kcutTo_get {cuts : List (List Int)} {rows : List Int} : ∀ {n k : Nat}, k < n → getl (kcutTo cuts rows n) k = getl cuts (geti rows k).toNat
 | n + 1, k, h => by
   have hl := kcutTo_len cuts rows n
   unfold kcutTo
   by_cases e : k = n
   ·subst e
    conv => lhs; arg 2; rw [← hl]
    rw [getl_snoc_last]
   ·rw [getl_snoc_lt (by omega), kcutTo_get (by omega)]
/-- The code, the kept table and the kept cuts. -/
def keepAns (m : Mk) (t cuts : List (List Int)) (rows : List Int) : Int × List (List Int) × List (List Int) :=
 if partC m t cuts ≠ 0 then (partC m t cuts, [], [])
 else if riseB rows (cuts.length : Int) = false then (2, [], [])
 else if rows.length = 0 ∨ (usedTo t rows (getl t 0).length).length = 0 then (5, [], [])
 else (0, keepTo t rows rows.length, kcutTo cuts rows rows.length)
def keepM (m : Mk) (c : Int) : Mk := if c = 0 then m else Mk.mk 0 0 0 0 0
theorem riseTo_iff {l : List Int} {n : Int} : ∀ {k}, riseTo l n k = true ↔ ∀ j, j < k → 0 ≤ geti l j ∧ geti l j < n ∧ (j = 0 ∨ geti l (j - 1) < geti l j)
 | 0 => by simp [riseTo]
 | k + 1 => by
   unfold riseTo
   simp only [Bool.and_eq_true, Bool.or_eq_true, decide_eq_true_iff]
   rw [riseTo_iff]
   constructor
   ·rintro ⟨h1, ⟨h2, h3⟩, h4⟩ j hj
    by_cases e : j = k
    ·subst e; exact ⟨h2, h3, h4⟩
    ·exact h1 j (by omega)
   ·intro h
    obtain ⟨h2, h3, h4⟩ := h k (by omega)
    exact ⟨fun j hj => h j (by omega), ⟨h2, h3⟩, h4⟩
theorem rise_get {l : List Int} {n : Int} (h : riseB l n = true) {j : Nat} (hj : j < l.length) : 0 ≤ geti l j ∧ geti l j < n := by
 have := riseTo_iff.1 h j hj
 exact ⟨this.1, this.2.1⟩
theorem rise_ge {l : List Int} {n : Int} (h : riseB l n = true) : ∀ j, j < l.length → (j : Int) ≤ geti l j
 | 0, hj => (rise_get h hj).1
 | j + 1, hj => by
   have h1 := rise_ge h j (by omega)
   have h2 := (riseTo_iff.1 h (j + 1) hj).2.2
   rcases h2 with e | h2
   ·omega
   ·rw [Nat.add_sub_cancel] at h2; omega
theorem rise_len {l : List Int} {n : Nat} (h : riseB l (n : Int) = true) : l.length ≤ n := by
 cases hl : l.length with
 | zero => omega
 | succ k =>
   have h1 := rise_ge h k (by omega)
   have h2 := (rise_get h (j := k) (by omega)).2
   omega
theorem keep_ok {m : Mk} {t cuts T C : List (List Int)} {rows : List Int} (h : keepAns m t cuts rows = (0, T, C)) :
  partC m t cuts = 0 ∧ riseB rows (cuts.length : Int) = true ∧ rows.length ≠ 0 ∧ (usedTo t rows (getl t 0).length).length ≠ 0 ∧ T = keepTo t rows rows.length ∧ C = kcutTo cuts rows rows.length := by
 unfold keepAns at h
 split at h
 ·rename_i h1; exact absurd (congrArg Prod.fst h) h1
 ·rename_i h1
  split at h
  ·have := congrArg Prod.fst h; simp at this
  ·rename_i h2
   split at h
   ·have := congrArg Prod.fst h; simp at this
   ·rename_i h3
    rw [not_or] at h3
    injection h with _ h
    injection h with e1 e2
    exact ⟨Classical.not_not.1 h1, by simpa using h2, h3.1, h3.2, e1.symm, e2.symm⟩
theorem keep_row {t : List (List Int)} {rows : List Int} {k q : Nat} (hk : k < rows.length) (hq : q < (usedTo t rows (getl t 0).length).length) :
  geti (getl (keepTo t rows rows.length) k) q = geti (getl t (geti rows k).toNat) ((usedTo t rows (getl t 0).length).getD q 0) := by
 rw [keepTo_get hk, entTo_map]
 unfold geti
 simp only [List.getD_eq_getElem?_getD]
 rw [List.getElem?_map, List.getElem?_eq_getElem hq]
 simp
theorem keep_rowlen {t : List (List Int)} {rows : List Int} {k : Nat} (hk : k < rows.length) : (getl (keepTo t rows rows.length) k).length = (usedTo t rows (getl t 0).length).length := by
 rw [keepTo_get hk, entTo_map, List.length_map]
theorem used_get {t : List (List Int)} {rows : List Int} {D q : Nat} (hq : q < (usedTo t rows D).length) : (usedTo t rows D).getD q 0 < D ∧ usedD t rows ((usedTo t rows D).getD q 0) = true := by
 have : (usedTo t rows D).getD q 0 ∈ usedTo t rows D := by
  rw [List.getD_eq_getElem?_getD, List.getElem?_eq_getElem hq]; exact List.getElem_mem hq
 exact mem_usedTo.1 this
theorem keep_part {m : Mk} {t cuts T C : List (List Int)} {rows : List Int} (h : keepAns m t cuts rows = (0, T, C)) : partC m T C = 0 ∧ C.length = rows.length ∧ T.length = rows.length := by
 obtain ⟨hp, hr, hn, hu, rfl, rfl⟩ := keep_ok h
 have hf := fits_of hp
 have hrl := rise_len hr
 have hrows := hf.rows
 have hfew := hf.few
 have hdoors := hf.doors
 have hul := usedTo_len t rows (getl t 0).length
 have hlt : ∀ j, j < rows.length → (geti rows j).toNat < cuts.length := fun j hj => by have := rise_get hr hj; omega
 have h0 := keep_rowlen (t := t) (rows := rows) (k := 0) (by omega)
 refine ⟨partC_ok.2 ⟨?_, by rw [keepTo_len, kcutTo_len]; exact Nat.le_refl _, allKeys_iff.2 fun k hk => ?_⟩, kcutTo_len _ _ _, keepTo_len _ _ _⟩
 ·unfold isSys
  rw [Bool.and_eq_true, Bool.and_eq_true]
  refine ⟨hf.ok, isTab_iff.2 ⟨by rw [keepTo_len]; omega, fun k hk => ?_⟩, upAll_iff.2 fun d hd => ?_⟩
  ·rw [keepTo_len] at hk
   have hk1 := keep_rowlen (t := t) (rows := rows) hk
   refine ⟨by rw [hk1, h0], by rw [h0]; omega, fun x hx => ?_⟩
   rw [keepTo_get hk, entTo_map, List.mem_map] at hx
   obtain ⟨d, hd, rfl⟩ := hx
   have hd := (mem_usedTo.1 hd).1
   have hkt : (geti rows k).toNat < t.length := by have := hlt k hk; omega
   have hcol := hf.cols _ hkt
   have := hf.bits _ hkt (geti (getl t (geti rows k).toNat) d) (geti_mem (by omega))
   omega
  ·rw [h0] at hd
   obtain ⟨hq1, hq2⟩ := used_get hd
   obtain ⟨j, hj, hj1⟩ := usedRs_iff.1 hq2
   unfold doorOpen
   rw [doorTo_iff, keepTo_len]
   exact ⟨j, hj, by rw [keep_row hj hd]; exact hj1⟩
 ·rw [kcutTo_len] at hk
  rw [kcutTo_get hk]
  exact hf.keys _ (hlt k hk)
theorem index_of {l : List Int} {x : Int} (h : x ∈ l) : ∃ j, j < l.length ∧ geti l j = x := by
 obtain ⟨j, hj, e⟩ := List.getElem_of_mem h
 exact ⟨j, hj, by rw [geti_eq hj]; exact e⟩
theorem rise_of {l : List Int} {n : Int} (hs : l.Pairwise (· < ·)) (hb : ∀ x ∈ l, 0 ≤ x ∧ x < n) : riseB l n = true := by
 refine riseTo_iff.2 fun j hj => ?_
 obtain ⟨h1, h2⟩ := hb _ (geti_mem hj)
 refine ⟨h1, h2, ?_⟩
 by_cases e : j = 0
 ·exact .inl e
 ·right
  rw [geti_eq (by omega), geti_eq hj]
  exact List.pairwise_iff_getElem.1 hs (j - 1) j (by omega) hj (by omega)
theorem blame_law {m : Mk} {t cuts : List (List Int)} {r : List Int} (h : blameAns m t cuts = (r, 0)) :
  ∃ T C : List (List Int), keepAns m t cuts r = (0, T, C) ∧ 0 < (falseL m.c.toNat T C).length := by
 unfold blameAns at h
 split at h
 ·rename_i h1; exact absurd (congrArg Prod.snd h) h1
 rename_i h1
 have h1 := Classical.not_not.1 h1
 have hfin := congrArg Prod.fst h
 dsimp only at hfin
 clear h
 obtain ⟨hp, i, d, hi, hd, he, ho⟩ := pf_ok h1
 have hz : geti (getl t i) d = 0 := by
  unfold pfAns at h1 he
  rw [if_neg (by rw [hp]; decide)] at h1 he
  unfold firstPair at h1 he
  split at he
  ·have := congrArg (fun x => x.2.2) he; simp at this
  ·rename_i hl
   obtain ⟨i', d', _, _, h3, h4, _⟩ := falseL_get (k := 0) (Nat.pos_of_ne_zero hl)
   rw [h3] at he
   have e1 : (i' : Int) = i := congrArg Prod.fst he
   have e2 : (d' : Int) = d := congrArg (fun x => x.2.1) he
   have e1 : i' = i := by omega
   have e2 : d' = d := by omega
   rw [← e1, ← e2]; exact h4
 rw [he] at hfin
 simp only [Int.toNat_natCast] at hfin
 have hf := fits_of hp
 have hmk := Mk.ok_iff.1 hf.ok
 have hlen : (getl cuts i).length = m.c.toNat := by have := hf.lens i hi; omega
 obtain ⟨b, hb⟩ := false_best (N := (reasRows t cuts i d m.c.toNat).length) hlen ho
 rw [hb, Option.getD_some] at hfin
 obtain ⟨hbl, hbm⟩ := mem_allR.1 (bestW_some hb).1
 rw [reasRows_len] at hbl hbm
 have hmem : ∀ x, x ∈ r ↔ x ∈ b ∨ x = (i : Int) := fun x => by rw [← hfin, (diffI_sort _).2, List.mem_append, List.mem_singleton]
 have hbc : ∀ c, c < m.c.toNat → ∃ j : Nat, j < cuts.length ∧ geti b c = j ∧ geti (getl t j) d = 1 ∧ geti (getl cuts j) c = geti (getl cuts i) c := fun c hc => by
  have := hbm c hc
  rw [reasRows_get hc] at this
  exact mem_reasRow.1 this
 have hbx : ∀ x ∈ b, ∃ c, c < m.c.toNat ∧ geti b c = x := fun x hx => by
  obtain ⟨c, hc, e⟩ := index_of hx
  exact ⟨c, by omega, e⟩
 have hrise : riseB r (cuts.length : Int) = true := rise_of (by rw [← hfin]; exact (diffI_sort _).1) fun x hx => by
  rcases (hmem x).1 hx with hx | rfl
  ·obtain ⟨c, hc, rfl⟩ := hbx x hx
   obtain ⟨j, hj, e, _⟩ := hbc c hc
   omega
  ·omega
 obtain ⟨p, hp1, hp2⟩ := index_of ((hmem (i : Int)).2 (.inr rfl))
 have hc0 : 0 < m.c.toNat := by omega
 have hrow : ∀ c, c < m.c.toNat → ∃ q, q < r.length ∧ geti (getl t (geti r q).toNat) d = 1 ∧ geti (getl cuts (geti r q).toNat) c = geti (getl cuts i) c := fun c hc => by
  obtain ⟨j, hj, e, h2, h3⟩ := hbc c hc
  obtain ⟨q, hq1, hq2⟩ := index_of ((hmem (geti b c)).2 (.inl (geti_mem (by omega))))
  rw [e] at hq2
  refine ⟨q, hq1, ?_, ?_⟩ <;> rw [hq2, Int.toNat_natCast]
  ·exact h2
  ·exact h3
 obtain ⟨q0, hq0, hq1, _⟩ := hrow 0 hc0
 have hused : d ∈ usedTo t r (getl t 0).length := mem_usedTo.2 ⟨hd, usedRs_iff.2 ⟨q0, hq0, hq1⟩⟩
 obtain ⟨y, hy, hye⟩ := List.getElem_of_mem hused
 have hyd : (usedTo t r (getl t 0).length).getD y 0 = d := by rw [List.getD_eq_getElem?_getD, List.getElem?_eq_getElem hy]; exact hye
 have hkeep : keepAns m t cuts r = (0, keepTo t r r.length, kcutTo cuts r r.length) := by
  unfold keepAns
  rw [if_neg (by rw [hp]; decide), if_neg (by rw [hrise]; decide), if_neg (by rw [not_or]; exact ⟨by omega, by omega⟩)]
 refine ⟨_, _, hkeep, List.length_pos_of_mem (a := [(p : Int), (y : Int)]) ?_⟩
 have hg0 := keep_rowlen (t := t) (rows := r) (k := 0) (by omega)
 refine mem_falseRows.2 ⟨p, y, by rw [kcutTo_len]; exact hp1, by rw [hg0]; exact hy, rfl, by rw [keep_row hp1 hy, hp2, Int.toNat_natCast, hyd]; exact hz, ?_⟩
 rw [locksTo_get (by rw [hg0]; exact hy), opensB_iff]
 intro c hc
 rw [kcutTo_get hp1, hp2, Int.toNat_natCast] at hc ⊢
 rw [hlen] at hc
 obtain ⟨q, g1, g2, g3⟩ := hrow c hc
 refine (mem_lock hc).2 ⟨getl (kcutTo cuts r r.length) q, ?_, by rw [kcutTo_get g1]; exact g3⟩
 rw [doorCuts_map, List.mem_map]
 exact ⟨(q : Int), mem_rowsF.2 ⟨q, by rw [kcutTo_len]; exact g1, rfl, by rw [keep_row g1 hy, hyd]; exact g2⟩, by simp⟩
theorem idxR_step1 {g : Int → Bool} {l : List Int} {k : Nat} (h : k < l.length) : idxR g (l.drop k) k = if g (geti l k) then (k : Int) else idxR g (l.drop (k + 1)) (k + 1) := by
 rw [List.drop_eq_getElem_cons h, idxR, geti_eq h]
/-- A function value that answers g of a number, and makes at most new memory. -/
def PredN (f : FuncId) (caps : Array Value) (W : World) (g : Int → Bool) (l : List Int) : Prop :=
 ∀ (w : World) (x : Int), Below W.heap.size W w → x ∈ l → Calls Tryz.prog f (#[.int .i64 x] ++ caps) w fun e w' => e = .returned (.bool (g x)) ∧ Below w.heap.size w w'
theorem indexFuncN_any {S : Nat → Prop} (v : Value) (l : List Int) (f : FuncId) (caps : Array Value) (g : Int → Bool) (W : World) (h : V1 S W v l) (hf : Enters f) (hp : PredN f caps W g l) :
  Calls Tryz.prog 141 #[v, .func (.func f) #[] caps] W fun e' w' => e' = .returned (.int .i64 (idxR g l 0)) ∧ Below W.heap.size W w' := by
 have hV := h
 obtain ⟨a, c, rfl, hm⟩ := h.form
 have Hp := Lib.hid hp; clear hp
 go_enter Tryz.func141, Tryz.ntmps141
 go_wp2_with fail
 go_loopw [5, 8] (fun _ i wr => ∃ k : Nat, k ≤ l.length ∧ i = .int .i64 k ∧ idxR g l 0 = idxR g (l.drop k) k ∧ Below W.heap.size W wr) (fun _ i _ => l.length - (intOf i).toNat)
 case atStart => exact ⟨0, Nat.zero_le _, rfl, rfl, Below.refl _ _⟩
 case round =>
  obtain ⟨k, hk, rfl, hrem, hB⟩ := hrel
  have Hr := Lib.hid hrem; clear hrem
  by_cases hkk : k < l.length
  ·obtain ⟨b1, off1, rfl, _, hc1⟩ := (hV.below hB).cell hkk
   have hf' := hf
   unfold Enters at hf'
   cases hg : g (geti l k)
   ·have HG := Lib.hid hg; clear hg
    go_wp2_with fail
    have hcl := Hp.out _ _ hB (geti_mem hkk)
    rw [HG.out] at hcl
    refine hcl.mono ?_
    rintro e' w' ⟨rfl, hb⟩
    have hzB := hb.size
    have hzW := hB.size
    go_wp2_with fail
    go_roundw
    case rel => exact ⟨k + 1, by omega, by go_num, by rw [Hr.out, idxR_step1 hkk, HG.out]; rfl, hB.trans (hb.mono hzW)⟩
    case measure => simp [intOf]; omega
   ·have HG := Lib.hid hg; clear hg
    go_wp2_with fail
    have hcl := Hp.out _ _ hB (geti_mem hkk)
    rw [HG.out] at hcl
    refine hcl.mono ?_
    rintro e' w' ⟨rfl, hb⟩
    have hzB := hb.size
    have hzW := hB.size
    go_wp2_with fail
    go_ret
    exact ⟨ret_int (by rw [Hr.out, idxR_step1 hkk, HG.out]; rfl), hB.trans (hb.mono hzW)⟩
  ·have hd : l.drop k = [] := List.drop_of_length_le (by omega)
   have Hd := Lib.hid hd; clear hd
   go_wp2_with fail
   go_ret
   exact ⟨ret_int (by rw [Hr.out, Hd.out]; rfl), hB⟩
theorem containsFuncN_any {S : Nat → Prop} (v : Value) (l : List Int) (f : FuncId) (caps : Array Value) (g : Int → Bool) (W : World) (h : V1 S W v l) (hf : Enters f) (hp : PredN f caps W g l) :
  Calls Tryz.prog 81 #[v, .func (.func f) #[] caps] W fun e' w' => e' = .returned (.bool (l.any g)) ∧ Below W.heap.size W w' := by
 have hfin := (idxR_any g l 0).1
 have Hfin := Lib.hid hfin; clear hfin
 go_enter Tryz.func81, Tryz.ntmps81
 go_wp2_with fail
 refine (indexFuncN_any _ _ _ _ _ _ h hf hp).mono ?_
 rintro e' w' ⟨rfl, hb⟩
 go_wp2_with fail
 go_ret
 exact ⟨ret_bool (by rw [← Hfin.out]), hb⟩
/-- As Out2, the rows' values and their blocks named. -/
def Out2x (B : Nat) (w : World) (v : Value) (ls : List (List Int)) (vs : List Value) (bk : Nat → Nat) : Prop :=
 w.ownsRow B 44 1 v ls.length vs ∧ (∀ k, k < ls.length → ∃ rv, vs[k]? = some rv ∧ X1 w rv (getl ls k) (bk k)) ∧
  (∀ k, k < ls.length → getl ls k ≠ [] → B ≤ bk k ∧ v.ownBlock ≠ some (bk k) ∧ ∀ j, j < ls.length → j ≠ k → getl ls j ≠ [] → bk j ≠ bk k)
theorem Out2x.out {B : Nat} {w : World} {v : Value} {ls : List (List Int)} {vs : List Value} {bk : Nat → Nat} (h : Out2x B w v ls vs bk) : Out2 B w v ls := ⟨vs, bk, h.1, h.2.1, h.2.2⟩
theorem Out2x.push {B : Nat} {w w2 w1 : World} {v v1 rv : Value} {ls : List (List Int)} {l : List Int} {b : Nat} {vs : List Value} {bk : Nat → Nat}
  (h : Out2x B w v ls vs bk)
  (hB : B ≤ w.heap.size) (hb : Below w.heap.size w w2) (hx : X1 w2 rv l b) (hbn : l ≠ [] → w.heap.size ≤ b)
  (hown : w1.ownsRow B 44 1 v1 (ls.length + 1) (vs ++ [rv])) (hg : w2.grownBy w1 v.ownBlock) (hblk : v1.ownBlock = v.ownBlock ∨ ∃ g, v1.ownBlock = some g ∧ w2.heap.size ≤ g) : Out2x B w1 v1 (ls ++ [l]) (vs ++ [rv]) (fun k => if k < ls.length then bk k else b) := by
 obtain ⟨h1, h2, h3⟩ := h
 have hvl : ∀ g, v.ownBlock = some g → g < w.heap.size := fun g hgg => (h1.lt g hgg).2
 have hxl : ∀ k, k < ls.length → getl ls k ≠ [] → bk k < w.heap.size := fun k hk hn => by
  obtain ⟨rv, _, h⟩ := h2 k hk; exact h.lt hn
 have hne1 : ∀ c, c < w2.heap.size → v.ownBlock ≠ some c → v1.ownBlock ≠ some c := fun c hc hn e => by
  rcases hblk with e1 | ⟨g, e1, hge⟩
  ·exact hn (e1.symm.trans e)
  ·rw [e] at e1; cases e1; omega
 have hvl1 := h1.1
 refine ⟨by simpa using hown, fun k hk => ?_, fun k hk hn => ?_⟩
 ·by_cases hkl : k < ls.length
  ·obtain ⟨rv', h4, h5⟩ := h2 k hkl
   refine ⟨rv', by rw [List.getElem?_append_left (by omega)]; exact h4, ?_⟩
   rw [getl_app1 hkl]
   simp only [hkl, if_true]
   exact h5.keep fun hn => by
    rw [hg.block _ (Nat.lt_of_lt_of_le (hxl k hkl hn) hb.size) (fun e => (h3 k hkl hn).2.1 e.symm), hb.block _ (hxl k hkl hn)]
  ·have e : k = ls.length := by simp at hk; omega
   subst e
   refine ⟨rv, by rw [List.getElem?_append_right (by omega)]; simp [show ls.length - vs.length = 0 by omega], ?_⟩
   rw [getl_app2]
   simp only [Nat.lt_irrefl, if_false]
   exact hx.keep fun hn => hg.block _ (hx.lt hn) (fun e => by have := hvl b e.symm; have := hbn hn; omega)
 ·by_cases hkl : k < ls.length
  ·rw [getl_app1 hkl] at hn
   simp only [hkl, if_true]
   obtain ⟨h4, h5, h6⟩ := h3 k hkl hn
   refine ⟨h4, hne1 _ (Nat.lt_of_lt_of_le (hxl k hkl hn) hb.size) h5, fun j hj hjk hnj => ?_⟩
   by_cases hjl : j < ls.length
   ·rw [getl_app1 hjl] at hnj
    simp only [hjl, if_true]
    exact h6 j hjl hjk hnj
   ·have e : j = ls.length := by simp at hj; omega
    subst e
    rw [getl_app2] at hnj
    simp only [Nat.lt_irrefl, if_false]
    have := hbn hnj; have := hxl k hkl hn; omega
  ·have e : k = ls.length := by simp at hk; omega
   subst e
   rw [getl_app2] at hn
   simp only [Nat.lt_irrefl, if_false]
   refine ⟨by have := hbn hn; omega, hne1 _ (hx.lt hn) (fun e => by have := hvl b e; have := hbn hn; omega), fun j hj hjk hnj => ?_⟩
   have hjl : j < ls.length := by simp at hj; omega
   rw [getl_app1 hjl] at hnj
   simp only [hjl, if_true]
   have := hbn hn; have := hxl j hjl hnj; omega
/-- The blocks that a list of lists stands in, and the one of the cell that holds it. -/
def OutF (OB : Nat) (v : Value) (ls : List (List Int)) (bk : Nat → Nat) (b : Nat) : Prop := b = OB ∨ v.ownBlock = some b ∨ ∃ k, k < ls.length ∧ getl ls k ≠ [] ∧ b = bk k
theorem Out2x.stay {B OB : Nat} {w w' : World} {v : Value} {ls : List (List Int)} {vs : List Value} {bk : Nat → Nat} (h : Out2x B w v ls vs bk) (hk : ∀ b, OutF OB v ls bk b → w'.heap[b]? = w.heap[b]?) : Out2x B w' v ls vs bk := by
 obtain ⟨h1, h2, h3⟩ := h
 refine ⟨⟨h1.1, ?_⟩, fun k hkl => ?_, h3⟩
 ·rcases h1.2 with h0 | ⟨g, cap, cur, rfl, h4, h5, h6⟩
  ·exact .inl h0
  ·exact .inr ⟨g, cap, cur, rfl, h4, by rw [hk g (.inr (.inl rfl))]; exact h5, h6⟩
 ·obtain ⟨rv, h4, h5⟩ := h2 k hkl
  exact ⟨rv, h4, h5.keep fun hn => hk _ (.inr (.inr ⟨k, hkl, hn, rfl⟩))⟩
theorem Out2x.lt {B OB : Nat} {w : World} {v : Value} {ls : List (List Int)} {vs : List Value} {bk : Nat → Nat} (h : Out2x B w v ls vs bk) (ho : OB < w.heap.size) : ∀ b, OutF OB v ls bk b → b < w.heap.size := by
 rintro b (rfl | h1 | ⟨k, h1, h2, rfl⟩)
 ·exact ho
 ·exact (h.1.lt _ h1).2
 ·obtain ⟨rv, _, h5⟩ := h.2.1 k h1
  exact h5.lt h2
/-- The blocks that a list of lists stands in. -/
def OutG (v : Value) (ls : List (List Int)) (bk : Nat → Nat) (b : Nat) : Prop := v.ownBlock = some b ∨ ∃ k, k < ls.length ∧ getl ls k ≠ [] ∧ b = bk k
theorem Out2x.lo {B : Nat} {w w' : World} {v : Value} {ls : List (List Int)} {vs : List Value} {bk : Nat → Nat} (h : Out2x B w v ls vs bk) (hk : ∀ b, OutG v ls bk b → w'.heap[b]? = w.heap[b]?) : Out2x B w' v ls vs bk := by
 obtain ⟨h1, h2, h3⟩ := h
 refine ⟨⟨h1.1, ?_⟩, fun k hkl => ?_, h3⟩
 ·rcases h1.2 with h0 | ⟨g, cap, cur, rfl, h4, h5, h6⟩
  ·exact .inl h0
  ·exact .inr ⟨g, cap, cur, rfl, h4, by rw [hk g (.inl rfl)]; exact h5, h6⟩
 ·obtain ⟨rv, h4, h5⟩ := h2 k hkl
  exact ⟨rv, h4, h5.keep fun hn => hk _ (.inr ⟨k, hkl, hn, rfl⟩)⟩
theorem OutG.push {b3 z : Nat} {v v' : Value} {ls : List (List Int)} {l : List Int} {bk : Nat → Nat} (hblk : v'.ownBlock = v.ownBlock ∨ ∃ g, v'.ownBlock = some g ∧ z ≤ g) (hb3 : l ≠ [] → z ≤ b3) :
  ∀ b, OutG v' (ls ++ [l]) (fun k => if k < ls.length then bk k else b3) b → OutG v ls bk b ∨ z ≤ b := by
 rintro b (h1 | ⟨k, h1, h2, rfl⟩)
 ·rcases hblk with e | ⟨g, e, hz⟩
  ·exact .inl (.inl (e ▸ h1))
  ·rw [e] at h1; cases h1; exact .inr hz
 ·by_cases hk : k < ls.length
  ·rw [getl_app1 hk] at h2
   simp only [hk, if_true]
   exact .inl (.inr ⟨k, hk, h2, rfl⟩)
  ·have e : k = ls.length := by simp at h1; omega
   subst e
   rw [getl_app2] at h2
   simp only [Nat.lt_irrefl, if_false]
   exact .inr (hb3 h2)
/-- Two lists of lists, made row by row: their values, and the blocks of their rows. -/
structure Two (B K : Nat) (w : World) (v1 v2 : Value) (l1 l2 : List (List Int)) (vs1 vs2 : List Value) (b1 b2 : Nat → Nat) : Prop where
 own1 : w.ownsRow B 44 1 v1 l1.length vs1
 own2 : w.ownsRow B 44 1 v2 l2.length vs2
 each1 : ∀ k, k < l1.length → ∃ rv, vs1[k]? = some rv ∧ X1 w rv (getl l1 k) (b1 k)
 each2 : ∀ k, k < l2.length → ∃ rv, vs2[k]? = some rv ∧ X1 w rv (getl l2 k) (b2 k)
 out1 : ∀ k, k < l1.length → getl l1 k ≠ [] → K < b1 k ∧ v1.ownBlock ≠ some (b1 k) ∧ v2.ownBlock ≠ some (b1 k)
 out2 : ∀ k, k < l2.length → getl l2 k ≠ [] → K < b2 k ∧ v1.ownBlock ≠ some (b2 k) ∧ v2.ownBlock ≠ some (b2 k)
 dis1 : ∀ j k, j < l1.length → k < l1.length → j ≠ k → getl l1 j ≠ [] → getl l1 k ≠ [] → b1 j ≠ b1 k
 dis2 : ∀ j k, j < l2.length → k < l2.length → j ≠ k → getl l2 j ≠ [] → getl l2 k ≠ [] → b2 j ≠ b2 k
 dis : ∀ j k, j < l1.length → k < l2.length → getl l1 j ≠ [] → getl l2 k ≠ [] → b1 j ≠ b2 k
 owns : ∀ g, v1.ownBlock = some g → v2.ownBlock ≠ some g
 exK : v1.ownBlock ≠ some K ∧ v2.ownBlock ≠ some K
 base : B ≤ K ∧ K < w.heap.size
theorem Two.swap {B K : Nat} {w : World} {v1 v2 : Value} {l1 l2 : List (List Int)} {vs1 vs2 : List Value} {b1 b2 : Nat → Nat} (h : Two B K w v1 v2 l1 l2 vs1 vs2 b1 b2) : Two B K w v2 v1 l2 l1 vs2 vs1 b2 b1 :=
 ⟨h.own2, h.own1, h.each2, h.each1, fun k hk hn => ⟨(h.out2 k hk hn).1, (h.out2 k hk hn).2.2, (h.out2 k hk hn).2.1⟩, fun k hk hn => ⟨(h.out1 k hk hn).1, (h.out1 k hk hn).2.2, (h.out1 k hk hn).2.1⟩, h.dis2, h.dis1, fun j k hj hk n1 n2 e => h.dis k j hk hj n2 n1 e.symm, fun g h1 h2 => h.owns g h2 h1, ⟨h.exK.2, h.exK.1⟩, h.base⟩
theorem Two.lt1 {B K : Nat} {w : World} {v1 v2 : Value} {l1 l2 : List (List Int)} {vs1 vs2 : List Value} {b1 b2 : Nat → Nat} (h : Two B K w v1 v2 l1 l2 vs1 vs2 b1 b2) {k : Nat} (hk : k < l1.length) (hn : getl l1 k ≠ []) : b1 k < w.heap.size := by
 obtain ⟨rv, _, hx⟩ := h.each1 k hk
 exact hx.lt hn
theorem Two.lt2 {B K : Nat} {w : World} {v1 v2 : Value} {l1 l2 : List (List Int)} {vs1 vs2 : List Value} {b1 b2 : Nat → Nat} (h : Two B K w v1 v2 l1 l2 vs1 vs2 b1 b2) {k : Nat} (hk : k < l2.length) (hn : getl l2 k ≠ []) : b2 k < w.heap.size := h.swap.lt1 hk hn
/-- New memory leaves them as they are. -/
theorem Two.below {B K : Nat} {w w' : World} {v1 v2 : Value} {l1 l2 : List (List Int)} {vs1 vs2 : List Value} {b1 b2 : Nat → Nat} (h : Two B K w v1 v2 l1 l2 vs1 vs2 b1 b2) (hb : Below w.heap.size w w') : Two B K w' v1 v2 l1 l2 vs1 vs2 b1 b2 :=
 { h with
   base := ⟨h.base.1, Nat.lt_of_lt_of_le h.base.2 hb.size⟩
   own1 := own_keep h.own1 hb
   own2 := own_keep h.own2 hb
   each1 := fun k hk => by
    obtain ⟨rv, h1, h2⟩ := h.each1 k hk
    exact ⟨rv, h1, h2.keep fun hn => hb.block _ (h2.lt hn)⟩
   each2 := fun k hk => by
    obtain ⟨rv, h1, h2⟩ := h.each2 k hk
    exact ⟨rv, h1, h2.keep fun hn => hb.block _ (h2.lt hn)⟩ }
/-- A change of block K, and of what lies ahead, leaves them as they are. -/
theorem Two.chg {B K : Nat} {w w' : World} {v1 v2 : Value} {l1 l2 : List (List Int)} {vs1 vs2 : List Value} {b1 b2 : Nat → Nat} (h : Two B K w v1 v2 l1 l2 vs1 vs2 b1 b2) (hc : Chg (fun b => b = K) w w') : Two B K w' v1 v2 l1 l2 vs1 vs2 b1 b2 :=
 { h with
   base := ⟨h.base.1, Nat.lt_of_lt_of_le h.base.2 hc.size⟩
   own1 := own_chg h.own1 hc (fun g hg hf => h.exK.1 (by rw [hg, show g = K from hf]))
   own2 := own_chg h.own2 hc (fun g hg hf => h.exK.2 (by rw [hg, show g = K from hf]))
   each1 := fun k hk => by
    obtain ⟨rv, h1, h2⟩ := h.each1 k hk
    exact ⟨rv, h1, h2.keep fun hn => hc.block _ (h2.lt hn) (fun hf => by have := (h.out1 k hk hn).1; omega)⟩
   each2 := fun k hk => by
    obtain ⟨rv, h1, h2⟩ := h.each2 k hk
    exact ⟨rv, h1, h2.keep fun hn => hc.block _ (h2.lt hn) (fun hf => by have := (h.out2 k hk hn).1; omega)⟩ }
/-- A change of older blocks leaves them as they are. -/
theorem Two.low {B K : Nat} {F : Nat → Prop} {w w' : World} {v1 v2 : Value} {l1 l2 : List (List Int)} {vs1 vs2 : List Value} {b1 b2 : Nat → Nat} (h : Two B K w v1 v2 l1 l2 vs1 vs2 b1 b2) (hc : Chg F w w') (hF : ∀ b, F b → b < B) : Two B K w' v1 v2 l1 l2 vs1 vs2 b1 b2 :=
 { h with
   base := ⟨h.base.1, Nat.lt_of_lt_of_le h.base.2 hc.size⟩
   own1 := own_chg h.own1 hc (fun g hg hf => by have := hF g hf; have := (h.own1.lt g hg).1; omega)
   own2 := own_chg h.own2 hc (fun g hg hf => by have := hF g hf; have := (h.own2.lt g hg).1; omega)
   each1 := fun k hk => by
    obtain ⟨rv, h1, h2⟩ := h.each1 k hk
    exact ⟨rv, h1, h2.keep fun hn => hc.block _ (h2.lt hn) (fun hf => by have := hF _ hf; have := (h.out1 k hk hn).1; have := h.base.1; omega)⟩
   each2 := fun k hk => by
    obtain ⟨rv, h1, h2⟩ := h.each2 k hk
    exact ⟨rv, h1, h2.keep fun hn => hc.block _ (h2.lt hn) (fun hf => by have := hF _ hf; have := (h.out2 k hk hn).1; have := h.base.1; omega)⟩ }
theorem Two.low2 {K : Nat} {F : Nat → Prop} {w w' : World} {v1 v2 : Value} {l1 l2 : List (List Int)} {vs1 vs2 : List Value} {b1 b2 : Nat → Nat} (h : Two K K w v1 v2 l1 l2 vs1 vs2 b1 b2) (hc : Chg F w w') (hF : ∀ b, F b → b ≤ K) : Two K K w' v1 v2 l1 l2 vs1 vs2 b1 b2 :=
 { h with
   base := ⟨h.base.1, Nat.lt_of_lt_of_le h.base.2 hc.size⟩
   own1 := own_chg h.own1 hc (fun g hg hf => by have h1 := hF g hf; have h2 := (h.own1.lt g hg).1; have e : g = K := by omega
                                                exact h.exK.1 (by rw [hg, e]))
   own2 := own_chg h.own2 hc (fun g hg hf => by have h1 := hF g hf; have h2 := (h.own2.lt g hg).1; have e : g = K := by omega
                                                exact h.exK.2 (by rw [hg, e]))
   each1 := fun k hk => by
    obtain ⟨rv, h1, h2⟩ := h.each1 k hk
    exact ⟨rv, h1, h2.keep fun hn => hc.block _ (h2.lt hn) (fun hf => by have := hF _ hf; have := (h.out1 k hk hn).1; omega)⟩
   each2 := fun k hk => by
    obtain ⟨rv, h1, h2⟩ := h.each2 k hk
    exact ⟨rv, h1, h2.keep fun hn => hc.block _ (h2.lt hn) (fun hf => by have := hF _ hf; have := (h.out2 k hk hn).1; omega)⟩ }
theorem Two.baseO {B B' K : Nat} {w : World} {v1 v2 : Value} {l1 l2 : List (List Int)} {vs1 vs2 : List Value} {b1 b2 : Nat → Nat} (h : Two B K w v1 v2 l1 l2 vs1 vs2 b1 b2) (hb : B' ≤ B) : Two B' K w v1 v2 l1 l2 vs1 vs2 b1 b2 :=
 { h with own1 := own_base h.own1 hb, own2 := own_base h.own2 hb, base := ⟨by have := h.base.1; omega, h.base.2⟩ }
/-- One row more in the first list. -/
theorem Two.push1 {B K : Nat} {w w1 : World} {v1 v2 v1' rv : Value} {l1 l2 : List (List Int)} {l : List Int} {b : Nat} {vs1 vs2 : List Value} {b1 b2 : Nat → Nat} (h : Two B K w v1 v2 l1 l2 vs1 vs2 b1 b2)
  (hx : X1 w rv l b) (hf : l ≠ [] → K < b ∧ v1.ownBlock ≠ some b ∧ v2.ownBlock ≠ some b ∧ (∀ k, k < l1.length → getl l1 k ≠ [] → b1 k ≠ b) ∧ (∀ k, k < l2.length → getl l2 k ≠ [] → b2 k ≠ b))
  (hown : w1.ownsRow B 44 1 v1' (l1.length + 1) (vs1 ++ [rv])) (hg : w.grownBy w1 v1.ownBlock) (hblk : v1'.ownBlock = v1.ownBlock ∨ ∃ g, v1'.ownBlock = some g ∧ w.heap.size ≤ g) :
  Two B K w1 v1' v2 (l1 ++ [l]) l2 (vs1 ++ [rv]) vs2 (fun k => if k < l1.length then b1 k else b) b2 := by
 have hne1 : ∀ c, c < w.heap.size → v1.ownBlock ≠ some c → v1'.ownBlock ≠ some c := fun c hc hn e => by
  rcases hblk with e1 | ⟨g, e1, hge⟩
  ·exact hn (e1.symm.trans e)
  ·rw [e] at e1; cases e1; omega
 have hkeep : ∀ c, c < w.heap.size → v1.ownBlock ≠ some c → w1.heap[c]? = w.heap[c]? := fun c hc hn => hg.block c hc (fun e => hn e.symm)
 have hvl := h.own1.1
 have hx1 : X1 w1 rv l b := hx.keep fun hn => hkeep b (hx.lt hn) (hf hn).2.1
 have hlen : ∀ k, k < (l1 ++ [l]).length → k < l1.length ∨ k = l1.length := fun k hk => by simp at hk; omega
 refine ⟨by simpa using hown, own_chg h.own2 ((Chg.refl (fun i => v1.ownBlock = some i) w).grown hg (fun g hg => .inl hg)) (fun g h1 h2 => h.owns g h2 h1), fun k hk => ?_, fun k hk => ?_, fun k hk hn => ?_, fun k hk hn => ?_, fun j k hj hk hjk nj nk => ?_, h.dis2, fun j k hj hk nj nk => ?_, fun g h1 h2 => ?_, ⟨hne1 _ h.base.2 h.exK.1, h.exK.2⟩, ⟨h.base.1, Nat.lt_of_lt_of_le h.base.2 hg.size⟩⟩
 ·rcases hlen k hk with hkl | rfl
  ·obtain ⟨rv', h4, h5⟩ := h.each1 k hkl
   refine ⟨rv', by rw [List.getElem?_append_left (by omega)]; exact h4, ?_⟩
   rw [getl_app1 hkl]
   simp only [hkl, if_true]
   exact h5.keep fun hn => hkeep _ (h5.lt hn) (h.out1 k hkl hn).2.1
  ·refine ⟨rv, by rw [List.getElem?_append_right (by omega)]; simp [show l1.length - vs1.length = 0 by omega], ?_⟩
   rw [getl_app2]
   simp only [Nat.lt_irrefl, if_false]
   exact hx1
 ·obtain ⟨rv', h4, h5⟩ := h.each2 k hk
  exact ⟨rv', h4, h5.keep fun hn => hkeep _ (h5.lt hn) (h.out2 k hk hn).2.1⟩
 ·rcases hlen k hk with hkl | rfl
  ·rw [getl_app1 hkl] at hn
   simp only [hkl, if_true]
   obtain ⟨g1, g2, g3⟩ := h.out1 k hkl hn
   exact ⟨g1, hne1 _ (h.lt1 hkl hn) g2, g3⟩
  ·rw [getl_app2] at hn
   simp only [Nat.lt_irrefl, if_false]
   obtain ⟨g1, g2, g3, _⟩ := hf hn
   exact ⟨g1, hne1 _ (hx.lt hn) g2, g3⟩
 ·obtain ⟨g1, g2, g3⟩ := h.out2 k hk hn
  exact ⟨g1, hne1 _ (h.lt2 hk hn) g2, g3⟩
 ·rcases hlen j hj with hjl | rfl
  ·rw [getl_app1 hjl] at nj
   rcases hlen k hk with hkl | rfl
   ·rw [getl_app1 hkl] at nk
    simp only [hjl, hkl, if_true]
    exact h.dis1 j k hjl hkl hjk nj nk
   ·rw [getl_app2] at nk
    simp only [hjl, if_true, Nat.lt_irrefl, if_false]
    exact (hf nk).2.2.2.1 j hjl nj
  ·rw [getl_app2] at nj
   rcases hlen k hk with hkl | rfl
   ·rw [getl_app1 hkl] at nk
    simp only [hkl, if_true, Nat.lt_irrefl, if_false]
    exact fun e => (hf nj).2.2.2.1 k hkl nk e.symm
   ·exact absurd rfl hjk
 ·rcases hlen j hj with hjl | rfl
  ·rw [getl_app1 hjl] at nj
   simp only [hjl, if_true]
   exact h.dis j k hjl hk nj nk
  ·rw [getl_app2] at nj
   simp only [Nat.lt_irrefl, if_false]
   exact fun e => (hf nj).2.2.2.2 k hk nk e.symm
 ·rcases hblk with e | ⟨g', e, hge⟩
  ·exact h.owns g (e.symm.trans h1) h2
  ·rw [h1] at e
   cases e
   have := (h.own2.lt g h2).2
   omega
/-- One row more in the second list. -/
theorem Two.push2 {B K : Nat} {w w1 : World} {v1 v2 v2' rv : Value} {l1 l2 : List (List Int)} {l : List Int} {b : Nat} {vs1 vs2 : List Value} {b1 b2 : Nat → Nat} (h : Two B K w v1 v2 l1 l2 vs1 vs2 b1 b2)
  (hx : X1 w rv l b) (hf : l ≠ [] → K < b ∧ v1.ownBlock ≠ some b ∧ v2.ownBlock ≠ some b ∧ (∀ k, k < l1.length → getl l1 k ≠ [] → b1 k ≠ b) ∧ (∀ k, k < l2.length → getl l2 k ≠ [] → b2 k ≠ b))
  (hown : w1.ownsRow B 44 1 v2' (l2.length + 1) (vs2 ++ [rv])) (hg : w.grownBy w1 v2.ownBlock) (hblk : v2'.ownBlock = v2.ownBlock ∨ ∃ g, v2'.ownBlock = some g ∧ w.heap.size ≤ g) :
  Two B K w1 v1 v2' l1 (l2 ++ [l]) vs1 (vs2 ++ [rv]) b1 (fun k => if k < l2.length then b2 k else b) :=
 (h.swap.push1 hx (fun hn => by obtain ⟨g1, g2, g3, g4, g5⟩ := hf hn; exact ⟨g1, g3, g2, g5, g4⟩) hown hg hblk).swap
/-- What lies in new memory can be a row. -/
theorem Two.fresh {B K : Nat} {w : World} {v1 v2 : Value} {l1 l2 : List (List Int)} {vs1 vs2 : List Value} {b1 b2 : Nat → Nat} (h : Two B K w v1 v2 l1 l2 vs1 vs2 b1 b2) {b : Nat} (hb : w.heap.size ≤ b) :
  K < b ∧ v1.ownBlock ≠ some b ∧ v2.ownBlock ≠ some b ∧ (∀ k, k < l1.length → getl l1 k ≠ [] → b1 k ≠ b) ∧ (∀ k, k < l2.length → getl l2 k ≠ [] → b2 k ≠ b) :=
 ⟨by have := h.base.2; omega, fun e => by have := (h.own1.lt b e).2; omega, fun e => by have := (h.own2.lt b e).2; omega, fun k hk hn e => by have := h.lt1 hk hn; omega, fun k hk hn e => by have := h.lt2 hk hn; omega⟩
theorem Two.out {B K : Nat} {w : World} {v1 v2 : Value} {l1 l2 : List (List Int)} {vs1 vs2 : List Value} {b1 b2 : Nat → Nat} (h : Two B K w v1 v2 l1 l2 vs1 vs2 b1 b2) : Out2 B w v1 l1 ∧ Out2 B w v2 l2 :=
 ⟨⟨vs1, b1, h.own1, h.each1, fun k hk hn => ⟨by have := (h.out1 k hk hn).1; have := h.base.1; omega, (h.out1 k hk hn).2.1, fun j hj hjk nj => h.dis1 j k hj hk hjk nj hn⟩⟩,
  ⟨vs2, b2, h.own2, h.each2, fun k hk hn => ⟨by have := (h.out2 k hk hn).1; have := h.base.1; omega, (h.out2 k hk hn).2.2, fun j hj hjk nj => h.dis2 j k hj hk hjk nj hn⟩⟩⟩
/-- While a row is put behind each of both lists, in whatever order; c: the row that is cloned, once it is. -/
structure KR (B K : Nat) (wr : World) (v1 v2 : Value) (w : World) (u1 u2 : Value) (n1 n2 : Nat) (xs1 xs2 : List Value) (cl : Option (Value × Nat)) (c : List Int) : Prop where
 chg : Chg (fun b => v1.ownBlock = some b ∨ v2.ownBlock = some b) wr w
 own1 : w.ownsRow B 44 1 u1 n1 xs1
 own2 : w.ownsRow B 44 1 u2 n2 xs2
 bl1 : u1.ownBlock = v1.ownBlock ∨ ∃ g, u1.ownBlock = some g ∧ wr.heap.size ≤ g
 bl2 : u2.ownBlock = v2.ownBlock ∨ ∃ g, u2.ownBlock = some g ∧ wr.heap.size ≤ g
 dis : ∀ g, u1.ownBlock = some g → u2.ownBlock ≠ some g
 cln : ∀ p, cl = some p → X1 w p.1 c p.2 ∧ (c ≠ [] → wr.heap.size ≤ p.2 ∧ u1.ownBlock ≠ some p.2 ∧ u2.ownBlock ≠ some p.2)
theorem KR.start {B K : Nat} {wr : World} {v1 v2 : Value} {l1 l2 : List (List Int)} {vs1 vs2 : List Value} {b1 b2 : Nat → Nat} (h : Two B K wr v1 v2 l1 l2 vs1 vs2 b1 b2) (c : List Int) : KR B K wr v1 v2 wr v1 v2 l1.length l2.length vs1 vs2 none c :=
 ⟨Chg.refl _ _, h.own1, h.own2, .inl rfl, .inl rfl, h.owns, fun p hp => by cases hp⟩
section
variable {B K : Nat} {wr w w' : World} {v1 v2 u1 u2 : Value} {n1 n2 : Nat} {xs1 xs2 : List Value} {cl : Option (Value × Nat)} {c : List Int}
theorem KR.below (h : KR B K wr v1 v2 w u1 u2 n1 n2 xs1 xs2 cl c) (hb : Below w.heap.size w w') : KR B K wr v1 v2 w' u1 u2 n1 n2 xs1 xs2 cl c :=
 { h with
   chg := h.chg.then_below hb
   own1 := own_keep h.own1 hb
   own2 := own_keep h.own2 hb
   cln := fun p hp => by
    obtain ⟨h1, h2⟩ := h.cln p hp
    exact ⟨h1.keep fun hn => hb.block _ (h1.lt hn), h2⟩ }
theorem KR.clone (h : KR B K wr v1 v2 w u1 u2 n1 n2 xs1 xs2 none c) (hb : Below w.heap.size w w') {cv : Value} {bc : Nat} (hx : X1 w' cv c bc) (hn : c ≠ [] → w.heap.size ≤ bc) : KR B K wr v1 v2 w' u1 u2 n1 n2 xs1 xs2 (some (cv, bc)) c :=
 { h.below hb with
   cln := fun p hp => by
    cases hp
    exact ⟨hx, fun hne => ⟨by have := h.chg.size; have := hn hne; show wr.heap.size ≤ bc; omega, fun e => by have := (h.own1.lt bc e).2; have := hn hne; omega, fun e => by have := (h.own2.lt bc e).2; have := hn hne; omega⟩⟩ }
theorem KR.app1 (h : KR B K wr v1 v2 w u1 u2 n1 n2 xs1 xs2 cl c) (hu : u1 = v1) {x u1' : Value} (hown : w'.ownsRow B 44 1 u1' (n1 + 1) (xs1 ++ [x])) (hg : w.grownBy w' u1.ownBlock) (hblk : u1'.ownBlock = u1.ownBlock ∨ ∃ g, u1'.ownBlock = some g ∧ w.heap.size ≤ g) :
  KR B K wr v1 v2 w' u1' u2 (n1 + 1) n2 (xs1 ++ [x]) xs2 cl c := by
 have hz := h.chg.size
 refine ⟨h.chg.grown hg (fun g e => .inl (.inl (by rw [← hu]; exact e))), hown, own_chg h.own2 ((Chg.refl (fun i => u1.ownBlock = some i) w).grown hg (fun g hg => .inl hg)) (fun g h1 h2 => h.dis g h2 h1), ?_, h.bl2, fun g h1 h2 => ?_, fun p hp => ?_⟩
 ·rcases hblk with e | ⟨g, e, hge⟩
  ·exact .inl (by rw [e, hu])
  ·exact .inr ⟨g, e, by omega⟩
 ·rcases hblk with e | ⟨g', e, hge⟩
  ·exact h.dis g (e.symm.trans h1) h2
  ·rw [h1] at e; cases e
   have := (h.own2.lt g h2).2; omega
 ·obtain ⟨h1, h2⟩ := h.cln p hp
  refine ⟨h1.keep fun hn => hg.block _ (h1.lt hn) (fun e => (h2 hn).2.1 e.symm), fun hn => ⟨(h2 hn).1, fun e => ?_, (h2 hn).2.2⟩⟩
  rcases hblk with e' | ⟨g', e', hge⟩
  ·exact (h2 hn).2.1 (e'.symm.trans e)
  ·rw [e] at e'; cases e'
   have := h1.lt hn; omega
theorem KR.app2 (h : KR B K wr v1 v2 w u1 u2 n1 n2 xs1 xs2 cl c) (hu : u2 = v2) {x u2' : Value} (hown : w'.ownsRow B 44 1 u2' (n2 + 1) (xs2 ++ [x])) (hg : w.grownBy w' u2.ownBlock) (hblk : u2'.ownBlock = u2.ownBlock ∨ ∃ g, u2'.ownBlock = some g ∧ w.heap.size ≤ g) :
  KR B K wr v1 v2 w' u1 u2' n1 (n2 + 1) xs1 (xs2 ++ [x]) cl c := by
 have hz := h.chg.size
 refine ⟨h.chg.grown hg (fun g e => .inl (.inr (by rw [← hu]; exact e))), own_chg h.own1 ((Chg.refl (fun i => u2.ownBlock = some i) w).grown hg (fun g hg => .inl hg)) (fun g h1 h2 => h.dis g h1 h2), hown, h.bl1, ?_, fun g h1 h2 => ?_, fun p hp => ?_⟩
 ·rcases hblk with e | ⟨g, e, hge⟩
  ·exact .inl (by rw [e, hu])
  ·exact .inr ⟨g, e, by omega⟩
 ·rcases hblk with e | ⟨g', e, hge⟩
  ·exact h.dis g h1 (e.symm.trans h2)
  ·rw [h2] at e; cases e
   have := (h.own1.lt g h1).2; omega
 ·obtain ⟨h1, h2⟩ := h.cln p hp
  refine ⟨h1.keep fun hn => hg.block _ (h1.lt hn) (fun e => (h2 hn).2.2 e.symm), fun hn => ⟨(h2 hn).1, (h2 hn).2.1, fun e => ?_⟩⟩
  rcases hblk with e' | ⟨g', e', hge⟩
  ·exact (h2 hn).2.2 (e'.symm.trans e)
  ·rw [e] at e'; cases e'
   have := h1.lt hn; omega
/-- A block made since the rows' world is not one of those that an append turns, while nothing of it was appended. -/
theorem KR.lit (h : KR B K wr v1 v2 w u1 u2 n1 n2 xs1 xs2 cl c) (hw : ∀ g, v1.ownBlock = some g ∨ v2.ownBlock = some g → g < wr.heap.size) {u : Value} (hu : u = v1 ∨ u = v2) {b : Nat} {o : Obj} (hg : w.grownBy w' u.ownBlock) (hb : wr.heap.size ≤ b) (hh : w.heap[b]? = some o) : w'.heap[b]? = some o := by
 rw [hg.block b (lt_of_heap hh) (fun e => ?_)]
 ·exact hh
 ·have := hw b (by rcases hu with rfl | rfl; exact .inl e.symm; exact .inr e.symm)
  omega
end
/-- Both rows are put. -/
theorem KR.done {B K : Nat} {wr w : World} {v1 v2 u1 u2 ev cv : Value} {l1 l2 : List (List Int)} {vs1 vs2 : List Value} {b1 b2 : Nat → Nat} {e c : List Int} {be bc : Nat} (h0 : Two B K wr v1 v2 l1 l2 vs1 vs2 b1 b2)
  (h : KR B K wr v1 v2 w u1 u2 (l1.length + 1) (l2.length + 1) (vs1 ++ [ev]) (vs2 ++ [cv]) (some (cv, bc)) c)
  (hx : X1 wr ev e be) (hf : e ≠ [] → K < be ∧ v1.ownBlock ≠ some be ∧ v2.ownBlock ≠ some be ∧ (∀ k, k < l1.length → getl l1 k ≠ [] → b1 k ≠ be) ∧ (∀ k, k < l2.length → getl l2 k ≠ [] → b2 k ≠ be)) :
  Two B K w u1 u2 (l1 ++ [e]) (l2 ++ [c]) (vs1 ++ [ev]) (vs2 ++ [cv]) (fun k => if k < l1.length then b1 k else be) (fun k => if k < l2.length then b2 k else bc) := by
 have hz := h.chg.size
 obtain ⟨hc1, hc2⟩ := h.cln _ rfl
 dsimp only at hc1 hc2
 have hvl1 := h0.own1.1
 have hvl2 := h0.own2.1
 have hkeep : ∀ b, b < wr.heap.size → v1.ownBlock ≠ some b → v2.ownBlock ≠ some b → w.heap[b]? = wr.heap[b]? := fun b hb n1 n2 => h.chg.block b hb (fun hf => by rcases hf with e | e; exact n1 e; exact n2 e)
 have hu1 : ∀ b, b < wr.heap.size → v1.ownBlock ≠ some b → u1.ownBlock ≠ some b := fun b hb hn e => by
  rcases h.bl1 with e1 | ⟨g, e1, hge⟩
  ·exact hn (e1.symm.trans e)
  ·rw [e] at e1; cases e1; omega
 have hu2 : ∀ b, b < wr.heap.size → v2.ownBlock ≠ some b → u2.ownBlock ≠ some b := fun b hb hn e => by
  rcases h.bl2 with e1 | ⟨g, e1, hge⟩
  ·exact hn (e1.symm.trans e)
  ·rw [e] at e1; cases e1; omega
 have hxw : X1 w ev e be := hx.keep fun hn => hkeep be (hx.lt hn) (hf hn).2.1 (hf hn).2.2.1
 have hlen1 : ∀ k, k < (l1 ++ [e]).length → k < l1.length ∨ k = l1.length := fun k hk => by simp at hk; omega
 have hlen2 : ∀ k, k < (l2 ++ [c]).length → k < l2.length ∨ k = l2.length := fun k hk => by simp at hk; omega
 refine ⟨by simpa using h.own1, by simpa using h.own2, fun k hk => ?_, fun k hk => ?_, fun k hk hn => ?_, fun k hk hn => ?_, fun j k hj hk hjk nj nk => ?_, fun j k hj hk hjk nj nk => ?_, fun j k hj hk nj nk => ?_, h.dis, ⟨hu1 _ h0.base.2 h0.exK.1, hu2 _ h0.base.2 h0.exK.2⟩, ⟨h0.base.1, Nat.lt_of_lt_of_le h0.base.2 hz⟩⟩
 ·rcases hlen1 k hk with hkl | rfl
  ·obtain ⟨rv', h4, h5⟩ := h0.each1 k hkl
   refine ⟨rv', by rw [List.getElem?_append_left (by omega)]; exact h4, ?_⟩
   rw [getl_app1 hkl]
   simp only [hkl, if_true]
   exact h5.keep fun hn => hkeep _ (h5.lt hn) (h0.out1 k hkl hn).2.1 (h0.out1 k hkl hn).2.2
  ·refine ⟨ev, by rw [List.getElem?_append_right (by omega)]; simp [show l1.length - vs1.length = 0 by omega], ?_⟩
   rw [getl_app2]
   simp only [Nat.lt_irrefl, if_false]
   exact hxw
 ·rcases hlen2 k hk with hkl | rfl
  ·obtain ⟨rv', h4, h5⟩ := h0.each2 k hkl
   refine ⟨rv', by rw [List.getElem?_append_left (by omega)]; exact h4, ?_⟩
   rw [getl_app1 hkl]
   simp only [hkl, if_true]
   exact h5.keep fun hn => hkeep _ (h5.lt hn) (h0.out2 k hkl hn).2.1 (h0.out2 k hkl hn).2.2
  ·refine ⟨cv, by rw [List.getElem?_append_right (by omega)]; simp [show l2.length - vs2.length = 0 by omega], ?_⟩
   rw [getl_app2]
   simp only [Nat.lt_irrefl, if_false]
   exact hc1
 ·rcases hlen1 k hk with hkl | rfl
  ·rw [getl_app1 hkl] at hn
   simp only [hkl, if_true]
   obtain ⟨g1, g2, g3⟩ := h0.out1 k hkl hn
   exact ⟨g1, hu1 _ (h0.lt1 hkl hn) g2, hu2 _ (h0.lt1 hkl hn) g3⟩
  ·rw [getl_app2] at hn
   simp only [Nat.lt_irrefl, if_false]
   obtain ⟨g1, g2, g3, _⟩ := hf hn
   exact ⟨g1, hu1 _ (hx.lt hn) g2, hu2 _ (hx.lt hn) g3⟩
 ·rcases hlen2 k hk with hkl | rfl
  ·rw [getl_app1 hkl] at hn
   simp only [hkl, if_true]
   obtain ⟨g1, g2, g3⟩ := h0.out2 k hkl hn
   exact ⟨g1, hu1 _ (h0.lt2 hkl hn) g2, hu2 _ (h0.lt2 hkl hn) g3⟩
  ·rw [getl_app2] at hn
   simp only [Nat.lt_irrefl, if_false]
   obtain ⟨g1, g2, g3⟩ := hc2 hn
   exact ⟨by have := h0.base.2; omega, g2, g3⟩
 ·rcases hlen1 j hj with hjl | rfl
  ·rw [getl_app1 hjl] at nj
   rcases hlen1 k hk with hkl | rfl
   ·rw [getl_app1 hkl] at nk
    simp only [hjl, hkl, if_true]
    exact h0.dis1 j k hjl hkl hjk nj nk
   ·rw [getl_app2] at nk
    simp only [hjl, if_true, Nat.lt_irrefl, if_false]
    exact (hf nk).2.2.2.1 j hjl nj
  ·rw [getl_app2] at nj
   rcases hlen1 k hk with hkl | rfl
   ·rw [getl_app1 hkl] at nk
    simp only [hkl, if_true, Nat.lt_irrefl, if_false]
    exact fun e => (hf nj).2.2.2.1 k hkl nk e.symm
   ·exact absurd rfl hjk
 ·rcases hlen2 j hj with hjl | rfl
  ·rw [getl_app1 hjl] at nj
   rcases hlen2 k hk with hkl | rfl
   ·rw [getl_app1 hkl] at nk
    simp only [hjl, hkl, if_true]
    exact h0.dis2 j k hjl hkl hjk nj nk
   ·rw [getl_app2] at nk
    simp only [hjl, if_true, Nat.lt_irrefl, if_false]
    have := h0.lt2 hjl nj; have := (hc2 nk).1; omega
  ·rw [getl_app2] at nj
   rcases hlen2 k hk with hkl | rfl
   ·rw [getl_app1 hkl] at nk
    simp only [hkl, if_true, Nat.lt_irrefl, if_false]
    have := h0.lt2 hkl nk; have := (hc2 nj).1; omega
   ·exact absurd rfl hjk
 ·rcases hlen1 j hj with hjl | rfl
  ·rw [getl_app1 hjl] at nj
   rcases hlen2 k hk with hkl | rfl
   ·rw [getl_app1 hkl] at nk
    simp only [hjl, hkl, if_true]
    exact h0.dis j k hjl hkl nj nk
   ·rw [getl_app2] at nk
    simp only [hjl, if_true, Nat.lt_irrefl, if_false]
    have := h0.lt1 hjl nj; have := (hc2 nk).1; omega
  ·rw [getl_app2] at nj
   rcases hlen2 k hk with hkl | rfl
   ·rw [getl_app1 hkl] at nk
    simp only [hkl, if_true, Nat.lt_irrefl, if_false]
    exact fun e => (hf nj).2.2.2.2 k hkl nk e.symm
   ·rw [getl_app2] at nk
    simp only [Nat.lt_irrefl, if_false]
    have := hx.lt nj; have := (hc2 nk).1; omega
end Go.Proofs.YtmjplkbmhdkggaaGreat
