/- Plain law: a system with more different rows than keys has no design; a chain has at most as many rows as there are different ones. No program here. No conditions. -/
import Derived.Shelf.SlSortCmp.Insertion
import Derived.Shelf.SlSortCmp.SiftDown1
import Derived.Shelf.SlSortCmp.HeapSort1
import Derived.Shelf.SlSortCmp.Insertion1
import Derived.Shelf.SlSortCmp.Median1
import Derived.Shelf.SlSortCmp.Pivot1
import Derived.Shelf.SlSortCmp.ReverseRange1
import Derived.Shelf.SlSortCmp.PartialInsertion1
import Derived.Shelf.SlSortCmp.PartitionEqual1
import Derived.Shelf.SlSortCmp.Partition1
import Derived.Shelf.SlSortCmp.Pdq1
import Derived.Shelf.SlSortCmp.Whole1
import Derived.Shelf.SlSortCmp.NoneTotal
import Derived.Ground.SlsfProg
import Derived.Test.YtmaefilliggjiaaGreatProg
import Derived.Test.YtmaefilliggjiaaGreatMDraw32
import Derived.Test.YtmaefilliggjiaaGreatMGoC
import Derived.Test.YtmaefilliggjiaaGreatMTable
import Derived.Test.YtmaefilliggjiaaGreatMLib
import Derived.Test.YtmaefilliggjiaaGreatMShelf0
namespace Go.Proofs.YtmaefilliggjiaaGreat
open Go.RowKit
set_option linter.unusedVariables false
set_option linter.unusedSimpArgs false
theorem pigeon {α β : Type} {R : α → β → Prop} : ∀ (a : List α) (b : List β), a.Nodup → (∀ x ∈ a, ∃ y ∈ b, R x y) → (∀ x x' y, x ∈ a → x' ∈ a → R x y → R x' y → x = x') → a.length ≤ b.length
 | [], b, _, _, _ => Nat.zero_le _
 | x :: a, b, hn, h1, h2 => by
   rw [List.nodup_cons] at hn
   obtain ⟨y, hy, hxy⟩ := h1 x (List.mem_cons_self ..)
   obtain ⟨b1, b2, hb⟩ := List.append_of_mem hy
   have ih := pigeon a (b1 ++ b2) hn.2 (fun x' hx' => by
    obtain ⟨y', hy', hxy'⟩ := h1 x' (List.mem_cons_of_mem _ hx')
    refine ⟨y', ?_, hxy'⟩
    rw [hb] at hy'
    rcases List.mem_append.1 hy' with h | h
    ·exact List.mem_append.2 (.inl h)
    ·rcases List.mem_cons.1 h with h | h
     ·subst h
      have e := h2 x x' y' (List.mem_cons_self ..) (List.mem_cons_of_mem _ hx') hxy hxy'
      exact absurd (e ▸ hx') hn.1
     ·exact List.mem_append.2 (.inr h)) (fun u u' y hu hu' => h2 u u' y (List.mem_cons_of_mem _ hu) (List.mem_cons_of_mem _ hu'))
   rw [hb]
   simp only [List.length_append, List.length_cons] at ih ⊢
   omega
theorem dd_diff {t : List (List Int)} : ∀ k, k ≤ t.length → (ddTo t k).length = diffTo t k
 | 0, _ => rfl
 | k + 1, h => by
   have ih := dd_diff (t := t) k (by omega)
   have e : hasL (ddTo t k) (getl t k) = hasL (t.take k) (getl t k) := by
    rw [Bool.eq_iff_iff, hasL_iff, hasL_iff, mem_ddTo]
    constructor
    ·rintro ⟨i, h1, h2⟩
     rw [h2, ← getl_take (n := k) h1]
     exact getl_mem (by rw [List.length_take]; omega)
    ·intro h1
     obtain ⟨i, hi, e⟩ := List.getElem_of_mem h1
     rw [List.length_take] at hi
     refine ⟨i, by omega, ?_⟩
     rw [← e, ← getl_eq (by rw [List.length_take]; omega), getl_take (by omega)]
   unfold ddTo diffTo
   rw [e]
   split
   ·rw [ih]; rfl
   ·rw [List.length_append, ih]; rfl
theorem mem_doorCuts2 {t cuts : List (List Int)} {d k i : Nat} (hi : i < k) (h : geti (getl t i) d = 1) : getl cuts i ∈ doorCuts t cuts d k := by
 rw [doorCuts_map, List.mem_map]
 exact ⟨_, mem_rowsF.2 ⟨i, hi, rfl, h⟩, by simp⟩
/-- Rows of a design with the same key are the same. -/
theorem same_key {m : Mk} {t d : List (List Int)} (hd : designB m t d = true) {i j : Nat} (hi : i < t.length) (hj : j < t.length) (he : getl d i = getl d j) : getl t i = getl t j := by
 obtain ⟨hcc, hf⟩ := designB_ok.1 hd
 obtain ⟨hs, hl, hk⟩ := cutC_ok.1 hcc
 have hf := List.eq_nil_of_length_eq_zero hf
 have T := tab_of (isSys_parts hs).2.1
 have one : ∀ i j, i < t.length → j < t.length → getl d i = getl d j → ∀ k, k < (getl t 0).length → geti (getl t i) k = 1 → geti (getl t j) k = 1 := by
  intro i j hi hj he k hkk h1
  rcases T.bits j hj k (by rw [T.len j hj]; exact hkk) with h0 | h0
  ·have hop : opensB (getll (locksTo m.c.toNat t d (getl t 0).length) k) (getl d j) = true := by
    rw [locksTo_get hkk, opensB_iff]
    intro c hc
    have hlen := (isKey_iff.1 (allKeys_iff.1 hk j (by omega))).1
    refine (mem_lock (by omega)).2 ⟨getl d i, mem_doorCuts2 (by omega) h1, by rw [he]⟩
   have : [(j : Int), (k : Int)] ∈ falseL m.c.toNat t d := mem_falseRows.2 ⟨j, k, by omega, hkk, rfl, h0, hop⟩
   rw [hf] at this; cases this
  ·exact h0
 refine list_ext (by rw [T.len i hi, T.len j hj]) fun k hk => ?_
 rw [T.len i hi] at hk
 have h1 := one i j hi hj he k hk
 have h2 := one j i hj hi he.symm k hk
 rcases T.bits i hi k (by rw [T.len i hi]; exact hk) with e | e
 ·rcases T.bits j hj k (by rw [T.len j hj]; exact hk) with e' | e'
  ·rw [e, e']
  ·have := h2 e'; omega
 ·rw [e, h1 e]
theorem design_keys {m : Mk} {t d : List (List Int)} (hd : designB m t d = true) : diffR t ≤ (keysOf m).length := by
 obtain ⟨hcc, hf⟩ := designB_ok.1 hd
 obtain ⟨hs, hl, hk⟩ := cutC_ok.1 hcc
 have hc : 0 ≤ m.c := by have := Mk.ok_iff.1 (PartOk.nil hs).fits.ok; omega
 unfold diffR
 rw [← dd_diff t.length (Nat.le_refl _)]
 refine pigeon (R := fun x y => ∃ i, i < t.length ∧ x = getl t i ∧ y = getl d i) _ _ (ddTo_nodup _ _) (fun x hx => ?_) ?_
 ·obtain ⟨i, hi, rfl⟩ := mem_ddTo.1 hx
  exact ⟨getl d i, (mem_keysOf hc).2 (allKeys_iff.1 hk i (by omega)), i, hi, rfl, rfl⟩
 ·rintro x x' y _ _ ⟨i, hi, rfl, e⟩ ⟨j, hj, rfl, e'⟩
  exact same_key hd hi hj (e.symm.trans e')
theorem tight_law {m : Mk} {t : List (List Int)} {limit : Int} (h : tightAns m t = (true, 0)) : (findAns m t [] limit).2.2 ≠ 0 := by
 intro h0
 obtain ⟨d, k, c, hf⟩ : ∃ d k c, findAns m t [] limit = (d, k, c) := ⟨_, _, _, rfl⟩
 rw [hf] at h0
 have h0 : c = 0 := h0
 subst h0
 have hd := (find_law hf).1
 have hs := (cutC_ok.1 (designB_ok.1 hd).1).1
 have hk := design_keys hd
 have h1 : decide ((spareAns m t).1 < 0) = true := congrArg Prod.fst h
 unfold spareAns at h1
 rw [if_pos hs] at h1
 have := of_decide_eq_true h1
 simp only at this
 omega
theorem tight_spare {m : Mk} {t : List (List Int)} : (tightAns m t).1 = decide ((spareAns m t).1 < 0) ∧ (tightAns m t).2 = (spareAns m t).2 := ⟨rfl, rfl⟩
/-! ### Chains -/
theorem in_iff {a b : List Int} : ∀ k, inTo a b k = true ↔ ∀ j, j < k → geti a j ≤ geti b j
 | 0 => by simp [inTo]
 | k + 1 => by
   unfold inTo
   rw [Bool.and_eq_true, decide_eq_true_iff, in_iff k]
   constructor
   ·rintro ⟨h1, h2⟩ j hj
    by_cases e : j = k
    ·subst e; exact h2
    ·exact h1 j (by omega)
   ·intro h
    exact ⟨fun j hj => h j (by omega), h k (by omega)⟩
/-- How many different rows are in row r. -/
def insideL (t : List (List Int)) (x : List Int) : List (List Int) := (ddTo t t.length).filter fun y => inR y x
theorem ch_inside {t : List (List Int)} (T : Tab t) : ∀ (f r : Nat), r < t.length → chF t f r ≤ ((insideL t (getl t r)).length : Int) := by
 have hself : ∀ r, r < t.length → getl t r ∈ insideL t (getl t r) := fun r hr => by
  unfold insideL
  rw [List.mem_filter]
  refine ⟨mem_ddTo.2 ⟨r, hr, rfl⟩, ?_⟩
  unfold inR
  rw [in_iff]
  exact fun j _ => Int.le_refl _
 have hone : ∀ r, r < t.length → 1 ≤ (insideL t (getl t r)).length := fun r hr => List.length_pos_of_mem (hself r hr)
 intro f
 induction f with
 | zero =>
   intro r hr
   have := hone r hr
   show (1 : Int) ≤ _
   omega
 | succ f ih =>
   intro r hr
   show mxTo (strictB t r) (chF t f) t.length + 1 ≤ _
   rcases (mxTo_char (p := strictB t r) (g := chF t f) t.length).2.2 with h | ⟨i, hi, hp, h⟩
   ·have := hone r hr
    omega
   ·have h1 := ih i hi
    have h2 : (insideL t (getl t i)).length + 1 ≤ (insideL t (getl t r)).length := by
     unfold strictB at hp
     rw [Bool.and_eq_true, Bool.not_eq_true', decide_eq_false_iff_not] at hp
     have hli := T.len i hi
     have hlr := T.len r hr
     have hp1 := hp.1
     unfold inR at hp1
     rw [in_iff] at hp1
     have := pigeon (R := fun x y => x = y) (getl t r :: insideL t (getl t i)) (insideL t (getl t r)) (List.nodup_cons.2 ⟨fun hm => ?_, List.Nodup.sublist List.filter_sublist (ddTo_nodup _ _)⟩) (fun x hx => ⟨x, ?_, rfl⟩) (fun x x' y _ _ e e' => e.trans e'.symm)
     ·simpa using this
     ·unfold insideL at hm
      rw [List.mem_filter] at hm
      have h3 := hm.2
      unfold inR at h3
      rw [in_iff] at h3
      exact hp.2 (list_ext (by omega) fun j hj => by
       have a1 := hp1 j hj
       have a2 := h3 j (by omega)
       omega)
     ·rcases List.mem_cons.1 hx with rfl | hx
      ·exact hself r hr
      ·unfold insideL at hx ⊢
       rw [List.mem_filter] at hx ⊢
       refine ⟨hx.1, ?_⟩
       obtain ⟨u, hu, rfl⟩ := mem_ddTo.1 hx.1
       have h3 := hx.2
       have hlu := T.len u hu
       unfold inR at h3 ⊢
       rw [in_iff] at h3 ⊢
       intro j hj
       have a1 := h3 j hj
       have a2 := hp1 j (by omega)
       omega
    omega
theorem chain_law {t : List (List Int)} (h : isTab t = true) : 1 ≤ longest t ∧ longest t ≤ (diffR t : Int) := by
 have T := tab_of h
 have hl : 0 < t.length := by have := (isTab_iff.1 h).1; omega
 obtain ⟨h0, h1, h2⟩ := mxTo_char (p := fun _ => true) (g := ch t) t.length
 constructor
 ·have := h1 0 hl rfl
  have := (ch_bound t 0).1
  unfold longest
  omega
 ·unfold longest diffR
  rw [← dd_diff t.length (Nat.le_refl _)]
  rcases h2 with h2 | ⟨i, hi, _, h2⟩
  ·omega
  ·rw [h2]
   have h3 := ch_inside T 12 i hi
   have h4 : (insideL t (getl t i)).length ≤ (ddTo t t.length).length := List.length_filter_le _ _
   unfold ch
   omega
theorem chain_codes (t : List (List Int)) : (longAns t).2 = (diffAns t).2 ∧ ((longAns t).2 = 0 → 1 ≤ (longAns t).1 ∧ (longAns t).1 ≤ (diffAns t).1) := by
 unfold longAns diffAns
 cases h : isTab t
 ·exact ⟨rfl, fun h => by cases h⟩
 ·exact ⟨rfl, fun _ => chain_law h⟩
set_option maxRecDepth 100000 in
set_option maxHeartbeats 1000000 in
theorem FindDesign_any {S : Nat → Prop} (m : Mk) (u : Value) (t : List (List Int)) (limit : Int) (W : World) (h : V2 S W u t) :
  Calls Tryz.prog 54 #[.agg #[.int .i64 m.c, .int .i64 m.d, .int .i64 m.s, .int .i64 m.e, .int .i64 m.l, u], .int .i64 limit] W fun e' w' => ∃ v', e' = .returned (.tuple #[v', .int .i64 (findAns m t [] limit).2.1, .int .i64 (findAns m t [] limit).2.2]) ∧ F2 W.heap.size w' v' (findAns m t [] limit).1 ∧ Below W.heap.size W w' := by
 obtain ⟨a, c, rfl, hmx⟩ := h.form
 obtain ⟨W1, hW1, hB01, hz01, HZ01, hc01, hh01⟩ := box_facts W #[.int .i64 m.c, .int .i64 m.d, .int .i64 m.s, .int .i64 m.e, .int .i64 m.l, .slice a t.length c] 28
 have hV1 : V2 (fun _ => True) W1 (.slice a t.length c) t := (h.below hB01).any
 have hfd := FindFrom_any m (.slice a t.length c) (.slice none 0 0) t [] limit W1 hV1 (S' := fun _ => True) ⟨none, 0, rfl, Nat.le_refl _, Nat.zero_le _, fun k hk => by simp at hk⟩ (fun _ => .inl rfl)
 obtain ⟨A, hA⟩ : ∃ A, findAns m t [] limit = A := ⟨_, rfl⟩
 rw [hA] at hfd ⊢
 have H := Lib.hid (And.intro hfd hB01); clear hfd hA hV1
 go_enter Tryz.func54, Tryz.ntmps54
 go_wp2_with fail
 rw [← hW1]
 refine H.out.1.mono ?_
 rintro e' w2 ⟨v', rfl, hF, hb⟩
 obtain ⟨ra, rc, rfl, _⟩ := hF.v2.form
 have HF := Lib.hid (And.intro (hF.mono (show W.heap.size ≤ W1.heap.size by omega)) (H.out.2.trans (hb.mono (by omega)))); clear hF hb
 go_wp2_with fail
 go_ret3
 exact ⟨_, rfl, HF.out.1, HF.out.2⟩
end Go.Proofs.YtmaefilliggjiaaGreat
namespace Go.Proofs
open Go.Shelf
open Go.RowKit Go.Lib Go.Sort in
open Go.RowKit Go.Lib Go.Sort in
open Go.RowKit Go.Lib Go.Sort in
open Go.RowKit Go.Lib Go.Sort in
open Go.RowKit Go.Lib Go.Sort in
open Go.RowKit Go.Lib Go.Sort in
open Go.RowKit Go.Lib Go.Sort in
open Go.RowKit Go.Lib Go.Sort in
open Go.RowKit Go.Lib Go.Sort in
open Go.RowKit Go.Lib Go.Sort in
open Go.RowKit Go.Lib Go.Sort in
open Go.RowKit Go.Lib Go.Sort in
open Go.RowKit Go.Lib Go.Sort in
def Tryz.laysSlF6_f154_ren : Go.Shelf.Ren := ⟨fun | 6 => 154 | 15 => 238 | 14 => 237 | 28 => 277 | 29 => 278 | 20 => 269 | 21 => 270 | 22 => 271 | 23 => 272 | 24 => 273 | 25 => 274 | 26 => 275 | 27 => 276 | 46 => 297 | 47 => 298 | 48 => 299 | 49 => 300 | 50 => 301 | 57 => 307 | n => n, fun | 22 => 141 | 24 => 3 | 25 => 144 | 3 => 3 | 39 => 200 | 0 => 0 | 53 => 225 | 55 => 227 | 4 => 4 | 46 => 219 | 45 => 218 | 50 => 166 | 5 => 5 | 9 => 9 | 66 => 240 | 70 => 244 | 76 => 249 | 77 => 250 | n => n, fun | n => n⟩
theorem Tryz.laysSlF6_f154 : Go.Proofs.SlLaysF.n6 Tryz.prog Tryz.laysSlF6_f154_ren := {
 mixed := by kernel_rfl
 f6 := ⟨Tryz.f154.name, by decide, Tryz.func154.trans (congrArg some (by kernel_rfl))⟩
 f14 := ⟨Tryz.f237.name, by decide, Tryz.func237.trans (congrArg some (by kernel_rfl))⟩
 f15 := Tryz.func238.trans (congrArg some (by kernel_rfl))
 f20 := ⟨Tryz.f269.name, by decide, Tryz.func269.trans (congrArg some (by kernel_rfl))⟩
 f21 := ⟨Tryz.f270.name, by decide, Tryz.func270.trans (congrArg some (by kernel_rfl))⟩
 f22 := ⟨Tryz.f271.name, by decide, Tryz.func271.trans (congrArg some (by kernel_rfl))⟩
 f23 := ⟨Tryz.f272.name, by decide, Tryz.func272.trans (congrArg some (by kernel_rfl))⟩
 f24 := ⟨Tryz.f273.name, by decide, Tryz.func273.trans (congrArg some (by kernel_rfl))⟩
 f25 := ⟨Tryz.f274.name, by decide, Tryz.func274.trans (congrArg some (by kernel_rfl))⟩
 f26 := ⟨Tryz.f275.name, by decide, Tryz.func275.trans (congrArg some (by kernel_rfl))⟩
 f27 := ⟨Tryz.f276.name, by decide, Tryz.func276.trans (congrArg some (by kernel_rfl))⟩
 f28 := Tryz.func277.trans (congrArg some (by kernel_rfl))
 f29 := Tryz.func278.trans (congrArg some (by kernel_rfl))
 f46 := ⟨Tryz.f297.name, by decide, Tryz.func297.trans (congrArg some (by kernel_rfl))⟩
 f47 := Tryz.func298.trans (congrArg some (by kernel_rfl))
 f48 := Tryz.func299.trans (congrArg some (by kernel_rfl))
 f49 := ⟨Tryz.f300.name, by decide, Tryz.func300.trans (congrArg some (by kernel_rfl))⟩
 f50 := ⟨Tryz.f301.name, by decide, Tryz.func301.trans (congrArg some (by kernel_rfl))⟩
 f57 := ⟨Tryz.f307.name, by decide, Tryz.func307.trans (congrArg some (by kernel_rfl))⟩
 t0 := Tryz.underlying0
 a0 := Tryz.isAgg0
 z0 := Tryz.sizeOf0
 v0 := Tryz.zeroValue0
 t3 := Tryz.underlying3
 a3 := Tryz.isAgg3
 z3 := Tryz.sizeOf3
 v3 := Tryz.zeroValue3
 t4 := Tryz.underlying4
 a4 := Tryz.isAgg4
 z4 := Tryz.sizeOf4
 v4 := Tryz.zeroValue4
 t5 := Tryz.underlying5
 a5 := Tryz.isAgg5
 z5 := Tryz.sizeOf5
 v5 := Tryz.zeroValue5
 t9 := Tryz.underlying9
 a9 := Tryz.isAgg9
 z9 := Tryz.sizeOf9
 v9 := Tryz.zeroValue9
 t22 := Tryz.underlying141
 a22 := Tryz.isAgg141
 z22 := Tryz.sizeOf141
 v22 := Tryz.zeroValue141
 a24 := Tryz.isAgg3
 z24 := Tryz.sizeOf3
 t25 := Tryz.underlying144
 a25 := Tryz.isAgg144
 z25 := Tryz.sizeOf144
 v25 := Tryz.zeroValue144
 t39 := Tryz.underlying200
 a39 := Tryz.isAgg200
 z39 := Tryz.sizeOf200
 v39 := Tryz.zeroValue200
 t45 := Tryz.underlying218
 a45 := Tryz.isAgg218
 z45 := Tryz.sizeOf218
 v45 := Tryz.zeroValue218
 t46 := Tryz.underlying219
 a46 := Tryz.isAgg219
 z46 := Tryz.sizeOf219
 v46 := Tryz.zeroValue219
 t50 := Tryz.underlying166
 a50 := Tryz.isAgg166
 z50 := Tryz.sizeOf166
 v50 := Tryz.zeroValue166
 t53 := Tryz.underlying225
 a53 := Tryz.isAgg225
 z53 := Tryz.sizeOf225
 v53 := Tryz.zeroValue225
 t55 := Tryz.underlying227
 a55 := Tryz.isAgg227
 z55 := Tryz.sizeOf227
 v55 := Tryz.zeroValue227
 t66 := Tryz.underlying240
 a66 := Tryz.isAgg240
 z66 := Tryz.sizeOf240
 v66 := Tryz.zeroValue240
 t70 := Tryz.underlying244
 a70 := Tryz.isAgg244
 z70 := Tryz.sizeOf244
 v70 := Tryz.zeroValue244
 t76 := Tryz.underlying249
 a76 := Tryz.isAgg249
 z76 := Tryz.sizeOf249
 v76 := Tryz.zeroValue249
 t77 := Tryz.underlying250
 a77 := Tryz.isAgg250
 z77 := Tryz.sizeOf250
 v77 := Tryz.zeroValue250 }
open Go.RowKit Go.Lib Go.Sort in
open Go.RowKit Go.Lib Go.Sort in
/-- **slices.SortFunc, IN THE DOCUMENTATION's OWN TERMS: A PERMUTATION OF WHAT THE ROW HELD, SORTED BY 'cmp(a, b) < 0'.** Which of two equals comes first is left open ("The sort is not guaranteed to be stable"). (LAID AT THE INSTANCE 'slices.SortFunc[[]int,int]': no walk: one application.) -/
theorem Tryz.slices_SortFunc {α : Type} [Inhabited α] (enc : α → Value) (h1 : OneCell enc) (cf : α → α → Int) (hO : SWO (ltOf cf)) (g : Nat) (cb : Array Value) (blk off cap : Nat) (d : Array α) (w : World) (eg : ∀ args w, (callFunc g args).run Tryz.prog w = .ok (.enter g args) w) (hcmp : CmpLays1 Tryz.prog g cb enc cf blk off d.size w) (hH : Holds enc w blk off d) (hblk : blk < w.heap.size) (hsz : d.size < 4611686018427387904) :
  Calls Tryz.prog 154 #[.slice (some ⟨blk, off, none⟩) d.size cap, .func (.func g) #[] cb] w fun e w' =>
   e = .returned (.tuple #[]) ∧ ∃ d' n os, PermIn 0 d.size d d' ∧ SortedIn (ltOf cf) 0 d.size d' ∧ w' = sortWorld enc w blk off n d' os := Any.slices_SortFunc Tryz.laysSlF6_f154 enc h1 cf hO g cb blk off cap d w eg hcmp hH hblk hsz
end Go.Proofs
namespace Go.Proofs.YtmaefilliggjiaaGreat
open Go.RowKit
set_option linter.unusedVariables false
set_option linter.unusedSimpArgs false
theorem chsum_any {S : Nat → Prop} (v : Value) (l : List Int) (W : World) (h : V1 S W v l) (hb : Bits l) (hl : l.length ≤ 1048576) :
  Calls Tryz.prog 156 #[v] W fun e' w' => e' = .returned (.int .i64 (sumTo l l.length)) ∧ W = w' := by
 have hV := h
 obtain ⟨a, c, rfl, hm⟩ := h.form
 have Hb := Lib.hid hb; clear hb
 go_enter Tryz.func156, Tryz.ntmps156
 go_wp2_with fail
 go_loop [3, 5, 8] (fun s _ i => ∃ k : Nat, k ≤ l.length ∧ i = .int .i64 (k : Int) ∧ s = .int .i64 (sumTo l k)) (fun _ _ i => l.length - (intOf i).toNat)
 case atStart => exact ⟨0, Nat.zero_le _, rfl, rfl⟩
 case round =>
  obtain ⟨k, hk, rfl, rfl⟩ := hrel
  by_cases hkk : k < l.length
  ·obtain ⟨b1, off1, rfl, _, hc1⟩ := hV.cell hkk
   have h1 := sumTo_bits Hb.out k hk
   have h2 := Hb.out k hkk
   have hst : sumTo l (k + 1) = sumTo l k + geti l k := rfl
   have hw : wrap64 (sumTo l k + geti l k) = sumTo l k + geti l k := IntWalk.wrap64_in _ (by omega)
   have Hst := Lib.hid hst; clear hst
   go_wp2_with fail
   go_round
   case rel => exact ⟨k + 1, by omega, by go_num, by rw [Hst.out]⟩
   case measure => simp [intOf]; omega
  ·obtain rfl : k = l.length := by omega
   go_wp2_with fail
   go_ret
   exact ⟨rfl, rfl⟩
theorem inCommon_any {S S' : Nat → Prop} (va vb : Value) (a b : List Int) (W : World) (ha : V1 S W va a) (hb : V1 S' W vb b) (hl : a.length = b.length) (hl2 : a.length ≤ 1048576) :
  Calls Tryz.prog 239 #[va, vb] W fun e' w' => ∃ v' l', e' = .returned v' ∧ F1 W.heap.size w' v' l' ∧ l'.length = comTo a b a.length ∧ Below W.heap.size W w' := by
 have hA := ha
 have hB' := hb
 obtain ⟨pa, ca, rfl, hma⟩ := ha.form
 obtain ⟨pb, cb, rfl, hmb⟩ := hb.form
 obtain ⟨B, hBs⟩ : ∃ B, B = W.heap.size := ⟨_, rfl⟩
 rw [← hBs]
 have hown0 := own_lit0 W B 2 1 (by omega)
 have hBle : W.heap.size ≤ B := by omega
 have hBge : B ≤ W.heap.size := by omega
 have Hl := Lib.hid hl
 clear hBs hl
 go_enter Tryz.func239, Tryz.ntmps239
 go_wp2_with fail
 go_loopw [5, 6, 10] (fun ro _ i wr => ∃ (k : Nat) (l' : List Int), k ≤ a.length ∧ i = .int .i64 (k : Int) ∧ l'.length = comTo a b k ∧ wr.ownsRow B 2 1 ro l'.length (l'.map (Value.int .i64)) ∧ Below B W wr) (fun _ _ i _ => a.length - (intOf i).toNat)
 case atStart => exact ⟨0, [], Nat.zero_le _, rfl, rfl, hown0, (Below.refl _ _).alloc (by omega) _⟩
 case round =>
  obtain ⟨k, l', hk, rfl, hlen, hown, hB⟩ := hrel
  have hzr := hB.size
  have hcl := comTo_le a b k
  have Hlen := Lib.hid hlen
  have hl'k : l'.length ≤ k := by omega
  clear hlen
  by_cases hkk : k < a.length
  ·have hkb : k < b.length := by rw [← Hl.out]; exact hkk
   obtain ⟨b1, off1, rfl, _, hc1⟩ := (hA.below (hB.mono hBle)).cell hkk
   obtain ⟨b2, off2, rfl, _, hc2⟩ := (hB'.below (hB.mono hBle)).cell hkb
   by_cases h1 : geti a k = 1
   ·have e1 : (geti a k == 1) = true := by simp [h1]
    by_cases h2 : geti b k = 1
    ·have e2 : (geti b k == 1) = true := by simp [h2]
     have hst : comTo a b (k + 1) = comTo a b k + 1 := by rw [comTo, if_pos ⟨h1, h2⟩]
     have Hst := Lib.hid hst; clear hst h1 h2
     go_wp2_with (at_builtin; refine wp_app1 _ rfl _ _ 35 rfl B 2 (.int .i64 0) 8 Tryz.underlying35 inf_int rfl _ _ _ rfl hown (.int .i64 k) _ rfl rfl (by omega) (by omega) (by omega) ?_; intro v1 w1 hown1 hgrow1 hblk1 hB1)
     go_roundw
     case rel => exact ⟨k + 1, l' ++ [(k : Int)], by omega, by go_num, by rw [Hst.out, List.length_append, Hlen.out]; rfl, by rw [List.map_append, List.length_append]; exact hown1, hB.trans hB1⟩
     case measure => simp [intOf]; omega
    ·have e2 : (geti b k == 1) = false := by simp [h2]
     have hst : comTo a b (k + 1) = comTo a b k := by rw [comTo, if_neg (fun h => h2 h.2)]
     have Hst := Lib.hid hst; clear hst h1 h2
     go_wp2_with fail
     go_roundw
     case rel => exact ⟨k + 1, l', by omega, by go_num, by rw [Hst.out, Hlen.out], hown, hB⟩
     case measure => simp [intOf]; omega
   ·have e1 : (geti a k == 1) = false := by simp [h1]
    have hst : comTo a b (k + 1) = comTo a b k := by rw [comTo, if_neg (fun h => h1 h.1)]
    have Hst := Lib.hid hst; clear hst h1
    go_wp2_with fail
    go_roundw
    case rel => exact ⟨k + 1, l', by omega, by go_num, by rw [Hst.out, Hlen.out], hown, hB⟩
    case measure => simp [intOf]; omega
  ·obtain rfl : k = a.length := by omega
   go_wp2_with fail
   go_ret
   exact ⟨_, l', rfl, own_F1 hown, Hlen.out, hB⟩
theorem isContained_any {S S' : Nat → Prop} (va vb : Value) (a b : List Int) (W : World) (ha : V1 S W va a) (hb : V1 S' W vb b) (hl : a.length = b.length) (hl2 : a.length ≤ 1048576) (ka : Bits a) (kb : Bits b) :
  Calls Tryz.prog 157 #[va, vb] W fun e' w' => e' = .returned (.bool (inR a b)) ∧ Below W.heap.size W w' := by
 have hA := ha
 have hfin : ((comTo a b a.length : Int) == sumTo a a.length) = inR a b := by
  have := (com_sum ka kb hl a.length (Nat.le_refl _)).2
  unfold inR
  cases hh : inTo a b a.length
  ·rw [hh] at this; simp at this; simp [this]
  ·rw [hh] at this; simp at this; simp [this]
 obtain ⟨r, hr⟩ : ∃ r, inR a b = r := ⟨_, rfl⟩
 rw [hr] at hfin ⊢
 have Hfin := Lib.hid hfin; clear hfin hr
 go_enter Tryz.func157, Tryz.ntmps157
 go_wp2_with fail
 refine (inCommon_any _ _ a b W ha hb hl hl2).mono ?_
 rintro e' w1 ⟨v1, l1, rfl, hF, hlen, hB⟩
 obtain ⟨a1, c1, rfl, _⟩ := hF.v1.form
 rw [hlen]
 generalize comTo a b a.length = cm at *
 clear hlen
 go_wp2_with fail
 refine (chsum_any _ a _ (hA.below hB) ka hl2).mono ?_
 rintro e' w2 ⟨rfl, rfl⟩
 generalize sumTo a a.length = sm at *
 go_wp2_with fail
 go_ret
 exact ⟨ret_bool Hfin.out, hB⟩
theorem isContained_b {S S' : Nat → Prop} (va vb : Value) (a b : List Int) (W : World) (r : Bool) (hr : inR a b = r) (ha : V1 S W va a) (hb : V1 S' W vb b) (hl : a.length = b.length) (hl2 : a.length ≤ 1048576) (ka : Bits a) (kb : Bits b) :
  Calls Tryz.prog 157 #[va, vb] W fun e' w' => e' = .returned (.bool r) ∧ Below W.heap.size W w' := by subst hr; exact isContained_any va vb a b W ha hb hl hl2 ka kb
set_option maxRecDepth 100000 in
theorem chainCmp_any {S : Nat → Prop} {t : List (List Int)} (T : Tab t) (v : Value) (x y b : Nat) (W : World) (h : V2 S W v t) (hx : x < t.length) (hy : y < t.length) (hc : W.cell? ⟨b, 0, none⟩ = some v) :
  Calls Tryz.prog 155 #[.int .i64 (x : Int), .int .i64 (y : Int), .pointer (some ⟨b, 0, none⟩)] W fun e' w' => e' = .returned (.int .i64 ((ones t x : Int) - (ones t y : Int))) ∧ ∃ n, w' = W.drewN n := by
 have hV := h
 obtain ⟨a, c, rfl, hmx⟩ := h.form
 obtain ⟨b1, off1, a1, c1, rfl, _, hc1, hr1⟩ := hV.cell hx
 obtain ⟨b2, off2, a2, c2, e2, _, hc2, hr2⟩ := hV.cell hy
 simp only [Option.some.injEq, Addr.mk.injEq, and_true] at e2
 obtain ⟨rfl, rfl⟩ := e2
 obtain ⟨hox, ex⟩ := ones_le T hx
 obtain ⟨hoy, ey⟩ := ones_le T hy
 have hlx := T.len x hx
 have hly := T.len y hy
 have hf := T.few
 have s1 : ∀ n, Calls Tryz.prog 156 #[.slice a1 (getl t x).length c1] (W.drewN n) fun e' w' => e' = .returned (.int .i64 (ones t x : Int)) ∧ ∃ q, w' = (W.drewN n).drewN q := fun n => by
  rw [ex]
  exact (chsum_any (S := S) _ (getl t x) _ (V1.drewN hr1) (T.bits x hx) (by omega)).mono fun e' w' ⟨h1, h2⟩ => ⟨h1, 0, h2.symm⟩
 have s2 : ∀ n, Calls Tryz.prog 156 #[.slice a2 (getl t y).length c2] (W.drewN n) fun e' w' => e' = .returned (.int .i64 (ones t y : Int)) ∧ ∃ q, w' = (W.drewN n).drewN q := fun n => by
  rw [ey]
  exact (chsum_any (S := S) _ (getl t y) _ (V1.drewN hr2) (T.bits y hy) (by omega)).mono fun e' w' ⟨h1, h2⟩ => ⟨h1, 0, h2.symm⟩
 obtain ⟨ox, hox'⟩ : ∃ o, ones t x = o := ⟨_, rfl⟩
 obtain ⟨oy, hoy'⟩ : ∃ o, ones t y = o := ⟨_, rfl⟩
 obtain ⟨lx, hlx'⟩ : ∃ o, (getl t x).length = o := ⟨_, rfl⟩
 obtain ⟨ly, hly'⟩ : ∃ o, (getl t y).length = o := ⟨_, rfl⟩
 rw [hox'] at s1 hox ⊢
 rw [hoy'] at s2 hoy ⊢
 rw [hlx'] at s1 hc1
 rw [hly'] at s2 hc2
 have hm1 := hr1.len
 have hm2 := hr2.len
 rw [hlx'] at hm1
 rw [hly'] at hm2
 unfold maxLen at hm1 hm2
 clear hox' hoy' hlx' hly' hr1 hr2
 have hw : wrap64 ((ox : Int) - (oy : Int)) = (ox : Int) - (oy : Int) := IntWalk.wrap64_in _ (by omega)
 have S1 := Lib.hid s1
 have S2 := Lib.hid s2
 clear s1 s2 ex ey hlx hly hf
 go_enter Tryz.func155, Tryz.ntmps155
 go_wp2_with fail
 go_quiet ((go_at_call 156; first | with_reducible exact quiet_at0 (S1.out _) | with_reducible exact quiet_at (S1.out _) | with_reducible exact quiet_at0 (S2.out _) | with_reducible exact quiet_at (S2.out _)))
 go_wp2_with fail
 go_ret
 exact ⟨rfl, _, by first | rfl | simp only [World.drewN_drewN]⟩
theorem enters_chain : Enters 155 := fun args w => by kernel_rfl
/-- The numbers below n as the sort handles them. -/
abbrev Idx (n : Nat) := { i : Nat // i < n }
def encIx {n : Nat} (x : Idx n) : Value := .int .i64 (x.1 : Int)
def cfIx (t : List (List Int)) (x y : Idx t.length) : Int := (ones t x.1 : Int) - (ones t y.1 : Int)
theorem swoIx (t : List (List Int)) : Go.Sort.SWO (ltOf (cfIx t)) where
 irrefl x := by simp [ltOf, cfIx]
 trans x y z h1 h2 := by
  unfold ltOf cfIx at h1 h2 ⊢
  have g1 := of_decide_eq_true h1
  have g2 := of_decide_eq_true h2
  generalize ones t x.1 = p1, ones t y.1 = p2, ones t z.1 = p3 at *
  exact decide_eq_true (by omega)
 ntrans x y z h1 h2 := by
  unfold ltOf cfIx at h1 h2 ⊢
  have g1 := of_decide_eq_false h1
  have g2 := of_decide_eq_false h2
  generalize ones t x.1 = p1, ones t y.1 = p2, ones t z.1 = p3 at *
  exact decide_eq_false (by omega)
theorem sortWorld_chg {α : Type} [Inhabited α] (enc : α → Value) (w : World) (g off n : Nat) (d : Array α) (os : Array Obj) : Chg (fun x => x = g) w (Go.Proofs.sortWorld enc w g off n d os) := by
 refine ⟨rfl, rfl, rfl, by simp [Go.Proofs.sortWorld], fun k hk hf => ?_⟩
 unfold Go.Proofs.sortWorld
 rw [Go.Sort.heap_grow_old _ _ (by simpa using hk)]
 simp [Go.Sort.putRow, Go.Sort.mapBlock, Array.getElem?_modify, show ¬ g = k from fun e => hf e.symm]
/-- ord: the numbers below n, each once, in the order of their ones. -/
structure Ord (t : List (List Int)) (ord : Nat → Nat) : Prop where
 lt : ∀ j, j < t.length → ord j < t.length
 onto : ∀ i, i < t.length → ∃ j, j < t.length ∧ ord j = i
 up : ∀ i j, i < j → j < t.length → ones t (ord i) ≤ ones t (ord j)
theorem order_any {S : Nat → Prop} {t : List (List Int)} (T : Tab t) (h0 : 0 < t.length) (hl : t.length ≤ 1048576) (v : Value) (b g c : Nat) (cs : Array Value) (e : TypeId) (W : World) (h : V2 S W v t) (hS : ∀ x, S x → x ≠ g) (hb : b ≠ g) (hbl : b < W.heap.size) (hc : W.cell? ⟨b, 0, none⟩ = some v)
  (hh : W.heap[g]? = some (.cells cs e (0, 0))) (hcs : ∀ k, k < t.length → cs[k]? = some (.int .i64 (k : Int))) :
  Calls Tryz.prog 154 #[.slice (some ⟨g, 0, none⟩) t.length c, .func (.func 155) #[] #[.pointer (some ⟨b, 0, none⟩)]] W fun e' w' => e' = .returned (.tuple #[]) ∧ ∃ ord, Ord t ord ∧ (∀ j, j < t.length → w'.cell? ⟨g, j, none⟩ = some (.int .i64 (ord j : Int))) ∧ Chg (fun x => x = g) W w' := by
 haveI : Inhabited (Idx t.length) := ⟨⟨0, h0⟩⟩
 let d : Array (Idx t.length) := Array.ofFn (fun i : Fin t.length => (⟨i.1, i.2⟩ : Idx t.length))
 have hd : d.size = t.length := by simp [d]
 have hdg : ∀ j (hj : j < t.length), d[j]! = ⟨j, hj⟩ := fun j hj => by
  rw [getElem!_pos d j (by omega)]; simp [d]
 have hgl := lt_of_heap hh
 have hH : Go.Sort.Holds encIx W g 0 d := fun j hj => by
  have hj' : j < t.length := by omega
  refine ⟨?_, frozen_of_block hh _⟩
  rw [cell_of_block hh, Nat.zero_add, hcs j hj', hdg j hj']
  rfl
 have hcmp : CmpLays1 Tryz.prog 155 #[.pointer (some ⟨b, 0, none⟩)] encIx (cfIx t) g 0 d.size W := by
  intro m os dk hs x y
  have hch := sortWorld_chg encIx W g 0 m dk os
  have hV := V2.mono h (S' := S) (fun _ h _ => h) (hch.keep (fun x hx he => hS x hx he))
  refine (chainCmp_any T v x.1 y.1 b _ hV x.2 y.2 (by rw [hch.cell hbl hb]; exact hc)).mono ?_
  rintro e' w' ⟨rfl, n, rfl⟩
  exact ⟨rfl, n, #[], by simp⟩
 have hcall := Tryz.slices_SortFunc encIx (fun _ => rfl) (cfIx t) (swoIx t) 155 #[.pointer (some ⟨b, 0, none⟩)] g 0 c d W (fun args w => enters_chain args w) hcmp hH hgl (by omega)
 rw [hd] at hcall
 refine hcall.mono ?_
 rintro e' w' ⟨rfl, d', n, os, hperm, hsort, rfl⟩
 obtain ⟨hsz, _, hp⟩ := hperm
 have hd' : d'.size = t.length := by omega
 have hp' : d'.toList.Perm d.toList := by
  have e1 : d'.extract 0 t.length = d' := Array.extract_eq_self_of_le (by omega)
  have e2 : d.extract 0 t.length = d := Array.extract_eq_self_of_le (by omega)
  rw [e1, e2] at hp; exact hp
 refine ⟨rfl, fun j => (d'[j]!).1, ⟨fun j hj => (d'[j]!).2, fun i hi => ?_, fun i j hij hj => ?_⟩, fun j hj => ?_, sortWorld_chg _ _ _ _ _ _ _⟩
 ·have hm : (⟨i, hi⟩ : Idx t.length) ∈ d'.toList := hp'.mem_iff.2 (Array.mem_toList_iff.2 (Array.mem_iff_getElem.2 ⟨i, by omega, by simp [d]⟩))
  obtain ⟨j, hj, ej⟩ := List.getElem_of_mem hm
  have hj' : j < d'.size := by simpa using hj
  refine ⟨j, by omega, ?_⟩
  rw [getElem!_pos d' j hj']
  rw [Array.getElem_toList] at ej
  rw [ej]
 ·have := hsort i j (Nat.zero_le _) hij hj
  unfold ltOf cfIx at this
  have g1 := of_decide_eq_false this
  show ones t (d'[i]!).1 ≤ ones t (d'[j]!).1
  generalize ones t (d'[i]!).1 = p1, ones t (d'[j]!).1 = p2 at *
  omega
 ·have hk := Go.Sort.holds_putRow encIx (Go.Sort.ahead W n) g 0 d d' hH (by omega)
  have := (hk j (by omega)).1
  rw [Nat.zero_add] at this
  unfold Go.Proofs.sortWorld
  rw [Go.Sort.cell?_grow _ _ _ (by simpa using hgl)]
  exact this
theorem inf_int0 : (Tryz.prog.info? 3).map (fun i => (i.zero, i.size, i.bytes)) = some (some (.int .i64 0), 1, 8) := by kernel_rfl
theorem long_ord {t : List (List Int)} {ord : Nat → Nat} (O : Ord t ord) : mxTo (fun _ => true) (fun i => ch t (ord i)) t.length = longest t := by
 unfold longest
 obtain ⟨a0, a1, a2⟩ := mxTo_char (p := fun _ => true) (g := fun i => ch t (ord i)) t.length
 obtain ⟨b0, b1, b2⟩ := mxTo_char (p := fun _ => true) (g := ch t) t.length
 generalize mxTo (fun _ => true) (fun i => ch t (ord i)) t.length = x at *
 generalize mxTo (fun _ => true) (ch t) t.length = y at *
 have h1 : x ≤ y := by
  rcases a2 with h | ⟨i, hi, _, e⟩
  ·omega
  ·have := b1 (ord i) (O.lt i hi) rfl; omega
 have h2 : y ≤ x := by
  rcases b2 with h | ⟨i, hi, _, e⟩
  ·omega
  ·obtain ⟨j, hj, ej⟩ := O.onto i hi
   have := a1 j hj rfl
   rw [ej] at this; omega
 omega
theorem done_of {t : List (List Int)} {ord : Nat → Nat} (T : Tab t) (O : Ord t ord) {j o : Nat} (hj : j < t.length) (ho : o < t.length) (h : strictB t (ord j) o = true) : ∃ i, i < j ∧ ord i = o ∧ o ≠ ord j := by
 have hlt := strict_ones T (O.lt j hj) ho h
 obtain ⟨i, hi, ei⟩ := O.onto o ho
 have hne : o ≠ ord j := fun e => by rw [e] at hlt; omega
 refine ⟨i, ?_, ei, hne⟩
 by_cases hij : i < j
 ·exact hij
 ·by_cases e : i = j
  ·subst e; exact absurd ei.symm hne
  ·have := O.up j i (by omega) hi
   rw [ei] at this; omega
set_option maxHeartbeats 1000000 in
set_option maxRecDepth 100000 in
theorem LongestChain_any {S0 : Nat → Prop} (v : Value) (t : List (List Int)) (W : World) (h0 : V2 S0 W v t) :
  Calls Tryz.prog 50 #[v] W fun e' w' => e' = .returned (.tuple #[.int .i64 (longAns t).1, .int .i64 (longAns t).2]) ∧ Below W.heap.size W w' := by
 have h := V2.mono h0 (S' := fun b => b < W.heap.size) (fun b _ hlt => hlt) (fun _ _ _ => rfl)
 obtain ⟨a, c, rfl, hmx⟩ := h.form
 obtain ⟨W1, hW1, hB01, hz01, HZ01, hc01, hh01⟩ := box_facts W #[.slice a t.length c] 26
 have hV1 := h.below hB01
 have hc0 : W1.cell? ⟨W.heap.size, 0, none⟩ = some (.slice a t.length c) := by rw [hc01]; rfl
 cases ht : isTab t
 ·have ha : longAns t = (0, 1) := by simp [longAns, ht]
  rw [ha]
  have HT := Lib.hid ht; clear ht ha hc01
  go_enter Tryz.func50, Tryz.ntmps50
  go_wp2_with fail
  rw [← hW1]
  have HW1 := Lib.hid hW1; clear hW1
  go_wp2_with (go_at_call 145; refine (isTable_b _ _ _ _ HT.out hV1).mono ?_; rintro e' w' ⟨rfl, rfl⟩)
  go_ret2
  exact ⟨rfl, hB01⟩
 ·have ha : longAns t = (longest t, 0) := by simp [longAns, ht]
  have T := tab_of ht
  have hrows := (isTab_iff.1 ht).1
  rw [ha]
  have HT := Lib.hid ht; clear ht ha hc01 hh01
  have hl10 : t.length ≤ 10 := hrows.2
  have hl1 : 0 < t.length := hrows.1
  clear hrows
  go_enter Tryz.func50, Tryz.ntmps50
  go_wp2_with fail
  rw [← hW1]
  have HW1 := Lib.hid hW1; clear hW1
  go_wp2_with fail
  refine (isTable_b _ _ _ _ HT.out hV1).mono ?_
  rintro e' w' ⟨rfl, rfl⟩
  go_wp2_with first | (at_make; refine wp_mk _ rfl _ _ 35 rfl 2 (.int .i64 0) 1 8 Tryz.underlying35 inf_int t.length rfl rfl (by omega) (by omega) ?_; intro w2 csL hhL hsL _ hB2 hsz2; have hc2 : w2.cell? ⟨W.heap.size, 0, none⟩ = some (.slice a t.length c) := by rw [(bcell hB2).1 _ _ hz01, hc0]) | (at_make; refine wp_mk _ rfl _ _ 141 rfl 3 (.int .i64 0) 1 8 Tryz.underlying141 inf_int0 t.length rfl rfl (by omega) (by omega) ?_; intro w3 csO hhO hsO _ hB3 hsz3)
  have HhL := Lib.hid (And.intro hhL hsL); clear hhL hsL
  have hB02 := hB01.trans (hB2.mono (by omega))
  go_loopw [7, 23] (fun _ i wr => ∃ (k : Nat) (cs : Array Value), k ≤ t.length ∧ i = .int .i64 k ∧ wr.heap[w2.heap.size]? = some (.cells cs 3 (0, 0)) ∧ cs.size = t.length ∧ (∀ j, j < k → cs[j]? = some (.int .i64 (j : Int))) ∧ Below w2.heap.size w2 wr) (fun _ i _ => t.length - (intOf i).toNat)
  case atStart => exact ⟨0, csO, Nat.zero_le _, rfl, hhO, by omega, fun j hj => by omega, hB3⟩
  case round =>
   obtain ⟨k, cs, hk, rfl, hh, hs, hcs, hB⟩ := hrel
   by_cases hkk : k < t.length
   ·obtain ⟨u0, hco⟩ : ∃ u0, wr.cell? ⟨w2.heap.size, k, none⟩ = some u0 := ⟨cs[k]'(by omega), by rw [cell_of_block hh]; exact Array.getElem?_eq_getElem (by omega)⟩
    have hfo := frozen_of_block hh k
    have Hh := Lib.hid hh; clear hh
    have Hcs := Lib.hid hcs; clear hcs
    have Hs := Lib.hid hs; clear hs
    go_wp2_with fail
    go_roundw
    case rel =>
     refine ⟨k + 1, cs.setIfInBounds k (.int .i64 (k : Int)), by omega, by go_num, heap_setCell_self Hh.out _, by simp [Hs.out], fun j hj => ?_, by (repeat (first | (with_reducible refine Below.setCell ?_ ?_ _) | (with_reducible refine Below.alloc ?_ ?_ _) | (with_reducible refine Below.drew ?_) | (with_reducible refine below_drewN ?_ _) | (with_reducible exact Below.refl _ _) | (with_reducible assumption) | (with_reducible refine Below.trans ?_ (Below.mono (by with_reducible assumption) ?_)) | go_size))⟩
     rw [Array.getElem?_setIfInBounds]
     split
     ·rename_i e; subst e; simp [Hs.out, hkk]
     ·exact Hcs.out j (by omega)
    case measure => simp [intOf]; omega
   ·obtain rfl : k = t.length := by omega
    have hcr : wr.cell? ⟨W.heap.size, 0, none⟩ = some (.slice a t.length c) := by rw [(bcell hB).1 _ _ (by omega), hc2]
    have hgw := lt_of_heap hh
    have hVr := (h.below hB02).below hB
    have hB0r := hB02.trans (hB.mono (by omega))
    have HhLr := HhL.out
    have hLr : wr.heap[W1.heap.size]? = some (.cells csL 2 (0, 0)) := by rw [hB.block _ (by omega)]; exact HhLr.1
    have hord := order_any T hl1 (by omega) _ W.heap.size w2.heap.size t.length cs 3 wr hVr (fun x hx e => by omega) (by omega) (by have := hB0r.size; have := hB01.size; have := hB02.size; have := hB.size; omega) hcr hh hcs
    have Hord := Lib.hid hord
    have HLr := Lib.hid (And.intro hLr HhLr.2); clear hLr HhLr hord hh hcs hs
    have hLne : W1.heap.size ≠ w2.heap.size := by omega
    go_wp2_with fail
    refine Hord.out.mono ?_
    rintro e' w5 ⟨rfl, ord, O, hoc, hC5⟩
    have hzr := hB.size
    have hzB0 := hB0r.size
    have hL5 : w5.heap[W1.heap.size]? = some (.cells csL 2 (0, 0)) := hC5.heap HLr.out.1 hLne
    have hV5 := hVr.mono (S' := fun b => b < W.heap.size) (fun _ h _ => h) (hC5.keep (fun x hx e => by omega))
    have hc5 : w5.cell? ⟨W.heap.size, 0, none⟩ = some (.slice a t.length c) := by rw [hC5.cell (by omega) (by omega)]; exact hcr
    have hz5 := hC5.size
    have hB5 : Below W.heap.size W w5 := hB0r.trans (hC5.to_below (B := W.heap.size) (fun i hi => by omega) hzB0)
    have hsL := HLr.out.2
    have Hoc := Lib.hid hoc
    have HO := Lib.hid O
    have Hlast := Lib.hid (long_ord O)
    clear hVr hcr hC5 hoc O HLr hB0r
    go_wp2_with fail
    go_loopw [5, 9, 10, 11, 36] (fun s _ _ _ i wr => ∃ (j : Nat) (cl : Array Value), j ≤ t.length ∧ i = .int .i64 (j : Int) ∧ s = .int .i64 (mxTo (fun _ => true) (fun i => ch t (ord i)) j) ∧ wr.heap[W1.heap.size]? = some (.cells cl 2 (0, 0)) ∧ cl.size = t.length ∧ (∀ i, i < j → cl[ord i]? = some (.int .i64 (ch t (ord i)))) ∧ Chg (fun b => b = W1.heap.size) w5 wr) (fun _ _ _ _ i _ => t.length - (intOf i).toNat)
    case atStart => exact ⟨0, csL, Nat.zero_le _, rfl, rfl, hL5, by omega, fun i hi => by omega, Chg.refl _ _⟩
    case round =>
     obtain ⟨j, cl, hj, rfl, rfl, hh, hs, hcl, hC⟩ := hrel
     obtain ⟨wo, rfl⟩ : ∃ wo, wo = wr := ⟨_, rfl⟩
     have hmb : 0 ≤ mxTo (fun _ => true) (fun i => ch t (ord i)) j := (mxTo_char (p := fun _ => true) (g := fun i => ch t (ord i)) j).1
     by_cases hjj : j < t.length
     ·have hk : ord j < t.length := HO.out.lt j hjj
      obtain ⟨k, hkd⟩ : ∃ k, ord j = k := ⟨_, rfl⟩
      have hoj : wo.cell? ⟨w2.heap.size, j, none⟩ = some (.int .i64 (k : Int)) := by rw [hC.cell (by omega) (by omega), Hoc.out j hjj, hkd]
      rw [hkd] at hk
      obtain ⟨u0, hco⟩ : ∃ u0, wo.cell? ⟨W1.heap.size, k, none⟩ = some u0 := ⟨cl[k]'(by omega), by rw [cell_of_block hh]; exact Array.getElem?_eq_getElem (by omega)⟩
      have hfo := frozen_of_block hh k
      have hbx : wo.cell? ⟨W.heap.size, 0, none⟩ = some (.slice a t.length c) := by rw [hC.cell (by omega) (by omega)]; exact hc5
      have hzo := hC.size
      have Hkd := Lib.hid hkd; clear hkd
      have Hh := Lib.hid (And.intro hh (And.intro hs hcl)); clear hh hs hcl
      have hC1 := hC.setCell (p := ⟨W1.heap.size, k, none⟩) (.inl rfl) (.int .i64 1)
      have hbx1 : (wo.setCell ⟨W1.heap.size, k, none⟩ (.int .i64 1)).cell? ⟨W.heap.size, 0, none⟩ = some (.slice a t.length c) := by rw [hC1.cell (by omega) (by omega)]; exact hc5
      go_wp2_with fail
      go_loopw [10, 11, 45] (fun _ _ i wn => ∃ (o : Nat) (cn : Array Value), o ≤ t.length ∧ i = .int .i64 (o : Int) ∧ wn.heap[W1.heap.size]? = some (.cells cn 2 (0, 0)) ∧ cn.size = t.length ∧ cn[k]? = some (.int .i64 (mxTo (strictB t k) (ch t) o + 1)) ∧ (∀ i, i < j → ord i ≠ k → cn[ord i]? = some (.int .i64 (ch t (ord i)))) ∧ Chg (fun b => b = W1.heap.size) w5 wn) (fun _ _ i _ => t.length - (intOf i).toNat)
      case atStart => exact ⟨0, cl.setIfInBounds k (.int .i64 1), Nat.zero_le _, rfl, heap_setCell_self Hh.out.1 _, by simp [Hh.out.2.1], by rw [Array.getElem?_setIfInBounds, if_pos rfl, if_pos (by have := Hh.out.2.1; omega)]; rfl, fun i hi hne => by rw [Array.getElem?_setIfInBounds, if_neg (fun e => hne e.symm)]; exact Hh.out.2.2 i hi, hC1⟩
      case round =>
       obtain ⟨o, cn, ho, rfl, hhn, hsn, hck, hcn, hCn⟩ := hrel
       have hmo := mx_bound (t := t) (p := strictB t k) o
       have hbxn : wr.cell? ⟨W.heap.size, 0, none⟩ = some (.slice a t.length c) := by rw [hCn.cell (by omega) (by omega)]; exact hc5
       have hVn := hV5.mono (S' := fun b => b < W.heap.size) (fun _ h _ => h) (hCn.keep (fun x hx e => by omega))
       by_cases hoo : o < t.length
       ·obtain ⟨b1, off1, a1, c1, rfl, _, hc1, hr1⟩ := hVn.cell hoo
        obtain ⟨b2, off2, a2, c2, e2, _, hc2', hr2⟩ := hVn.cell hk
        simp only [Option.some.injEq, Addr.mk.injEq, and_true] at e2
        obtain ⟨rfl, rfl⟩ := e2
        have hlo := T.len o hoo
        have hlk := T.len k hk
        have hfew := T.few
        have hb1 := T.bits o hoo
        have hb2 := T.bits k hk
        have hm1 := hr1.len
        have hm2 := hr2.len
        unfold maxLen at hm1 hm2
        have Hn := Lib.hid (And.intro hhn (And.intro hsn (And.intro hck hcn))); clear hhn hsn hck hcn
        have Hb := Lib.hid (And.intro hb1 hb2); clear hb1 hb2
        have hll : (getl t o).length = (getl t k).length ∧ (getl t o).length ≤ 1048576 := by omega
        have Hll := Lib.hid hll; clear hll hlo hlk hfew
        cases hin : inR (getl t o) (getl t k)
        ·have hst : mxTo (strictB t k) (ch t) (o + 1) = mxTo (strictB t k) (ch t) o := by rw [mxTo, if_neg (by simp [strictB, hin])]
         have HS := Lib.hid hst; clear hst
         have Hin := Lib.hid hin; clear hin
         go_wp2_with fail
         refine (isContained_b _ _ _ _ _ _ Hin.out hr1 hr2 Hll.out.1 Hll.out.2 Hb.out.1 Hb.out.2).mono ?_
         rintro e' wp ⟨rfl, hbp⟩
         go_wp2_with fail
         go_roundw
         case rel => exact ⟨o + 1, cn, by omega, by go_num, by rw [hbp.block _ (lt_of_heap Hn.out.1)]; exact Hn.out.1, Hn.out.2.1, by rw [HS.out]; exact Hn.out.2.2.1, Hn.out.2.2.2, hCn.then_below hbp⟩
         case measure => simp [intOf]; omega
        ·cases hsm : decide (getl t o = getl t k)
         ·have hsb : strictB t k o = true := by simp [strictB, hsm, hin]
          have hst : mxTo (strictB t k) (ch t) (o + 1) = max (mxTo (strictB t k) (ch t) o) (ch t o) := by rw [mxTo, if_pos hsb]
          obtain ⟨i0, hi0, ei0, hne0⟩ := done_of T HO.out hjj hoo (by rw [Hkd.out]; exact hsb)
          rw [Hkd.out] at hne0
          have hco' : cn[o]? = some (.int .i64 (ch t o)) := by have := Hn.out.2.2.2 i0 hi0 (by rw [ei0]; exact hne0); rw [ei0] at this; exact this
          have hchb := ch_bound t o
          have HS := Lib.hid hst; clear hst hsb ei0
          have Hin := Lib.hid hin; clear hin
          have Hsm := Lib.hid hsm; clear hsm
          have Hco := Lib.hid hco'; clear hco'
          go_wp2_with fail
          refine (isContained_b _ _ _ _ _ _ Hin.out hr1 hr2 Hll.out.1 Hll.out.2 Hb.out.1 Hb.out.2).mono ?_
          rintro e' wp ⟨rfl, hbp⟩
          have hCp := hCn.then_below hbp
          have hbxp : wp.cell? ⟨W.heap.size, 0, none⟩ = some (.slice (some ⟨b1, off1, none⟩) t.length c) := by rw [hCp.cell (by omega) (by omega)]; exact hc5
          obtain ⟨b3, off3, a3, c3, e3, _, hc3, hr3⟩ := (hVn.below hbp).cell hk
          simp only [Option.some.injEq, Addr.mk.injEq, and_true] at e3
          obtain ⟨rfl, rfl⟩ := e3
          go_wp2_with fail
          refine (slEqual_b _ _ _ _ _ _ Hsm.out (hr1.below hbp) hr3).mono ?_
          rintro e' wq ⟨rfl, nq, hwq⟩
          have hbq : Below wp.heap.size wp wq := by rw [hwq]; exact below_drewN (Below.refl _ _) _
          clear hwq
          have hCq := hCp.then_below hbq
          have hhq : wq.heap[W1.heap.size]? = some (.cells cn 2 (0, 0)) := by rw [hbq.block _ (by have := hCp.size; have := lt_of_heap hL5; omega), hbp.block _ (lt_of_heap Hn.out.1)]; exact Hn.out.1
          have hq1 : wq.cell? ⟨W1.heap.size, k, none⟩ = some (.int .i64 (mxTo (strictB t k) (ch t) o + 1)) := by rw [cell_of_block hhq]; exact Hn.out.2.2.1
          have hq2 : wq.cell? ⟨W1.heap.size, o, none⟩ = some (.int .i64 (ch t o)) := by rw [cell_of_block hhq]; exact Hco.out
          have hfk := frozen_of_block hhq k
          have hkcn : k < cn.size := by rw [Hn.out.2.1]; exact hk
          have Hhq := Lib.hid hhq; clear hhq
          generalize mxTo (strictB t k) (ch t) o = mm at *
          generalize ch t o = cc at *
          have hw : wrap64 (cc + 1) = cc + 1 := IntWalk.wrap64_in _ (by omega)
          go_wp2_with fail
          go_region
          go_wp2_with fail
          go_roundw
          case rel =>
           have hmx : max (mm + 1) (cc + 1) = max mm cc + 1 := by omega
           refine ⟨o + 1, cn.setIfInBounds k (.int .i64 (max mm cc + 1)), by omega, by go_num, ?_, by simp [Hn.out.2.1], ?_, ?_, ?_⟩
           ·exact heap_setCell_self Hhq.out _
           ·rw [HS.out, Array.getElem?_setIfInBounds, if_pos rfl, if_pos hkcn]
           ·intro i hi hne
            rw [Array.getElem?_setIfInBounds, if_neg (fun e => hne e.symm)]
            exact Hn.out.2.2.2 i hi hne
           ·exact (hCq.setCell (p := ⟨W1.heap.size, k, none⟩) (.inl rfl) _).drew
          case measure => simp [intOf]; omega
         ·have hst : mxTo (strictB t k) (ch t) (o + 1) = mxTo (strictB t k) (ch t) o := by rw [mxTo, if_neg (by simp [strictB, of_decide_eq_true hsm])]
          have HS := Lib.hid hst; clear hst
          have Hin := Lib.hid hin; clear hin
          have Hsm := Lib.hid hsm; clear hsm
          go_wp2_with fail
          refine (isContained_b _ _ _ _ _ _ Hin.out hr1 hr2 Hll.out.1 Hll.out.2 Hb.out.1 Hb.out.2).mono ?_
          rintro e' wp ⟨rfl, hbp⟩
          have hCp := hCn.then_below hbp
          have hbxp : wp.cell? ⟨W.heap.size, 0, none⟩ = some (.slice (some ⟨b1, off1, none⟩) t.length c) := by rw [hCp.cell (by omega) (by omega)]; exact hc5
          obtain ⟨b3, off3, a3, c3, e3, _, hc3, hr3⟩ := (hVn.below hbp).cell hk
          simp only [Option.some.injEq, Addr.mk.injEq, and_true] at e3
          obtain ⟨rfl, rfl⟩ := e3
          go_wp2_with fail
          refine (slEqual_b _ _ _ _ _ _ Hsm.out (hr1.below hbp) hr3).mono ?_
          rintro e' wq ⟨rfl, nq, hwq⟩
          have hbq : Below wp.heap.size wp wq := by rw [hwq]; exact below_drewN (Below.refl _ _) _
          clear hwq
          go_wp2_with fail
          go_roundw
          case rel => exact ⟨o + 1, cn, by omega, by go_num, by rw [hbq.block _ (by have := hCp.size; have := lt_of_heap hL5; omega), hbp.block _ (lt_of_heap Hn.out.1)]; exact Hn.out.1, Hn.out.2.1, by rw [HS.out]; exact Hn.out.2.2.1, Hn.out.2.2.2, hCp.then_below hbq⟩
          case measure => simp [intOf]; omega
       ·obtain rfl : o = t.length := by omega
        have hck2 : cn[k]? = some (.int .i64 (ch t k)) := by rw [hck, ch_eq T hk]
        have hst : mxTo (fun _ => true) (fun i => ch t (ord i)) (j + 1) = max (mxTo (fun _ => true) (fun i => ch t (ord i)) j) (ch t k) := by rw [mxTo, if_pos rfl, Hkd.out]
        have hrc : wr.cell? ⟨W1.heap.size, k, none⟩ = some (.int .i64 (ch t k)) := by rw [cell_of_block hhn]; exact hck2
        have HS := Lib.hid hst; clear hst
        have Hn := Lib.hid (And.intro hhn (And.intro hsn (And.intro hck2 hcn))); clear hhn hsn hck hcn hck2
        generalize mxTo (fun _ => true) (fun i => ch t (ord i)) j = mm at *
        have Hcd := Lib.hid (rfl : ch t k = ch t k)
        obtain ⟨cc, hcc⟩ : ∃ x, ch t k = x := ⟨_, rfl⟩
        rw [hcc] at hrc
        have Hcc := Lib.hid hcc; clear hcc
        go_wp2_with fail
        go_roundw
        case rel =>
         refine ⟨j + 1, cn, by omega, by go_num, by rw [HS.out, Hcc.out], Hn.out.1, Hn.out.2.1, fun i hi => ?_, hCn⟩
         by_cases e : ord i = k
         ·rw [e]; exact Hn.out.2.2.1
         ·by_cases e2 : i = j
          ·subst e2; exact absurd Hkd.out e
          ·exact Hn.out.2.2.2 i (by omega) e
        case measure => simp [intOf]; omega
     ·obtain rfl : j = t.length := by omega
      rw [show mxTo (fun _ => true) (fun i => ch t (ord i)) t.length = longest t from Hlast.out] at *
      have hBx := hB5.trans (hC.to_below (B := W.heap.size) (fun i hi => by omega) (by omega))
      clear hh hs hcl
      go_wp2_with fail
      go_ret2
      exact ⟨rfl, hBx⟩
end Go.Proofs.YtmaefilliggjiaaGreat
