/- What the reference answers on the first key that begins with some cuts, and on the next key. No conditions. -/
import Derived.Deep.DrawnRows
import Derived.Test.YtmjplkbmhdkggaaGreatProg
import Derived.StillTailTactics
import Derived.Laws.StructEq
import Derived.WalkSmall
import Derived.Deep.QuietTactic
import Derived.BigQuiet
import Derived.Test.YtmjplkbmhdkggaaGreatMEach5
import Derived.Test.YtmjplkbmhdkggaaGreatMTable
import Derived.Test.YtmjplkbmhdkggaaGreatMLib
import Derived.Test.YtmjplkbmhdkggaaGreatMStops
namespace Go.Proofs.YtmjplkbmhdkggaaGreat
open Go.RowKit
set_option linter.unusedVariables false
set_option linter.unusedSimpArgs false
/-- The keys that begin with l and a cut from x on. -/
def fromB (m : Mk) (rem : Nat) (l : List Int) (x : Nat) : List (List Int) := (depths x m.d.toNat).flatMap fun y => genB m rem (l ++ [y])
theorem fromB_step {m : Mk} {rem : Nat} {l : List Int} {x : Nat} (h : x < m.d.toNat) : fromB m rem l x = genB m rem (l ++ [(x : Int)]) ++ fromB m rem l (x + 1) := by
 unfold fromB; rw [depths_cons h, List.flatMap_cons]
theorem fromB_end {m : Mk} {rem : Nat} {l : List Int} {x : Nat} (h : m.d.toNat ≤ x) : fromB m rem l x = [] := by
 unfold fromB; rw [depths_nil h]; rfl
theorem fromB_next {m : Mk} {rem : Nat} {l : List Int} {x : Nat} {t : List (List Int)} (h : x < m.d.toNat) : nextAns (fromB m rem l x ++ t) = if (nextAns (genB m rem (l ++ [(x : Int)]))).2 = true then nextAns (genB m rem (l ++ [(x : Int)])) else nextAns (fromB m rem l (x + 1) ++ t) := by
 rw [fromB_step h, List.append_assoc, nextAns_append]
/-- The keys behind k that share fewer than n cuts with it. -/
def lowB (m : Mk) (C : Nat) (k : List Int) : Nat → List (List Int)
 | 0 => []
 | n + 1 => fromB m (C - 1 - n) (k.take n) ((geti k n).toNat + 1) ++ lowB m C k n
theorem lowB_all {m : Mk} {C : Nat} {k : List Int} : ∀ n, n ≤ C → behindFrom m C k n ++ lowB m C k n = behindFrom m C k 0
 | 0, _ => by simp [lowB]
 | n + 1, h => by
   rw [← lowB_all n (by omega), behindFrom_step (by omega : n < C), List.append_assoc]
   rfl
theorem lowB_behind (m : Mk) (k : List Int) : lowB m m.c.toNat k m.c.toNat = behind m k := by
 have := lowB_all (m := m) (C := m.c.toNat) (k := k) m.c.toNat (Nat.le_refl _)
 rw [behindFrom_end, List.nil_append] at this
 exact this
theorem own_V1B {w : World} {B : Nat} {e : TypeId} {v : Value} {n : Nat} {l : List Int} {xs : List Value} (h : w.ownsRow B e 1 v n xs) (hx : xs = l.map (Value.int .i64)) : V1 (fun b => B ≤ b) w v l := by
 subst hx; exact (own_F1 h).v1
/-- A key, in memory of S or new. -/
def FirstPost (S : Nat → Prop) (W : World) (a : List Int × Bool) (e' : Ending) (w' : World) : Prop :=
 ∃ v', e' = .returned (.tuple #[v', .bool a.2]) ∧ (a.2 = true → V1 (fun b => S b ∨ W.heap.size ≤ b) w' v' a.1) ∧ Below W.heap.size W w'
set_option maxRecDepth 100000 in
set_option maxHeartbeats 2000000 in
theorem l02First_any (m : Mk) (hm : m.ok = true) : ∀ (rem : Nat) (S : Nat → Prop) (v : Value) (l : List Int) (W : World), V1 S W v l → (l = [] → PV v) → (l.length : Int) + rem = m.c → (∀ k, k < l.length → 0 ≤ geti l k ∧ geti l k ≤ 7) →
  Calls Tryz.prog 119 #[.agg #[.int .i64 m.c, .int .i64 m.d, .int .i64 m.s, .int .i64 m.e, .int .i64 m.l], v] W (FirstPost S W (nextAns (genB m rem l))) := by
 have hmk := Mk.ok_iff.1 hm
 obtain ⟨i0, hi, hz0, hz1, hz2⟩ := info_parts inf_int
 intro rem
 induction rem with
 | zero =>
   intro S v l W h hp hlr hrange
   have hV := h
   have Hrange := Lib.hid hrange; clear hrange
   have Hmk := Lib.hid hmk
   obtain ⟨a, c, rfl, hmx⟩ := h.form
   clear hp hm
   have hlen : l.length ≤ 6 := by omega
   have hl : (l.length : Int) = m.c := by omega
   have e2 : ((l.length : Int) == m.c) = true := by simp [hl]
   have Hl := Lib.hid hl; clear hl hlr hmk
   obtain ⟨W1, hW1, hB01, hz01, HZ01, hc01, hh01⟩ := box_facts W #[.int .i64 m.c, .int .i64 m.d, .int .i64 m.s, .int .i64 m.e, .int .i64 m.l] 31
   have hV1 := hV.below hB01
   cases hb : begins m l
   ·have hfin : nextAns (genB m 0 l) = ([], false) := by unfold genB; rw [if_neg (by rw [hb]; decide)]; rfl
    rw [hfin]
    have Hb := Lib.hid hb; clear hb hfin
    go_enter Tryz.func119, Tryz.ntmps119
    go_wp2_with fail
    rw [← hW1]
    go_wp2_with fail
    refine (l02Begins_b m _ l _ _ Hb.out hV1 (by omega) Hrange.out).mono ?_; rintro e' w2 ⟨rfl, hb_w2⟩; have hB2 := (Below.refl W1.heap.size W1).trans (hb_w2.mono (Below.refl W1.heap.size W1).size)
    clear hc01 hh01
    go_wp2_with fail
    go_ret2
    exact ⟨_, rfl, (fun h => by cases h), hB01.trans (hB2.mono (by omega))⟩
   ·have Hb := Lib.hid hb; clear hb
    obtain ⟨q, hq⟩ : ∃ q, decide (m.l ≤ (kinds l : Int)) = q := ⟨_, rfl⟩
    have hfin : (nextAns (genB m 0 l)).2 = q ∧ (q = true → (nextAns (genB m 0 l)).1 = l) := by
     unfold genB gen; rw [if_pos Hb.out]
     by_cases hk : m.l ≤ (kinds l : Int)
     ·rw [if_pos hk, ← hq, decide_eq_true hk]; exact ⟨rfl, fun _ => rfl⟩
     ·rw [if_neg hk, ← hq, decide_eq_false hk]; exact ⟨rfl, fun h => by cases h⟩
    obtain ⟨ans, hans⟩ : ∃ ans, nextAns (genB m 0 l) = ans := ⟨_, rfl⟩
    rw [hans] at hfin ⊢
    obtain ⟨r1, r2⟩ := ans
    obtain ⟨rfl, hfin⟩ : r2 = q ∧ (q = true → r1 = l) := hfin
    have Hf := Lib.hid hfin; clear hfin hans
    go_enter Tryz.func119, Tryz.ntmps119
    go_wp2_with fail
    rw [← hW1]
    go_wp2_with fail
    refine (l02Begins_b m _ l _ _ Hb.out hV1 (by omega) Hrange.out).mono ?_; rintro e' w2 ⟨rfl, hb_w2⟩; have hB2 := (Below.refl W1.heap.size W1).trans (hb_w2.mono (Below.refl W1.heap.size W1).size)
    have hx2 : ∀ o, (w2).cell? ⟨W.heap.size, o, none⟩ = (#[.int .i64 m.c, .int .i64 m.d, .int .i64 m.s, .int .i64 m.e, .int .i64 m.l] : Array Value)[o]? := fun o => by rw [(bcell hB2).1 _ _ hz01, hc01]
    have HVo := Lib.hid ((hV1.below hB2).mono (S' := fun b => S b ∨ W.heap.size ≤ b) (fun _ h _ => .inl h) (fun _ _ _ => rfl))
    clear hc01 hh01
    go_wp2_with fail
    go_quiet ((go_at_call 139; first | exact quiet_at (l02Kinds_q _ _ _ (V1.drewN (hV1.below hB2))) | exact quiet_at0 (l02Kinds_q _ _ _ (V1.drewN (hV1.below hB2)))))
    go_wp2_with fail
    go_ret2
    exact ⟨_, rfl, (fun h => by rw [Hf.out h]; exact HVo.out.drewN), by repeat' first | refine below_drewN ?_ _ | exact hB01.trans (hB2.mono (by omega))⟩
 | succ rem ih =>
   intro S v l W h hp hlr hrange
   have hV := h
   have Hrange := Lib.hid hrange; clear hrange
   have Hmk := Lib.hid hmk
   obtain ⟨a, c, rfl, hmx⟩ := h.form
   have hlen : l.length ≤ 6 ∧ rem ≤ 5 := by omega
   have hl : ¬ (l.length : Int) = m.c := by omega
   have e2 : ((l.length : Int) == m.c) = false := by simp [hl]
   have Hl := Lib.hid hl; clear hl
   have IH := Lib.hid ih; clear ih
   have Hp := Lib.hid hp; clear hp
   obtain ⟨W1, hW1, hB01, hz01, HZ01, hc01, hh01⟩ := box_facts W #[.int .i64 m.c, .int .i64 m.d, .int .i64 m.s, .int .i64 m.e, .int .i64 m.l] 31
   have hV1 := hV.below hB01
   cases hb : begins m l
   ·have hfin : nextAns (genB m (rem + 1) l) = ([], false) := by unfold genB; rw [if_neg (by rw [hb]; decide)]; rfl
    rw [hfin]
    have Hb := Lib.hid hb; clear hb hlr hmk hfin
    go_enter Tryz.func119, Tryz.ntmps119
    go_wp2_with fail
    rw [← hW1]
    go_wp2_with fail
    refine (l02Begins_b m _ l _ _ Hb.out hV1 (by omega) Hrange.out).mono ?_; rintro e' w2 ⟨rfl, hb_w2⟩; have hB2 := (Below.refl W1.heap.size W1).trans (hb_w2.mono (Below.refl W1.heap.size W1).size)
    clear hc01 hh01
    go_wp2_with fail
    go_ret2
    exact ⟨_, rfl, (fun h => by cases h), hB01.trans (hB2.mono (by omega))⟩
   ·have hfin : genB m (rem + 1) l = fromB m rem l 0 := by rw [genB_succ hb]; rfl
    obtain ⟨ans, hans⟩ : ∃ ans, nextAns (genB m (rem + 1) l) = ans := ⟨_, rfl⟩
    rw [hans]
    have hans0 : ans = nextAns (fromB m rem l 0 ++ []) := by rw [List.append_nil, ← hfin, hans]
    have Hans := Lib.hid hans0; clear hans0 hans hfin
    have Hb := Lib.hid hb; clear hb
    have Hlr := Lib.hid hlr; clear hlr
    obtain ⟨d, hd1, hd2, hd8, hdn⟩ : ∃ d : Nat, m.d ≤ d ∧ (d : Int) ≤ m.d ∧ d ≤ 8 ∧ m.d.toNat = d := ⟨m.d.toNat, by omega, by omega, by omega, rfl⟩
    have Hdn := Lib.hid hdn; clear hdn
    clear hmk
    have Hm := Lib.hid hm; clear hm
    go_enter Tryz.func119, Tryz.ntmps119
    go_wp2_with fail
    rw [← hW1]
    go_wp2_with fail
    refine (l02Begins_b m _ l _ _ Hb.out hV1 (by omega) Hrange.out).mono ?_; rintro e' w2 ⟨rfl, hb_w2⟩; have hB2 := (Below.refl W1.heap.size W1).trans (hb_w2.mono (Below.refl W1.heap.size W1).size)
    have hx2 : ∀ o, (w2).cell? ⟨W.heap.size, o, none⟩ = (#[.int .i64 m.c, .int .i64 m.d, .int .i64 m.s, .int .i64 m.e, .int .i64 m.l] : Array Value)[o]? := fun o => by rw [(bcell hB2).1 _ _ hz01, hc01]
    have Hc01 := Lib.hid hc01; clear hc01
    have HW1 := Lib.hid hW1; clear hW1
    clear hh01
    go_wp2_with fail
    have Hx2 := Lib.hid hx2; clear hx2
    go_loopw [6, 7, 8] (fun i _ _ wr => ∃ x : Nat, x ≤ d ∧ i = .int .i64 (x : Int) ∧ ans = nextAns (fromB m rem l x ++ []) ∧ Below W1.heap.size W1 wr) (fun i _ _ _ => d - (intOf i).toNat)
    case atStart => exact ⟨0, Nat.zero_le _, rfl, Hans.out, hB2⟩
    case round =>
     obtain ⟨x, hx, rfl, hrem, hB⟩ := hrel
     have Hrem := Lib.hid hrem; clear hrem
     have hxr : ∀ o, wr.cell? ⟨W.heap.size, o, none⟩ = (#[.int .i64 m.c, .int .i64 m.d, .int .i64 m.s, .int .i64 m.e, .int .i64 m.l] : Array Value)[o]? := fun o => by rw [(bcell hB).1 _ _ hz01, Hc01.out]
     have hzr := hB.size
     by_cases hxx : x < d
     ·obtain ⟨r, hr⟩ : ∃ r, nextAns (genB m rem (l ++ [(x : Int)])) = r := ⟨_, rfl⟩
      have hnx := fromB_next (m := m) (rem := rem) (l := l) (x := x) (t := []) (by rw [Hdn.out]; exact hxx)
      rw [hr] at hnx
      have Hr := Lib.hid hr; clear hr
      obtain ⟨r1, r2⟩ := r
      have Hnx := Lib.hid hnx; clear hnx
      have hcell0 := hxr 0
      have hcell1 := hxr 1
      have hcell2 := hxr 2
      have hcell3 := hxr 3
      have hcell4 := hxr 4
      simp at hcell0 hcell1 hcell2 hcell3 hcell4
      have Hxr := Lib.hid hxr
      have hbB : W.heap.size < wr.heap.size := by omega
      have hxd : decide ((x : Int) < m.d) = true := by simp; omega
      cases r2
      ·skip
       go_wp2_with fail
       go_region_held3 (fun w' => w'.cell? ⟨W.heap.size, 0, none⟩ = some (.int .i64 m.c) ∧ w'.cell? ⟨W.heap.size, 1, none⟩ = some (.int .i64 m.d) ∧ w'.cell? ⟨W.heap.size, 2, none⟩ = some (.int .i64 m.s) ∧ w'.cell? ⟨W.heap.size, 3, none⟩ = some (.int .i64 m.e) ∧ w'.cell? ⟨W.heap.size, 4, none⟩ = some (.int .i64 m.l) ∧ Below wr.heap.size wr w')
        (first | exact ⟨hcell0, hcell1, hcell2, hcell3, hcell4, (Below.refl _ _).drew⟩ | exact mkB_call hbB (by assumption) (by assumption) | exact mkB_alloc hbB (by assumption) _ | exact mkB_grown hbB (by assumption) (by assumption) (own_lo hown1 (Nat.le_refl _)))
        (first | (go_at_call 77; refine (l01Own_any _ l _ (hV1.below (hB.trans ((mkB_below (by assumption)).mono hzr))) Hp.out (by omega)).mono ?_; rintro e' w' ⟨v1, rfl, hown0, hb⟩; have hzz := Nat.le_trans (mkB_size (by assumption)) hb.size; have hown1 := own_base hown0 (mkB_size (by assumption)); clear hown0) | (refine step_append_lies _ (by rfl) _ _ _ (by rfl) wr.heap.size 2 i0 _ 1 8 Tryz.underlying44 hi hz0 hz1 hz2 rfl (by omega) _ l.length _ (by rfl) (hown1.alloc _) ⟨_, 0, none⟩ 1 1 [.int .i64 x] (by rfl) (by rfl) (World.news_of_block (heap_alloc_new _ _)) (by simp [Value.oneCell']) (by omega) (by unfold maxLen; omega) (by omega) (by simp; omega) _ rfl ?_; intro gg cap w1 hown2 hgrow hat hlt) | (refine step_append_lies _ (by rfl) _ _ _ (by rfl) wr.heap.size 2 i0 _ 1 8 Tryz.underlying44 hi hz0 hz1 hz2 rfl (by omega) _ l.length _ (by rfl) hown1 ⟨_, 0, none⟩ 1 1 [.int .i64 x] (by rfl) (by rfl) (news_old hb) (by simp [Value.oneCell']) (by omega) (by unfold maxLen; omega) (by omega) (by omega) _ rfl ?_; intro gg cap w1 hown2 hgrow hat hlt) | (go_at_call 119; refine (IH.out _ _ (l ++ [(x : Int)]) _ (own_V1B (by assumption) (by simp)) (fun h => by simp at h) (by have := Hlr.out; simp; omega) (range_snoc Hrange.out (by omega))).mono ?_; rintro e' wq ⟨v2, he2, hk2, hb⟩; rw [Hr.out] at he2 hk2; subst he2; have hk3 := (fun hh => V1.mono (S' := fun b => W.heap.size ≤ b) (hk2 hh) (fun b h _ => by have g1 := (hown2.lt _ rfl).1; have g2 := (hown2.lt _ rfl).2; rcases h with h | h <;> exact Nat.le_trans (by omega) h) (fun _ _ _ => rfl)); clear hk2))
       all_goals
        have hBw := mkB_below (w0 := wr) (by assumption)
        have Hk2 := Lib.hid hk3; clear hk3
        go_wp2_with fail
        go_roundw
        case rel => exact ⟨x + 1, by omega, by go_num, by rw [Hrem.out, Hnx.out]; rfl, hB.trans (hBw.mono hzr)⟩
        case measure => simp [intOf]; omega
      ·have ha : ans = (r1, true) := by rw [Hrem.out, Hnx.out]; rfl
       have Ha := Lib.hid ha; clear ha
       go_wp2_with fail
       go_region_held3 (fun w' => w'.cell? ⟨W.heap.size, 0, none⟩ = some (.int .i64 m.c) ∧ w'.cell? ⟨W.heap.size, 1, none⟩ = some (.int .i64 m.d) ∧ w'.cell? ⟨W.heap.size, 2, none⟩ = some (.int .i64 m.s) ∧ w'.cell? ⟨W.heap.size, 3, none⟩ = some (.int .i64 m.e) ∧ w'.cell? ⟨W.heap.size, 4, none⟩ = some (.int .i64 m.l) ∧ Below wr.heap.size wr w')
        (first | exact ⟨hcell0, hcell1, hcell2, hcell3, hcell4, (Below.refl _ _).drew⟩ | exact mkB_call hbB (by assumption) (by assumption) | exact mkB_alloc hbB (by assumption) _ | exact mkB_grown hbB (by assumption) (by assumption) (own_lo hown1 (Nat.le_refl _)))
        (first | (go_at_call 77; refine (l01Own_any _ l _ (hV1.below (hB.trans ((mkB_below (by assumption)).mono hzr))) Hp.out (by omega)).mono ?_; rintro e' w' ⟨v1, rfl, hown0, hb⟩; have hzz := Nat.le_trans (mkB_size (by assumption)) hb.size; have hown1 := own_base hown0 (mkB_size (by assumption)); clear hown0) | (refine step_append_lies _ (by rfl) _ _ _ (by rfl) wr.heap.size 2 i0 _ 1 8 Tryz.underlying44 hi hz0 hz1 hz2 rfl (by omega) _ l.length _ (by rfl) (hown1.alloc _) ⟨_, 0, none⟩ 1 1 [.int .i64 x] (by rfl) (by rfl) (World.news_of_block (heap_alloc_new _ _)) (by simp [Value.oneCell']) (by omega) (by unfold maxLen; omega) (by omega) (by simp; omega) _ rfl ?_; intro gg cap w1 hown2 hgrow hat hlt) | (refine step_append_lies _ (by rfl) _ _ _ (by rfl) wr.heap.size 2 i0 _ 1 8 Tryz.underlying44 hi hz0 hz1 hz2 rfl (by omega) _ l.length _ (by rfl) hown1 ⟨_, 0, none⟩ 1 1 [.int .i64 x] (by rfl) (by rfl) (news_old hb) (by simp [Value.oneCell']) (by omega) (by unfold maxLen; omega) (by omega) (by omega) _ rfl ?_; intro gg cap w1 hown2 hgrow hat hlt) | (go_at_call 119; refine (IH.out _ _ (l ++ [(x : Int)]) _ (own_V1B (by assumption) (by simp)) (fun h => by simp at h) (by have := Hlr.out; simp; omega) (range_snoc Hrange.out (by omega))).mono ?_; rintro e' wq ⟨v2, he2, hk2, hb⟩; rw [Hr.out] at he2 hk2; subst he2; have hk3 := (fun hh => V1.mono (S' := fun b => W.heap.size ≤ b) (hk2 hh) (fun b h _ => by have g1 := (hown2.lt _ rfl).1; have g2 := (hown2.lt _ rfl).2; rcases h with h | h <;> exact Nat.le_trans (by omega) h) (fun _ _ _ => rfl)); clear hk2))
       all_goals
        have hBw := mkB_below (w0 := wr) (by assumption)
        have Hk2 := Lib.hid hk3; clear hk3
        go_wp2_with fail
        go_ret2
        unfold FirstPost
        rw [Ha.out]
        exact ⟨_, rfl, (fun _ => (Hk2.out (by trivial)).mono (fun _ h _ => .inr h) (fun _ _ _ => rfl)), hB01.trans ((hB.trans (hBw.mono hzr)).mono (by omega))⟩
     ·have hfx : ans = ([], false) := by rw [Hrem.out, fromB_end (by rw [Hdn.out]; omega)]; rfl
      have Hfx := Lib.hid hfx; clear hfx
      go_wp2_with fail
      go_ret2
      unfold FirstPost
      rw [Hfx.out]
      exact ⟨_, rfl, (fun h => by cases h), hB01.trans (hB.mono (by omega))⟩
theorem behind_nextAns {m : Mk} {k : List Int} {C : Nat} (hC : m.c.toNat = C) : nextAns (behind m k) = nextAns (lowB m C k C) := by rw [← hC, lowB_behind]
set_option maxRecDepth 100000 in
set_option maxHeartbeats 4000000 in
theorem l02Next_any {S : Nat → Prop} (m : Mk) (hm : m.ok = true) (v : Value) (l : List Int) (W : World) (h : V1 S W v l) (hlr : (l.length : Int) = m.c) (hrange : ∀ k, k < l.length → 0 ≤ geti l k ∧ geti l k ≤ 7) :
  Calls Tryz.prog 121 #[.agg #[.int .i64 m.c, .int .i64 m.d, .int .i64 m.s, .int .i64 m.e, .int .i64 m.l], v] W (FirstPost (fun _ => False) W (nextAns (behind m l))) := by
 have hmk := Mk.ok_iff.1 hm
 obtain ⟨i0, hi, hz0, hz1, hz2⟩ := info_parts inf_int
 obtain ⟨C, hC⟩ : ∃ C, m.c.toNat = C := ⟨_, rfl⟩
 obtain ⟨ans, hans⟩ : ∃ ans, nextAns (behind m l) = ans := ⟨_, rfl⟩
 rw [hans]
 have hans0 : ans = nextAns (lowB m C l C) := by rw [← hans, behind_nextAns hC]
 have hlC : l.length = C := by omega
 have hC6 : 2 ≤ C ∧ C ≤ 6 := by omega
 have hCm : (C : Int) = m.c := by omega
 obtain ⟨b0, off0, c, rfl, hcl⟩ : ∃ b0 off0 c, v = .slice (some ⟨b0, off0, none⟩) l.length c ∧ l.length ≤ c := by
  obtain ⟨a, c, rfl, hc, _⟩ := id h
  obtain ⟨b0, off0, rfl, _⟩ := h.cell (k := 0) (by omega)
  exact ⟨b0, off0, c, rfl, hc⟩
 obtain ⟨d, hd1, hd2, hd8, hdn⟩ : ∃ d : Nat, m.d ≤ d ∧ (d : Int) ≤ m.d ∧ d ≤ 8 ∧ m.d.toNat = d := ⟨m.d.toNat, by omega, by omega, by omega, rfl⟩
 have hlen := h.len
 unfold maxLen at hlen
 have Hdn := Lib.hid hdn; clear hdn
 have Hrange := Lib.hid hrange; clear hrange
 have Hans := Lib.hid hans0; clear hans0 hans
 have Hm := Lib.hid hm; clear hm hmk hC
 have HC := Lib.hid hCm; clear hCm hlr
 have hl1 : l.length ≤ C := by omega
 have hl2 : C ≤ l.length := by omega
 have HlC := Lib.hid hlC; clear hlC
 obtain ⟨W1, hW1, hB01, hz01, HZ01, hc01, hh01⟩ := box_facts W #[.int .i64 m.c, .int .i64 m.d, .int .i64 m.s, .int .i64 m.e, .int .i64 m.l] 31
 have hV1 := h.below hB01
 go_enter Tryz.func121, Tryz.ntmps121
 go_wp2_with fail
 rw [← hW1]
 have Hc01 := Lib.hid hc01; clear hc01
 have HW1 := Lib.hid hW1; clear hW1
 clear hh01
 go_loopw [6, 7, 8, 9] (fun i _ _ _ wr => ∃ (j : Nat) (z : Int), j ≤ C ∧ i = .int .i64 z ∧ z = (j : Int) - 1 ∧ ans = nextAns (lowB m C l j) ∧ Below W1.heap.size W1 wr) (fun i _ _ _ _ => (intOf i + 1).toNat)
 case atStart => exact ⟨C, _, Nat.le_refl _, rfl, by rw [HlC.out], Hans.out, Below.refl _ _⟩
 case round =>
  obtain ⟨j, z, hj, rfl, hz, hrem, hBo⟩ := hrel
  have Hrem := Lib.hid hrem; clear hrem
  obtain ⟨wo, rfl⟩ : ∃ wo, wo = wr := ⟨_, rfl⟩
  have hzo := hBo.size
  by_cases hj0 : j = 0
  ·have hfx : ans = ([], false) := by rw [Hrem.out, hj0]; rfl
   subst hj0
   have hzn : z < 0 := by omega
   have Hz := Lib.hid hz; clear hz
   have Hfx := Lib.hid hfx; clear hfx
   go_wp2_with fail
   go_ret2
   unfold FirstPost
   rw [Hfx.out]
   exact ⟨_, rfl, (fun h => by cases h), hB01.trans (hBo.mono (by omega))⟩
  ·obtain ⟨n, rfl⟩ : ∃ n, j = n + 1 := ⟨j - 1, by omega⟩
   obtain rfl : z = (n : Int) := by omega
   clear hz
   have hnl : n < l.length := by omega
   have hrg := Hrange.out n hnl
   obtain ⟨b1, off1, e1, _, hc1⟩ := (hV1.below hBo).cell hnl
   simp only [Option.some.injEq, Addr.mk.injEq, and_true] at e1
   obtain ⟨rfl, rfl⟩ := e1
   obtain ⟨g, hg, hg7⟩ : ∃ g : Nat, geti l n = g ∧ g ≤ 7 := ⟨(geti l n).toNat, by omega, by omega⟩
   rw [hg] at hc1
   have hst : lowB m C l (n + 1) = fromB m (C - 1 - n) (l.take n) (g + 1) ++ lowB m C l n := by rw [lowB, hg, Int.toNat_natCast]
   have Hst := Lib.hid hst; clear hst
   have htk : V1 S wo (.slice (some ⟨b0, off0, none⟩) n c) (l.take n) := (hV1.below hBo).take (by omega)
   have htl : (l.take n).length = n := by rw [List.length_take]; omega
   have hrt : ∀ x : Nat, x < 8 → ∀ k, k < (l.take n ++ [(x : Int)]).length → 0 ≤ geti (l.take n ++ [(x : Int)]) k ∧ geti (l.take n ++ [(x : Int)]) k ≤ 7 := fun x hx => range_snoc (fun k hk => by rw [htl] at hk; rw [geti_take hk]; exact Hrange.out k (by omega)) hx
   have Hrt0 := Lib.hid hrt; clear hrt hrg hg
   have Htl := Lib.hid htl; clear htl
   have hpv : l.take n = [] → PV (.slice (some ⟨b0, off0, none⟩) n c) := fun _ => .inr ⟨_, _, _, _, rfl⟩
   have Hpv := Lib.hid hpv; clear hpv
   have hn0 : (0 : Int) ≤ (n : Int) := by omega
   have hnc : (n : Int) ≤ (c : Int) := by omega
   go_wp2_with fail
   clear hc1
   go_loopw [7, 8, 9] (fun i _ _ wr => ∃ x : Nat, g + 1 ≤ x ∧ x ≤ max d (g + 1) ∧ i = .int .i64 (x : Int) ∧ ans = nextAns (fromB m (C - 1 - n) (l.take n) x ++ lowB m C l n) ∧ Below wo.heap.size wo wr) (fun i _ _ _ => d - (intOf i).toNat)
   case atStart => exact ⟨g + 1, Nat.le_refl _, by omega, by go_num, by rw [← Hst.out]; exact Hrem.out, Below.refl _ _⟩
   case round =>
    obtain ⟨x, hx1, hx2, rfl, hrem, hBn⟩ := hrel
    have Hrem2 := Lib.hid hrem; clear hrem
    have hzr := hBn.size
    have hBW := hBo.trans (hBn.mono hzo)
    have hxr : ∀ o, wr.cell? ⟨W.heap.size, o, none⟩ = (#[.int .i64 m.c, .int .i64 m.d, .int .i64 m.s, .int .i64 m.e, .int .i64 m.l] : Array Value)[o]? := fun o => by rw [(bcell hBW).1 _ _ hz01, Hc01.out]
    by_cases hxx : x < d
    ·obtain ⟨r, hr⟩ : ∃ r, nextAns (genB m (C - 1 - n) (l.take n ++ [(x : Int)])) = r := ⟨_, rfl⟩
     have hnx := fromB_next (m := m) (rem := C - 1 - n) (l := l.take n) (x := x) (t := lowB m C l n) (by rw [Hdn.out]; exact hxx)
     rw [hr] at hnx
     have Hr := Lib.hid hr; clear hr
     obtain ⟨r1, r2⟩ := r
     have Hnx := Lib.hid hnx; clear hnx
     have htk := htk.below hBn
     have Hrt := Lib.hid (Hrt0.out x (by omega))
     have hcell0 := hxr 0
     have hcell1 := hxr 1
     have hcell2 := hxr 2
     have hcell3 := hxr 3
     have hcell4 := hxr 4
     simp at hcell0 hcell1 hcell2 hcell3 hcell4
     have Hxr := Lib.hid hxr
     have hbB : W.heap.size < wr.heap.size := by omega
     have hxd : decide ((x : Int) < m.d) = true := by simp; omega
     cases r2
     ·skip
      go_wp2_with fail
      go_region_held3 (fun w' => w'.cell? ⟨W.heap.size, 0, none⟩ = some (.int .i64 m.c) ∧ w'.cell? ⟨W.heap.size, 1, none⟩ = some (.int .i64 m.d) ∧ w'.cell? ⟨W.heap.size, 2, none⟩ = some (.int .i64 m.s) ∧ w'.cell? ⟨W.heap.size, 3, none⟩ = some (.int .i64 m.e) ∧ w'.cell? ⟨W.heap.size, 4, none⟩ = some (.int .i64 m.l) ∧ Below wr.heap.size wr w')
       (first | exact ⟨hcell0, hcell1, hcell2, hcell3, hcell4, (Below.refl _ _).drew⟩ | exact mkB_call hbB (by assumption) (by assumption) | exact mkB_alloc hbB (by assumption) _ | exact mkB_grown hbB (by assumption) (by assumption) (own_lo hown1 (Nat.le_refl _)))
       (first | (go_at_call 77; refine (l01Own_any _ (l.take n) _ (htk.below ((mkB_below (by assumption)))) Hpv.out (by rw [Htl.out]; omega)).mono ?_; rintro e' w' ⟨v1, rfl, hown0, hb⟩; rw [Htl.out] at hown0; have hzz := Nat.le_trans (mkB_size (by assumption)) hb.size; have hown1 := own_base hown0 (mkB_size (by assumption)); clear hown0) | (refine step_append_lies _ (by rfl) _ _ _ (by rfl) wr.heap.size 2 i0 _ 1 8 Tryz.underlying44 hi hz0 hz1 hz2 rfl (by omega) _ n _ (by rfl) (hown1.alloc _) ⟨_, 0, none⟩ 1 1 [.int .i64 x] (by rfl) (by rfl) (World.news_of_block (heap_alloc_new _ _)) (by simp [Value.oneCell']) (by omega) (by unfold maxLen; omega) (by omega) (by simp; omega) _ rfl ?_; intro gg cap w1 hown2 hgrow hat hlt) | (refine step_append_lies _ (by rfl) _ _ _ (by rfl) wr.heap.size 2 i0 _ 1 8 Tryz.underlying44 hi hz0 hz1 hz2 rfl (by omega) _ n _ (by rfl) hown1 ⟨_, 0, none⟩ 1 1 [.int .i64 x] (by rfl) (by rfl) (news_old hb) (by simp [Value.oneCell']) (by omega) (by unfold maxLen; omega) (by omega) (by omega) _ rfl ?_; intro gg cap w1 hown2 hgrow hat hlt) | (go_at_call 119; refine (l02First_any m Hm.out (C - 1 - n) _ _ (l.take n ++ [(x : Int)]) _ (own_V1B (by assumption) (by simp)) (fun h => by simp at h) (by have := Htl.out; have := HC.out; simp [Htl.out]; omega) Hrt.out).mono ?_; rintro e' wq ⟨v2, he2, hk2, hb⟩; rw [Hr.out] at he2 hk2; subst he2; have hk3 := (fun hh => V1.mono (S' := fun b => W.heap.size ≤ b) (hk2 hh) (fun b h _ => by have g1 := (hown2.lt _ rfl).1; have g2 := (hown2.lt _ rfl).2; rcases h with h | h <;> exact Nat.le_trans (by omega) h) (fun _ _ _ => rfl)); clear hk2))
      all_goals
       have hBw := mkB_below (w0 := wr) (by assumption)
       have Hk2 := Lib.hid hk3; clear hk3
       go_wp2_with fail
       go_roundw
       case rel => exact ⟨x + 1, by omega, by omega, by go_num, by rw [Hrem2.out, Hnx.out]; rfl, hBn.trans (hBw.mono hzr)⟩
       case measure => simp [intOf]; omega
     ·have ha : ans = (r1, true) := by rw [Hrem2.out, Hnx.out]; rfl
      have Ha := Lib.hid ha; clear ha
      go_wp2_with fail
      go_region_held3 (fun w' => w'.cell? ⟨W.heap.size, 0, none⟩ = some (.int .i64 m.c) ∧ w'.cell? ⟨W.heap.size, 1, none⟩ = some (.int .i64 m.d) ∧ w'.cell? ⟨W.heap.size, 2, none⟩ = some (.int .i64 m.s) ∧ w'.cell? ⟨W.heap.size, 3, none⟩ = some (.int .i64 m.e) ∧ w'.cell? ⟨W.heap.size, 4, none⟩ = some (.int .i64 m.l) ∧ Below wr.heap.size wr w')
       (first | exact ⟨hcell0, hcell1, hcell2, hcell3, hcell4, (Below.refl _ _).drew⟩ | exact mkB_call hbB (by assumption) (by assumption) | exact mkB_alloc hbB (by assumption) _ | exact mkB_grown hbB (by assumption) (by assumption) (own_lo hown1 (Nat.le_refl _)))
       (first | (go_at_call 77; refine (l01Own_any _ (l.take n) _ (htk.below ((mkB_below (by assumption)))) Hpv.out (by rw [Htl.out]; omega)).mono ?_; rintro e' w' ⟨v1, rfl, hown0, hb⟩; rw [Htl.out] at hown0; have hzz := Nat.le_trans (mkB_size (by assumption)) hb.size; have hown1 := own_base hown0 (mkB_size (by assumption)); clear hown0) | (refine step_append_lies _ (by rfl) _ _ _ (by rfl) wr.heap.size 2 i0 _ 1 8 Tryz.underlying44 hi hz0 hz1 hz2 rfl (by omega) _ n _ (by rfl) (hown1.alloc _) ⟨_, 0, none⟩ 1 1 [.int .i64 x] (by rfl) (by rfl) (World.news_of_block (heap_alloc_new _ _)) (by simp [Value.oneCell']) (by omega) (by unfold maxLen; omega) (by omega) (by simp; omega) _ rfl ?_; intro gg cap w1 hown2 hgrow hat hlt) | (refine step_append_lies _ (by rfl) _ _ _ (by rfl) wr.heap.size 2 i0 _ 1 8 Tryz.underlying44 hi hz0 hz1 hz2 rfl (by omega) _ n _ (by rfl) hown1 ⟨_, 0, none⟩ 1 1 [.int .i64 x] (by rfl) (by rfl) (news_old hb) (by simp [Value.oneCell']) (by omega) (by unfold maxLen; omega) (by omega) (by omega) _ rfl ?_; intro gg cap w1 hown2 hgrow hat hlt) | (go_at_call 119; refine (l02First_any m Hm.out (C - 1 - n) _ _ (l.take n ++ [(x : Int)]) _ (own_V1B (by assumption) (by simp)) (fun h => by simp at h) (by have := Htl.out; have := HC.out; simp [Htl.out]; omega) Hrt.out).mono ?_; rintro e' wq ⟨v2, he2, hk2, hb⟩; rw [Hr.out] at he2 hk2; subst he2; have hk3 := (fun hh => V1.mono (S' := fun b => W.heap.size ≤ b) (hk2 hh) (fun b h _ => by have g1 := (hown2.lt _ rfl).1; have g2 := (hown2.lt _ rfl).2; rcases h with h | h <;> exact Nat.le_trans (by omega) h) (fun _ _ _ => rfl)); clear hk2))
      all_goals
       have hBw := mkB_below (w0 := wr) (by assumption)
       have Hk2 := Lib.hid hk3; clear hk3
       go_wp2_with fail
       go_ret2
       unfold FirstPost
       rw [Ha.out]
       exact ⟨_, rfl, (fun _ => (Hk2.out (by trivial)).mono (fun _ h _ => .inr h) (fun _ _ _ => rfl)), hB01.trans ((hBW.trans (hBw.mono (by omega))).mono (by omega))⟩
    ·have hfx : ans = nextAns (lowB m C l n) := by rw [Hrem2.out, fromB_end (by rw [Hdn.out]; omega), List.nil_append]
     have Hfx := Lib.hid hfx; clear hfx
     go_wp2_with fail
     go_roundw
     case rel => exact ⟨n, _, by omega, rfl, by omega, Hfx.out, hBW⟩
     case measure => simp [intOf]
theorem RowVs.mono {S S' : Nat → Prop} {w : World} {vs : List Value} {ls : List (List Int)} (h : RowVs S w vs ls) (hS : ∀ b, S b → b < w.heap.size → S' b) : RowVs S' w vs ls :=
 ⟨h.1, fun k hk => by obtain ⟨ev, h1, h2⟩ := h.2 k hk; exact ⟨ev, h1, V1.mono h2 hS (fun _ _ _ => rfl)⟩⟩
theorem V1.far {w w1 : World} {ou v1 kv : Value} {k : List Int} (h : V1 (fun b => ou.ownBlock ≠ some b) w kv k) (hg : w.grownBy w1 ou.ownBlock) (hblk : v1.ownBlock = ou.ownBlock ∨ ∃ g, v1.ownBlock = some g ∧ w.heap.size ≤ g) : V1 (fun b => v1.ownBlock ≠ some b) w1 kv k :=
 h.mono (fun b h1 h2 e => by
  rcases hblk with e1 | ⟨g, e1, hge⟩
  ·exact h1 (e1.symm.trans e)
  ·rw [e] at e1; cases e1; omega) (grow_keep hg fun g hgg hS => hS hgg)
theorem RowVs.far {w w1 : World} {ou v1 : Value} {vs : List Value} {ls : List (List Int)} (h : RowVs (fun b => ou.ownBlock ≠ some b) w vs ls) (hg : w.grownBy w1 ou.ownBlock) (hblk : v1.ownBlock = ou.ownBlock ∨ ∃ g, v1.ownBlock = some g ∧ w.heap.size ≤ g) : RowVs (fun b => v1.ownBlock ≠ some b) w1 vs ls :=
 ⟨h.1, fun k hk => by obtain ⟨ev, h1, h2⟩ := h.2 k hk; exact ⟨ev, h1, V1.far h2 hg hblk⟩⟩
theorem big_any {S : Nat → Prop} (v : Value) (l : List Int) (W : World) (r : Bool) (hr : decide (4096 < l.length) = r) (h : VB S W v l) :
  Calls Tryz.prog 18 #[v] W fun e' w' => e' = .returned (.bool r) ∧ W = w' := by
 obtain ⟨a, c, rfl, hm⟩ := h.form
 clear h
 have hr2 : decide ((4096 : Int) < (l.length : Int)) = r := by rw [← hr]; exact decide_eq_decide.2 (by omega)
 go_enter Tryz.func18, Tryz.ntmps18
 go_wp2_with fail
 go_ret
 first | exact ⟨rfl, rfl⟩ | exact ⟨ret_bool hr, rfl⟩ | exact ⟨ret_bool hr2, rfl⟩
def openS (x : Int × Int) : Bool := x.1 == -1 && x.2 == 0
theorem isOpenStep_any (x : Int × Int) (W : World) :
  Calls Tryz.prog 156 #[.agg #[.int .i64 x.1, .int .i64 x.2]] W fun e' w' => e' = .returned (.bool (openS x)) ∧ Below W.heap.size W w' := by
 obtain ⟨k, d⟩ := x
 go_enter Tryz.func156, Tryz.ntmps156
 go_wp2
 all_goals go_ret
 all_goals exact ⟨by simp_all [openS], by (repeat (first | (with_reducible refine Below.setCell ?_ ?_ _) | (with_reducible refine Below.alloc ?_ ?_ _) | (with_reducible refine Below.drew ?_) | (with_reducible refine below_drewN ?_ _) | (with_reducible exact Below.refl _ _) | (with_reducible assumption) | (with_reducible refine Below.trans ?_ (Below.mono (by with_reducible assumption) ?_)) | go_size))⟩
theorem isOpenStep_b (x : Int × Int) (W : World) (r : Bool) (hr : openS x = r) :
  Calls Tryz.prog 156 #[.agg #[.int .i64 x.1, .int .i64 x.2]] W fun e' w' => e' = .returned (.bool r) ∧ Below W.heap.size W w' := by subst hr; exact isOpenStep_any _ _
theorem inf_step : (Tryz.prog.info? 107).map (fun i => (i.zero, i.size, i.bytes)) = some (some (.agg #[.int .i64 0, .int .i64 0]), 2, 16) := by kernel_rfl
/-- v holds steps, in block b alone. -/
def XS (w : World) (v : Value) (l : List (Int × Int)) (b : Nat) : Prop :=
 ∃ a c, v = .slice a l.length c ∧ l.length ≤ c ∧ c ≤ maxLen ∧
   (l ≠ [] → ∃ off cs e, a = some ⟨b, off, none⟩ ∧ w.heap[b]? = some (.cells cs e (0, 0)) ∧ ∀ k, k < l.length → cs[off + k * 2]? = some (.int .i64 (gets l k).1) ∧ cs[off + k * 2 + 1]? = some (.int .i64 (gets l k).2))
theorem XS.keep {w w' : World} {v : Value} {l : List (Int × Int)} {b : Nat} (h : XS w v l b) (hk : l ≠ [] → w'.heap[b]? = w.heap[b]?) : XS w' v l b := by
 obtain ⟨a, c, rfl, h1, h2, h⟩ := h
 refine ⟨a, c, rfl, h1, h2, fun hn => ?_⟩
 obtain ⟨off, cs, e, ha, hh, hc⟩ := h hn
 exact ⟨off, cs, e, ha, by rw [hk hn, hh], hc⟩
theorem XS.lt {w : World} {v : Value} {l : List (Int × Int)} {b : Nat} (h : XS w v l b) (hn : l ≠ []) : b < w.heap.size := by
 obtain ⟨a, c, rfl, h1, h2, h⟩ := h
 obtain ⟨off, cs, e, ha, hh, hc⟩ := h hn
 exact lt_of_heap hh
theorem XS.vs {w : World} {v : Value} {l : List (Int × Int)} {b : Nat} {S : Nat → Prop} (h : XS w v l b) (hS : l ≠ [] → S b) : VS S w v l := by
 obtain ⟨a, c, rfl, h1, h2, h⟩ := h
 refine ⟨a, c, rfl, h1, h2, fun k hk => ?_⟩
 have hn : l ≠ [] := by intro e; subst e; simp at hk
 obtain ⟨off, cs, e, ha, hh, hc⟩ := h hn
 exact ⟨b, off, ha, hS hn, by rw [cell_of_block hh]; exact (hc k hk).1, by rw [cell_of_block hh]; exact (hc k hk).2⟩
theorem VS.any {S : Nat → Prop} {w : World} {v : Value} {l : List (Int × Int)} (h : VS S w v l) : VS (fun _ => True) w v l := h.mono (fun _ _ _ => trivial) (fun _ _ _ => rfl)
theorem likeSteps_q {S S' : Nat → Prop} (va vb : Value) (a b : List (Int × Int)) (W : World) (ha : VS S W va a) (hb : VS S' W vb b) :
  Calls Tryz.prog 39 #[va, vb] W fun e' w' => e' = .returned (.bool (decide (a = b))) ∧ ∃ n, w' = W.drewN n := by
 have hA := ha
 have hB := hb
 obtain ⟨pa, ca, rfl, hma⟩ := ha.form
 obtain ⟨pb, cb, rfl, hmb⟩ := hb.form
 by_cases hl : a.length = b.length
 ·have hle : ((a.length : Int) == (b.length : Int)) = true := by simp; omega
  have hle2 : ((a.length : Int) != (b.length : Int)) = false := by simp; omega
  have Hl := Lib.hid hl; clear hl
  go_enter Tryz.func39, Tryz.ntmps39
  go_wp2_with fail
  go_loopw [5] (fun i wr => ∃ (k n : Nat), k ≤ a.length ∧ i = .int .i64 k ∧ a.take k = b.take k ∧ wr = W.drewN n) (fun i _ => a.length - (intOf i).toNat)
  case atStart => exact ⟨0, 0, Nat.zero_le _, rfl, rfl, rfl⟩
  case round =>
   obtain ⟨k, n, hk, rfl, hpre, rfl⟩ := hrel
   have Hpre := Lib.hid hpre; clear hpre
   by_cases hkk : k < a.length
   ·have hkb : k < b.length := by rw [← Hl.out]; exact hkk
    obtain ⟨b1, off1, rfl, _, hc1, hd1⟩ := hA.cell hkk
    obtain ⟨b2, off2, rfl, _, hc2, hd2⟩ := hB.cell hkb
    obtain ⟨x, hx⟩ : ∃ x, gets a k = x := ⟨_, rfl⟩
    obtain ⟨y, hy⟩ : ∃ y, gets b k = y := ⟨_, rfl⟩
    rw [hx] at hc1 hd1
    rw [hy] at hc2 hd2
    have Hxy := Lib.hid (And.intro hx hy); clear hx hy
    by_cases he1 : x.1 = y.1
    ·have e1 : (x.1 == y.1) = true := by simp [he1]
     by_cases he2 : x.2 = y.2
     ·have e2 : (x.2 == y.2) = true := by simp [he2]
      have he : x = y := Prod.ext he1 he2
      have He := Lib.hid he; clear he he1 he2
      go_wp2_with fail
      go_quiet (fail)
      go_wp2_with fail
      go_roundw
      case rel => exact ⟨k + 1, _, by omega, by go_num, by rw [take_gets hkk, take_gets hkb, Hpre.out, Hxy.out.1, Hxy.out.2, He.out], rfl⟩
      case measure => simp [intOf]; omega
     ·have e2 : (x.2 == y.2) = false := by simp [he2]
      have hne : decide (a = b) = false := decide_eq_false (fun e => he2 (by rw [← Hxy.out.1, ← Hxy.out.2, e]))
      have Hne := Lib.hid hne; clear hne he1 he2
      go_wp2_with fail
      go_quiet (fail)
      go_wp2_with fail
      go_ret
      exact ⟨ret_bool Hne.out.symm, _, by first | rfl | rw [World.drewN_drewN]⟩
    ·have e1 : (x.1 == y.1) = false := by simp [he1]
     have hne : decide (a = b) = false := decide_eq_false (fun e => he1 (by rw [← Hxy.out.1, ← Hxy.out.2, e]))
     have Hne := Lib.hid hne; clear hne he1
     go_wp2_with fail
     go_quiet (fail)
     go_wp2_with fail
     go_ret
     exact ⟨ret_bool Hne.out.symm, _, by first | rfl | rw [World.drewN_drewN]⟩
   ·have hab : a = b := by
     have := Hpre.out
     rw [List.take_of_length_le (by omega), List.take_of_length_le (by rw [← Hl.out]; omega)] at this
     exact this
    have heq : decide (a = b) = true := decide_eq_true hab
    have Heq := Lib.hid heq; clear heq hab
    go_wp2_with fail
    go_ret
    exact ⟨ret_bool Heq.out.symm, _, by first | rfl | rw [World.drewN_drewN]⟩
 ·have hne : decide (a = b) = false := decide_eq_false (fun e => hl (by rw [e]))
  have hle : ((a.length : Int) == (b.length : Int)) = false := by simp; omega
  have hle2 : ((a.length : Int) != (b.length : Int)) = true := by simp; omega
  have Hne := Lib.hid hne; clear hne
  go_enter Tryz.func39, Tryz.ntmps39
  go_wp2_with fail
  go_ret
  exact ⟨ret_bool Hne.out.symm, 0, rfl⟩
theorem likeSteps_w {S S' : Nat → Prop} (va vb : Value) (a b : List (Int × Int)) (W : World) (r : Bool) (hr : decide (a = b) = r) (ha : VS S W va a) (hb : VS S' W vb b) :
  Calls Tryz.prog 39 #[va, vb] W fun e' w' => e' = .returned (.bool r) ∧ Below W.heap.size W w' :=
 (likeSteps_q va vb a b W ha hb).mono fun _ _ ⟨h1, n, h2⟩ => ⟨by rw [h1, hr], by rw [h2]; exact below_drewN (Below.refl _ _) n⟩
end Go.Proofs.YtmjplkbmhdkggaaGreat
