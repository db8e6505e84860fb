/- What the reference answers on the first key that begins with some cuts, and on the next key. No conditions. -/
import Derived.Deep.DrawnRows
import Derived.Test.YtmfgdoflddhngaaGreatMEach5
import Derived.Test.YtmfgdoflddhngaaGreatMDoors
import Derived.Test.YtmfgdoflddhngaaGreatMSys2
namespace Go.Proofs.YtmfgdoflddhngaaGreat
open Go.RowKit
set_option linter.unusedVariables false
set_option linter.unusedSimpArgs false

/-- The keys that begin with l and a cut from x on. -/
def fromB (m : Mk) (rem : Nat) (l : List Int) (x : Nat) : List (List Int) := (depths x m.d.toNat).flatMap fun y => genB m rem (l ++ [y])
theorem fromB_step {m : Mk} {rem : Nat} {l : List Int} {x : Nat} (h : x < m.d.toNat) : fromB m rem l x = genB m rem (l ++ [(x : Int)]) ++ fromB m rem l (x + 1) := by
  unfold fromB; rw [depths_cons h, List.flatMap_cons]
theorem fromB_end {m : Mk} {rem : Nat} {l : List Int} {x : Nat} (h : m.d.toNat ≤ x) : fromB m rem l x = [] := by
  unfold fromB; rw [depths_nil h]; rfl
theorem fromB_next {m : Mk} {rem : Nat} {l : List Int} {x : Nat} {t : List (List Int)} (h : x < m.d.toNat) : nextAns (fromB m rem l x ++ t) = if (nextAns (genB m rem (l ++ [(x : Int)]))).2 = true then nextAns (genB m rem (l ++ [(x : Int)])) else nextAns (fromB m rem l (x + 1) ++ t) := by
  rw [fromB_step h, List.append_assoc, nextAns_append]
/-- The keys behind k that share fewer than n cuts with it. -/
def lowB (m : Mk) (C : Nat) (k : List Int) : Nat → List (List Int)
  | 0 => []
  | n + 1 => fromB m (C - 1 - n) (k.take n) ((geti k n).toNat + 1) ++ lowB m C k n
theorem lowB_all {m : Mk} {C : Nat} {k : List Int} : ∀ n, n ≤ C → behindFrom m C k n ++ lowB m C k n = behindFrom m C k 0
  | 0, _ => by simp [lowB]
  | n + 1, h => by
    rw [← lowB_all n (by omega), behindFrom_step (by omega : n < C), List.append_assoc]
    rfl
theorem lowB_behind (m : Mk) (k : List Int) : lowB m m.c.toNat k m.c.toNat = behind m k := by
  have := lowB_all (m := m) (C := m.c.toNat) (k := k) m.c.toNat (Nat.le_refl _)
  rw [behindFrom_end, List.nil_append] at this
  exact this

theorem own_V1B {w : World} {B : Nat} {e : TypeId} {v : Value} {n : Nat} {l : List Int} {xs : List Value} (h : w.ownsRow B e 1 v n xs) (hx : xs = l.map (Value.int .i64)) : V1 (fun b => B ≤ b) w v l := by
  subst hx; exact (own_F1 h).v1
/-- A key, in memory of S or new. -/
def FirstPost (S : Nat → Prop) (W : World) (a : List Int × Bool) (e' : Ending) (w' : World) : Prop :=
  ∃ v', e' = .returned (.tuple #[v', .bool a.2]) ∧ (a.2 = true → V1 (fun b => S b ∨ W.heap.size ≤ b) w' v' a.1) ∧ Below W.heap.size W w'

set_option maxRecDepth 100000 in
set_option maxHeartbeats 2000000 in
theorem l02First_any (m : Mk) (hm : m.ok = true) : ∀ (rem : Nat) (S : Nat → Prop) (v : Value) (l : List Int) (W : World), V1 S W v l → (l = [] → PV v) → (l.length : Int) + rem = m.c → (∀ k, k < l.length → 0 ≤ geti l k ∧ geti l k ≤ 7) →
    Calls Tryz.prog 223 #[.agg #[.int .i64 m.c, .int .i64 m.d, .int .i64 m.s, .int .i64 m.e, .int .i64 m.l], v] W (FirstPost S W (nextAns (genB m rem l))) := by
  have hmk := Mk.ok_iff.1 hm
  obtain ⟨i0, hi, hz0, hz1, hz2⟩ := info_parts inf_int
  intro rem
  induction rem with
  | zero =>
    intro S v l W h hp hlr hrange
    have hV := h
    have Hrange := Lib.hid hrange; clear hrange
    have Hmk := Lib.hid hmk
    obtain ⟨a, c, rfl, hmx⟩ := h.form
    clear hp hm
    have hlen : l.length ≤ 6 := by omega
    have hl : (l.length : Int) = m.c := by omega
    have e2 : ((l.length : Int) == m.c) = true := by simp [hl]
    have Hl := Lib.hid hl; clear hl hlr hmk
    obtain ⟨W1, hW1, hB01, hz01, HZ01, hc01, hh01⟩ := box_facts W #[.int .i64 m.c, .int .i64 m.d, .int .i64 m.s, .int .i64 m.e, .int .i64 m.l] 25
    have hV1 := hV.below hB01
    cases hb : begins m l
    · have hfin : nextAns (genB m 0 l) = ([], false) := by unfold genB; rw [if_neg (by rw [hb]; decide)]; rfl
      rw [hfin]
      have Hb := Lib.hid hb; clear hb hfin
      go_enter Tryz.func223, Tryz.ntmps223
      go_wp2_with fail
      rw [← hW1]
      go_wp2_with fail
      refine (l02Begins_b m _ l _ _ Hb.out hV1 (by omega) Hrange.out).mono ?_; rintro e' w2 ⟨rfl, hb_w2⟩; have hB2 := (Below.refl W1.heap.size W1).trans (hb_w2.mono (Below.refl W1.heap.size W1).size)
      clear hc01 hh01
      go_wp2_with fail
      go_ret2
      exact ⟨_, rfl, (fun h => by cases h), hB01.trans (hB2.mono (by omega))⟩
    · have Hb := Lib.hid hb; clear hb
      obtain ⟨q, hq⟩ : ∃ q, decide (m.l ≤ (kinds l : Int)) = q := ⟨_, rfl⟩
      have hfin : (nextAns (genB m 0 l)).2 = q ∧ (q = true → (nextAns (genB m 0 l)).1 = l) := by
        unfold genB gen; rw [if_pos Hb.out]
        by_cases hk : m.l ≤ (kinds l : Int)
        · rw [if_pos hk, ← hq, decide_eq_true hk]; exact ⟨rfl, fun _ => rfl⟩
        · rw [if_neg hk, ← hq, decide_eq_false hk]; exact ⟨rfl, fun h => by cases h⟩
      obtain ⟨ans, hans⟩ : ∃ ans, nextAns (genB m 0 l) = ans := ⟨_, rfl⟩
      rw [hans] at hfin ⊢
      obtain ⟨r1, r2⟩ := ans
      obtain ⟨rfl, hfin⟩ : r2 = q ∧ (q = true → r1 = l) := hfin
      have Hf := Lib.hid hfin; clear hfin hans
      go_enter Tryz.func223, Tryz.ntmps223
      go_wp2_with fail
      rw [← hW1]
      go_wp2_with fail
      refine (l02Begins_b m _ l _ _ Hb.out hV1 (by omega) Hrange.out).mono ?_; rintro e' w2 ⟨rfl, hb_w2⟩; have hB2 := (Below.refl W1.heap.size W1).trans (hb_w2.mono (Below.refl W1.heap.size W1).size)
      have hx2 : ∀ o, (w2).cell? ⟨W.heap.size, o, none⟩ = (#[.int .i64 m.c, .int .i64 m.d, .int .i64 m.s, .int .i64 m.e, .int .i64 m.l] : Array Value)[o]? := fun o => by rw [(bcell hB2).1 _ _ hz01, hc01]
      have HVo := Lib.hid ((hV1.below hB2).mono (S' := fun b => S b ∨ W.heap.size ≤ b) (fun _ h _ => .inl h) (fun _ _ _ => rfl))
      clear hc01 hh01
      go_wp2_with fail
      go_quiet ((go_at_call 254; first | exact quiet_at (l02Kinds_q _ _ _ (V1.drewN (hV1.below hB2))) | exact quiet_at0 (l02Kinds_q _ _ _ (V1.drewN (hV1.below hB2)))))
      go_wp2_with fail
      go_ret2
      exact ⟨_, rfl, (fun h => by rw [Hf.out h]; exact HVo.out.drewN), by repeat' first | refine below_drewN ?_ _ | exact hB01.trans (hB2.mono (by omega))⟩
  | succ rem ih =>
    intro S v l W h hp hlr hrange
    have hV := h
    have Hrange := Lib.hid hrange; clear hrange
    have Hmk := Lib.hid hmk
    obtain ⟨a, c, rfl, hmx⟩ := h.form
    have hlen : l.length ≤ 6 ∧ rem ≤ 5 := by omega
    have hl : ¬ (l.length : Int) = m.c := by omega
    have e2 : ((l.length : Int) == m.c) = false := by simp [hl]
    have Hl := Lib.hid hl; clear hl
    have IH := Lib.hid ih; clear ih
    have Hp := Lib.hid hp; clear hp
    obtain ⟨W1, hW1, hB01, hz01, HZ01, hc01, hh01⟩ := box_facts W #[.int .i64 m.c, .int .i64 m.d, .int .i64 m.s, .int .i64 m.e, .int .i64 m.l] 25
    have hV1 := hV.below hB01
    cases hb : begins m l
    · have hfin : nextAns (genB m (rem + 1) l) = ([], false) := by unfold genB; rw [if_neg (by rw [hb]; decide)]; rfl
      rw [hfin]
      have Hb := Lib.hid hb; clear hb hlr hmk hfin
      go_enter Tryz.func223, Tryz.ntmps223
      go_wp2_with fail
      rw [← hW1]
      go_wp2_with fail
      refine (l02Begins_b m _ l _ _ Hb.out hV1 (by omega) Hrange.out).mono ?_; rintro e' w2 ⟨rfl, hb_w2⟩; have hB2 := (Below.refl W1.heap.size W1).trans (hb_w2.mono (Below.refl W1.heap.size W1).size)
      clear hc01 hh01
      go_wp2_with fail
      go_ret2
      exact ⟨_, rfl, (fun h => by cases h), hB01.trans (hB2.mono (by omega))⟩
    · have hfin : genB m (rem + 1) l = fromB m rem l 0 := by rw [genB_succ hb]; rfl
      obtain ⟨ans, hans⟩ : ∃ ans, nextAns (genB m (rem + 1) l) = ans := ⟨_, rfl⟩
      rw [hans]
      have hans0 : ans = nextAns (fromB m rem l 0 ++ []) := by rw [List.append_nil, ← hfin, hans]
      have Hans := Lib.hid hans0; clear hans0 hans hfin
      have Hb := Lib.hid hb; clear hb
      have Hlr := Lib.hid hlr; clear hlr
      obtain ⟨d, hd1, hd2, hd8, hdn⟩ : ∃ d : Nat, m.d ≤ d ∧ (d : Int) ≤ m.d ∧ d ≤ 8 ∧ m.d.toNat = d := ⟨m.d.toNat, by omega, by omega, by omega, rfl⟩
      have Hdn := Lib.hid hdn; clear hdn
      clear hmk
      have Hm := Lib.hid hm; clear hm
      go_enter Tryz.func223, Tryz.ntmps223
      go_wp2_with fail
      rw [← hW1]
      go_wp2_with fail
      refine (l02Begins_b m _ l _ _ Hb.out hV1 (by omega) Hrange.out).mono ?_; rintro e' w2 ⟨rfl, hb_w2⟩; have hB2 := (Below.refl W1.heap.size W1).trans (hb_w2.mono (Below.refl W1.heap.size W1).size)
      have hx2 : ∀ o, (w2).cell? ⟨W.heap.size, o, none⟩ = (#[.int .i64 m.c, .int .i64 m.d, .int .i64 m.s, .int .i64 m.e, .int .i64 m.l] : Array Value)[o]? := fun o => by rw [(bcell hB2).1 _ _ hz01, hc01]
      have Hc01 := Lib.hid hc01; clear hc01
      have HW1 := Lib.hid hW1; clear hW1
      clear hh01
      go_wp2_with fail
      have Hx2 := Lib.hid hx2; clear hx2
      go_loopw [6, 7, 8] (fun i _ _ wr => ∃ x : Nat, x ≤ d ∧ i = .int .i64 (x : Int) ∧ ans = nextAns (fromB m rem l x ++ []) ∧ Below W1.heap.size W1 wr) (fun i _ _ _ => d - (intOf i).toNat)
      case atStart => exact ⟨0, Nat.zero_le _, rfl, Hans.out, hB2⟩
      case round =>
        obtain ⟨x, hx, rfl, hrem, hB⟩ := hrel
        have Hrem := Lib.hid hrem; clear hrem
        have hxr : ∀ o, wr.cell? ⟨W.heap.size, o, none⟩ = (#[.int .i64 m.c, .int .i64 m.d, .int .i64 m.s, .int .i64 m.e, .int .i64 m.l] : Array Value)[o]? := fun o => by rw [(bcell hB).1 _ _ hz01, Hc01.out]
        have hzr := hB.size
        by_cases hxx : x < d
        · obtain ⟨r, hr⟩ : ∃ r, nextAns (genB m rem (l ++ [(x : Int)])) = r := ⟨_, rfl⟩
          have hnx := fromB_next (m := m) (rem := rem) (l := l) (x := x) (t := []) (by rw [Hdn.out]; exact hxx)
          rw [hr] at hnx
          have Hr := Lib.hid hr; clear hr
          obtain ⟨r1, r2⟩ := r
          have Hnx := Lib.hid hnx; clear hnx
          have hcell0 := hxr 0
          have hcell1 := hxr 1
          have hcell2 := hxr 2
          have hcell3 := hxr 3
          have hcell4 := hxr 4
          simp at hcell0 hcell1 hcell2 hcell3 hcell4
          have Hxr := Lib.hid hxr
          have hbB : W.heap.size < wr.heap.size := by omega
          have hxd : decide ((x : Int) < m.d) = true := by simp; omega
          cases r2
          · skip
            go_wp2_with fail
            go_region_held3 (fun w' => w'.cell? ⟨W.heap.size, 0, none⟩ = some (.int .i64 m.c) ∧ w'.cell? ⟨W.heap.size, 1, none⟩ = some (.int .i64 m.d) ∧ w'.cell? ⟨W.heap.size, 2, none⟩ = some (.int .i64 m.s) ∧ w'.cell? ⟨W.heap.size, 3, none⟩ = some (.int .i64 m.e) ∧ w'.cell? ⟨W.heap.size, 4, none⟩ = some (.int .i64 m.l) ∧ Below wr.heap.size wr w')
              (first | exact ⟨hcell0, hcell1, hcell2, hcell3, hcell4, (Below.refl _ _).drew⟩ | exact mkB_call hbB (by assumption) (by assumption) | exact mkB_alloc hbB (by assumption) _ | exact mkB_grown hbB (by assumption) (by assumption) (own_lo hown1 (Nat.le_refl _)))
              (first | (go_at_call 182; refine (l01Own_any _ l _ (hV1.below (hB.trans ((mkB_below (by assumption)).mono hzr))) Hp.out (by omega)).mono ?_; rintro e' w' ⟨v1, rfl, hown0, hb⟩; have hzz := Nat.le_trans (mkB_size (by assumption)) hb.size; have hown1 := own_base hown0 (mkB_size (by assumption)); clear hown0) | (refine step_append_lies _ (by rfl) _ _ _ (by rfl) wr.heap.size 2 i0 _ 1 8 Tryz.underlying46 hi hz0 hz1 hz2 rfl (by omega) _ l.length _ (by rfl) (hown1.alloc _) ⟨_, 0, none⟩ 1 1 [.int .i64 x] (by rfl) (by rfl) (World.news_of_block (heap_alloc_new _ _)) (by simp [Value.oneCell']) (by omega) (by unfold maxLen; omega) (by omega) (by simp; omega) _ rfl ?_; intro gg cap w1 hown2 hgrow hat hlt) | (refine step_append_lies _ (by rfl) _ _ _ (by rfl) wr.heap.size 2 i0 _ 1 8 Tryz.underlying46 hi hz0 hz1 hz2 rfl (by omega) _ l.length _ (by rfl) hown1 ⟨_, 0, none⟩ 1 1 [.int .i64 x] (by rfl) (by rfl) (news_old hb) (by simp [Value.oneCell']) (by omega) (by unfold maxLen; omega) (by omega) (by omega) _ rfl ?_; intro gg cap w1 hown2 hgrow hat hlt) | (go_at_call 223; refine (IH.out _ _ (l ++ [(x : Int)]) _ (own_V1B (by assumption) (by simp)) (fun h => by simp at h) (by have := Hlr.out; simp; omega) (range_snoc Hrange.out (by omega))).mono ?_; rintro e' wq ⟨v2, he2, hk2, hb⟩; rw [Hr.out] at he2 hk2; subst he2; have hk3 := (fun hh => V1.mono (S' := fun b => W.heap.size ≤ b) (hk2 hh) (fun b h _ => by have g1 := (hown2.lt _ rfl).1; have g2 := (hown2.lt _ rfl).2; rcases h with h | h <;> exact Nat.le_trans (by omega) h) (fun _ _ _ => rfl)); clear hk2))
            all_goals
              have hBw := mkB_below (w0 := wr) (by assumption)
              have Hk2 := Lib.hid hk3; clear hk3
              go_wp2_with fail
              go_roundw
              case rel => exact ⟨x + 1, by omega, by go_num, by rw [Hrem.out, Hnx.out]; rfl, hB.trans (hBw.mono hzr)⟩
              case measure => simp [intOf]; omega
          · have ha : ans = (r1, true) := by rw [Hrem.out, Hnx.out]; rfl
            have Ha := Lib.hid ha; clear ha
            go_wp2_with fail
            go_region_held3 (fun w' => w'.cell? ⟨W.heap.size, 0, none⟩ = some (.int .i64 m.c) ∧ w'.cell? ⟨W.heap.size, 1, none⟩ = some (.int .i64 m.d) ∧ w'.cell? ⟨W.heap.size, 2, none⟩ = some (.int .i64 m.s) ∧ w'.cell? ⟨W.heap.size, 3, none⟩ = some (.int .i64 m.e) ∧ w'.cell? ⟨W.heap.size, 4, none⟩ = some (.int .i64 m.l) ∧ Below wr.heap.size wr w')
              (first | exact ⟨hcell0, hcell1, hcell2, hcell3, hcell4, (Below.refl _ _).drew⟩ | exact mkB_call hbB (by assumption) (by assumption) | exact mkB_alloc hbB (by assumption) _ | exact mkB_grown hbB (by assumption) (by assumption) (own_lo hown1 (Nat.le_refl _)))
              (first | (go_at_call 182; refine (l01Own_any _ l _ (hV1.below (hB.trans ((mkB_below (by assumption)).mono hzr))) Hp.out (by omega)).mono ?_; rintro e' w' ⟨v1, rfl, hown0, hb⟩; have hzz := Nat.le_trans (mkB_size (by assumption)) hb.size; have hown1 := own_base hown0 (mkB_size (by assumption)); clear hown0) | (refine step_append_lies _ (by rfl) _ _ _ (by rfl) wr.heap.size 2 i0 _ 1 8 Tryz.underlying46 hi hz0 hz1 hz2 rfl (by omega) _ l.length _ (by rfl) (hown1.alloc _) ⟨_, 0, none⟩ 1 1 [.int .i64 x] (by rfl) (by rfl) (World.news_of_block (heap_alloc_new _ _)) (by simp [Value.oneCell']) (by omega) (by unfold maxLen; omega) (by omega) (by simp; omega) _ rfl ?_; intro gg cap w1 hown2 hgrow hat hlt) | (refine step_append_lies _ (by rfl) _ _ _ (by rfl) wr.heap.size 2 i0 _ 1 8 Tryz.underlying46 hi hz0 hz1 hz2 rfl (by omega) _ l.length _ (by rfl) hown1 ⟨_, 0, none⟩ 1 1 [.int .i64 x] (by rfl) (by rfl) (news_old hb) (by simp [Value.oneCell']) (by omega) (by unfold maxLen; omega) (by omega) (by omega) _ rfl ?_; intro gg cap w1 hown2 hgrow hat hlt) | (go_at_call 223; refine (IH.out _ _ (l ++ [(x : Int)]) _ (own_V1B (by assumption) (by simp)) (fun h => by simp at h) (by have := Hlr.out; simp; omega) (range_snoc Hrange.out (by omega))).mono ?_; rintro e' wq ⟨v2, he2, hk2, hb⟩; rw [Hr.out] at he2 hk2; subst he2; have hk3 := (fun hh => V1.mono (S' := fun b => W.heap.size ≤ b) (hk2 hh) (fun b h _ => by have g1 := (hown2.lt _ rfl).1; have g2 := (hown2.lt _ rfl).2; rcases h with h | h <;> exact Nat.le_trans (by omega) h) (fun _ _ _ => rfl)); clear hk2))
            all_goals
              have hBw := mkB_below (w0 := wr) (by assumption)
              have Hk2 := Lib.hid hk3; clear hk3
              go_wp2_with fail
              go_ret2
              unfold FirstPost
              rw [Ha.out]
              exact ⟨_, rfl, (fun _ => (Hk2.out (by trivial)).mono (fun _ h _ => .inr h) (fun _ _ _ => rfl)), hB01.trans ((hB.trans (hBw.mono hzr)).mono (by omega))⟩
        · have hfx : ans = ([], false) := by rw [Hrem.out, fromB_end (by rw [Hdn.out]; omega)]; rfl
          have Hfx := Lib.hid hfx; clear hfx
          go_wp2_with fail
          go_ret2
          unfold FirstPost
          rw [Hfx.out]
          exact ⟨_, rfl, (fun h => by cases h), hB01.trans (hB.mono (by omega))⟩

theorem behind_nextAns {m : Mk} {k : List Int} {C : Nat} (hC : m.c.toNat = C) : nextAns (behind m k) = nextAns (lowB m C k C) := by rw [← hC, lowB_behind]
set_option maxRecDepth 100000 in
set_option maxHeartbeats 4000000 in
theorem l02Next_any {S : Nat → Prop} (m : Mk) (hm : m.ok = true) (v : Value) (l : List Int) (W : World) (h : V1 S W v l) (hlr : (l.length : Int) = m.c) (hrange : ∀ k, k < l.length → 0 ≤ geti l k ∧ geti l k ≤ 7) :
    Calls Tryz.prog 226 #[.agg #[.int .i64 m.c, .int .i64 m.d, .int .i64 m.s, .int .i64 m.e, .int .i64 m.l], v] W (FirstPost (fun _ => False) W (nextAns (behind m l))) := by
  have hmk := Mk.ok_iff.1 hm
  obtain ⟨i0, hi, hz0, hz1, hz2⟩ := info_parts inf_int
  obtain ⟨C, hC⟩ : ∃ C, m.c.toNat = C := ⟨_, rfl⟩
  obtain ⟨ans, hans⟩ : ∃ ans, nextAns (behind m l) = ans := ⟨_, rfl⟩
  rw [hans]
  have hans0 : ans = nextAns (lowB m C l C) := by rw [← hans, behind_nextAns hC]
  have hlC : l.length = C := by omega
  have hC6 : 2 ≤ C ∧ C ≤ 6 := by omega
  have hCm : (C : Int) = m.c := by omega
  obtain ⟨b0, off0, c, rfl, hcl⟩ : ∃ b0 off0 c, v = .slice (some ⟨b0, off0, none⟩) l.length c ∧ l.length ≤ c := by
    obtain ⟨a, c, rfl, hc, _⟩ := id h
    obtain ⟨b0, off0, rfl, _⟩ := h.cell (k := 0) (by omega)
    exact ⟨b0, off0, c, rfl, hc⟩
  obtain ⟨d, hd1, hd2, hd8, hdn⟩ : ∃ d : Nat, m.d ≤ d ∧ (d : Int) ≤ m.d ∧ d ≤ 8 ∧ m.d.toNat = d := ⟨m.d.toNat, by omega, by omega, by omega, rfl⟩
  have hlen := h.len
  unfold maxLen at hlen
  have Hdn := Lib.hid hdn; clear hdn
  have Hrange := Lib.hid hrange; clear hrange
  have Hans := Lib.hid hans0; clear hans0 hans
  have Hm := Lib.hid hm; clear hm hmk hC
  have HC := Lib.hid hCm; clear hCm hlr
  have hl1 : l.length ≤ C := by omega
  have hl2 : C ≤ l.length := by omega
  have HlC := Lib.hid hlC; clear hlC
  obtain ⟨W1, hW1, hB01, hz01, HZ01, hc01, hh01⟩ := box_facts W #[.int .i64 m.c, .int .i64 m.d, .int .i64 m.s, .int .i64 m.e, .int .i64 m.l] 25
  have hV1 := h.below hB01
  go_enter Tryz.func226, Tryz.ntmps226
  go_wp2_with fail
  rw [← hW1]
  have Hc01 := Lib.hid hc01; clear hc01
  have HW1 := Lib.hid hW1; clear hW1
  clear hh01
  go_loopw [6, 7, 8, 9] (fun i _ _ _ wr => ∃ (j : Nat) (z : Int), j ≤ C ∧ i = .int .i64 z ∧ z = (j : Int) - 1 ∧ ans = nextAns (lowB m C l j) ∧ Below W1.heap.size W1 wr) (fun i _ _ _ _ => (intOf i + 1).toNat)
  case atStart => exact ⟨C, _, Nat.le_refl _, rfl, by rw [HlC.out], Hans.out, Below.refl _ _⟩
  case round =>
    obtain ⟨j, z, hj, rfl, hz, hrem, hBo⟩ := hrel
    have Hrem := Lib.hid hrem; clear hrem
    obtain ⟨wo, rfl⟩ : ∃ wo, wo = wr := ⟨_, rfl⟩
    have hzo := hBo.size
    by_cases hj0 : j = 0
    · have hfx : ans = ([], false) := by rw [Hrem.out, hj0]; rfl
      subst hj0
      have hzn : z < 0 := by omega
      have Hz := Lib.hid hz; clear hz
      have Hfx := Lib.hid hfx; clear hfx
      go_wp2_with fail
      go_ret2
      unfold FirstPost
      rw [Hfx.out]
      exact ⟨_, rfl, (fun h => by cases h), hB01.trans (hBo.mono (by omega))⟩
    · obtain ⟨n, rfl⟩ : ∃ n, j = n + 1 := ⟨j - 1, by omega⟩
      obtain rfl : z = (n : Int) := by omega
      clear hz
      have hnl : n < l.length := by omega
      have hrg := Hrange.out n hnl
      obtain ⟨b1, off1, e1, _, hc1⟩ := (hV1.below hBo).cell hnl
      simp only [Option.some.injEq, Addr.mk.injEq, and_true] at e1
      obtain ⟨rfl, rfl⟩ := e1
      obtain ⟨g, hg, hg7⟩ : ∃ g : Nat, geti l n = g ∧ g ≤ 7 := ⟨(geti l n).toNat, by omega, by omega⟩
      rw [hg] at hc1
      have hst : lowB m C l (n + 1) = fromB m (C - 1 - n) (l.take n) (g + 1) ++ lowB m C l n := by rw [lowB, hg, Int.toNat_natCast]
      have Hst := Lib.hid hst; clear hst
      have htk : V1 S wo (.slice (some ⟨b0, off0, none⟩) n c) (l.take n) := (hV1.below hBo).take (by omega)
      have htl : (l.take n).length = n := by rw [List.length_take]; omega
      have hrt : ∀ x : Nat, x < 8 → ∀ k, k < (l.take n ++ [(x : Int)]).length → 0 ≤ geti (l.take n ++ [(x : Int)]) k ∧ geti (l.take n ++ [(x : Int)]) k ≤ 7 := fun x hx => range_snoc (fun k hk => by rw [htl] at hk; rw [geti_take hk]; exact Hrange.out k (by omega)) hx
      have Hrt0 := Lib.hid hrt; clear hrt hrg hg
      have Htl := Lib.hid htl; clear htl
      have hpv : l.take n = [] → PV (.slice (some ⟨b0, off0, none⟩) n c) := fun _ => .inr ⟨_, _, _, _, rfl⟩
      have Hpv := Lib.hid hpv; clear hpv
      have hn0 : (0 : Int) ≤ (n : Int) := by omega
      have hnc : (n : Int) ≤ (c : Int) := by omega
      go_wp2_with fail
      clear hc1
      go_loopw [7, 8, 9] (fun i _ _ wr => ∃ x : Nat, g + 1 ≤ x ∧ x ≤ max d (g + 1) ∧ i = .int .i64 (x : Int) ∧ ans = nextAns (fromB m (C - 1 - n) (l.take n) x ++ lowB m C l n) ∧ Below wo.heap.size wo wr) (fun i _ _ _ => d - (intOf i).toNat)
      case atStart => exact ⟨g + 1, Nat.le_refl _, by omega, by go_num, by rw [← Hst.out]; exact Hrem.out, Below.refl _ _⟩
      case round =>
        obtain ⟨x, hx1, hx2, rfl, hrem, hBn⟩ := hrel
        have Hrem2 := Lib.hid hrem; clear hrem
        have hzr := hBn.size
        have hBW := hBo.trans (hBn.mono hzo)
        have hxr : ∀ o, wr.cell? ⟨W.heap.size, o, none⟩ = (#[.int .i64 m.c, .int .i64 m.d, .int .i64 m.s, .int .i64 m.e, .int .i64 m.l] : Array Value)[o]? := fun o => by rw [(bcell hBW).1 _ _ hz01, Hc01.out]
        by_cases hxx : x < d
        · obtain ⟨r, hr⟩ : ∃ r, nextAns (genB m (C - 1 - n) (l.take n ++ [(x : Int)])) = r := ⟨_, rfl⟩
          have hnx := fromB_next (m := m) (rem := C - 1 - n) (l := l.take n) (x := x) (t := lowB m C l n) (by rw [Hdn.out]; exact hxx)
          rw [hr] at hnx
          have Hr := Lib.hid hr; clear hr
          obtain ⟨r1, r2⟩ := r
          have Hnx := Lib.hid hnx; clear hnx
          have htk := htk.below hBn
          have Hrt := Lib.hid (Hrt0.out x (by omega))
          have hcell0 := hxr 0
          have hcell1 := hxr 1
          have hcell2 := hxr 2
          have hcell3 := hxr 3
          have hcell4 := hxr 4
          simp at hcell0 hcell1 hcell2 hcell3 hcell4
          have Hxr := Lib.hid hxr
          have hbB : W.heap.size < wr.heap.size := by omega
          have hxd : decide ((x : Int) < m.d) = true := by simp; omega
          cases r2
          · skip
            go_wp2_with fail
            go_region_held3 (fun w' => w'.cell? ⟨W.heap.size, 0, none⟩ = some (.int .i64 m.c) ∧ w'.cell? ⟨W.heap.size, 1, none⟩ = some (.int .i64 m.d) ∧ w'.cell? ⟨W.heap.size, 2, none⟩ = some (.int .i64 m.s) ∧ w'.cell? ⟨W.heap.size, 3, none⟩ = some (.int .i64 m.e) ∧ w'.cell? ⟨W.heap.size, 4, none⟩ = some (.int .i64 m.l) ∧ Below wr.heap.size wr w')
              (first | exact ⟨hcell0, hcell1, hcell2, hcell3, hcell4, (Below.refl _ _).drew⟩ | exact mkB_call hbB (by assumption) (by assumption) | exact mkB_alloc hbB (by assumption) _ | exact mkB_grown hbB (by assumption) (by assumption) (own_lo hown1 (Nat.le_refl _)))
              (first | (go_at_call 182; refine (l01Own_any _ (l.take n) _ (htk.below ((mkB_below (by assumption)))) Hpv.out (by rw [Htl.out]; omega)).mono ?_; rintro e' w' ⟨v1, rfl, hown0, hb⟩; rw [Htl.out] at hown0; have hzz := Nat.le_trans (mkB_size (by assumption)) hb.size; have hown1 := own_base hown0 (mkB_size (by assumption)); clear hown0) | (refine step_append_lies _ (by rfl) _ _ _ (by rfl) wr.heap.size 2 i0 _ 1 8 Tryz.underlying46 hi hz0 hz1 hz2 rfl (by omega) _ n _ (by rfl) (hown1.alloc _) ⟨_, 0, none⟩ 1 1 [.int .i64 x] (by rfl) (by rfl) (World.news_of_block (heap_alloc_new _ _)) (by simp [Value.oneCell']) (by omega) (by unfold maxLen; omega) (by omega) (by simp; omega) _ rfl ?_; intro gg cap w1 hown2 hgrow hat hlt) | (refine step_append_lies _ (by rfl) _ _ _ (by rfl) wr.heap.size 2 i0 _ 1 8 Tryz.underlying46 hi hz0 hz1 hz2 rfl (by omega) _ n _ (by rfl) hown1 ⟨_, 0, none⟩ 1 1 [.int .i64 x] (by rfl) (by rfl) (news_old hb) (by simp [Value.oneCell']) (by omega) (by unfold maxLen; omega) (by omega) (by omega) _ rfl ?_; intro gg cap w1 hown2 hgrow hat hlt) | (go_at_call 223; refine (l02First_any m Hm.out (C - 1 - n) _ _ (l.take n ++ [(x : Int)]) _ (own_V1B (by assumption) (by simp)) (fun h => by simp at h) (by have := Htl.out; have := HC.out; simp [Htl.out]; omega) Hrt.out).mono ?_; rintro e' wq ⟨v2, he2, hk2, hb⟩; rw [Hr.out] at he2 hk2; subst he2; have hk3 := (fun hh => V1.mono (S' := fun b => W.heap.size ≤ b) (hk2 hh) (fun b h _ => by have g1 := (hown2.lt _ rfl).1; have g2 := (hown2.lt _ rfl).2; rcases h with h | h <;> exact Nat.le_trans (by omega) h) (fun _ _ _ => rfl)); clear hk2))
            all_goals
              have hBw := mkB_below (w0 := wr) (by assumption)
              have Hk2 := Lib.hid hk3; clear hk3
              go_wp2_with fail
              go_roundw
              case rel => exact ⟨x + 1, by omega, by omega, by go_num, by rw [Hrem2.out, Hnx.out]; rfl, hBn.trans (hBw.mono hzr)⟩
              case measure => simp [intOf]; omega
          · have ha : ans = (r1, true) := by rw [Hrem2.out, Hnx.out]; rfl
            have Ha := Lib.hid ha; clear ha
            go_wp2_with fail
            go_region_held3 (fun w' => w'.cell? ⟨W.heap.size, 0, none⟩ = some (.int .i64 m.c) ∧ w'.cell? ⟨W.heap.size, 1, none⟩ = some (.int .i64 m.d) ∧ w'.cell? ⟨W.heap.size, 2, none⟩ = some (.int .i64 m.s) ∧ w'.cell? ⟨W.heap.size, 3, none⟩ = some (.int .i64 m.e) ∧ w'.cell? ⟨W.heap.size, 4, none⟩ = some (.int .i64 m.l) ∧ Below wr.heap.size wr w')
              (first | exact ⟨hcell0, hcell1, hcell2, hcell3, hcell4, (Below.refl _ _).drew⟩ | exact mkB_call hbB (by assumption) (by assumption) | exact mkB_alloc hbB (by assumption) _ | exact mkB_grown hbB (by assumption) (by assumption) (own_lo hown1 (Nat.le_refl _)))
              (first | (go_at_call 182; refine (l01Own_any _ (l.take n) _ (htk.below ((mkB_below (by assumption)))) Hpv.out (by rw [Htl.out]; omega)).mono ?_; rintro e' w' ⟨v1, rfl, hown0, hb⟩; rw [Htl.out] at hown0; have hzz := Nat.le_trans (mkB_size (by assumption)) hb.size; have hown1 := own_base hown0 (mkB_size (by assumption)); clear hown0) | (refine step_append_lies _ (by rfl) _ _ _ (by rfl) wr.heap.size 2 i0 _ 1 8 Tryz.underlying46 hi hz0 hz1 hz2 rfl (by omega) _ n _ (by rfl) (hown1.alloc _) ⟨_, 0, none⟩ 1 1 [.int .i64 x] (by rfl) (by rfl) (World.news_of_block (heap_alloc_new _ _)) (by simp [Value.oneCell']) (by omega) (by unfold maxLen; omega) (by omega) (by simp; omega) _ rfl ?_; intro gg cap w1 hown2 hgrow hat hlt) | (refine step_append_lies _ (by rfl) _ _ _ (by rfl) wr.heap.size 2 i0 _ 1 8 Tryz.underlying46 hi hz0 hz1 hz2 rfl (by omega) _ n _ (by rfl) hown1 ⟨_, 0, none⟩ 1 1 [.int .i64 x] (by rfl) (by rfl) (news_old hb) (by simp [Value.oneCell']) (by omega) (by unfold maxLen; omega) (by omega) (by omega) _ rfl ?_; intro gg cap w1 hown2 hgrow hat hlt) | (go_at_call 223; refine (l02First_any m Hm.out (C - 1 - n) _ _ (l.take n ++ [(x : Int)]) _ (own_V1B (by assumption) (by simp)) (fun h => by simp at h) (by have := Htl.out; have := HC.out; simp [Htl.out]; omega) Hrt.out).mono ?_; rintro e' wq ⟨v2, he2, hk2, hb⟩; rw [Hr.out] at he2 hk2; subst he2; have hk3 := (fun hh => V1.mono (S' := fun b => W.heap.size ≤ b) (hk2 hh) (fun b h _ => by have g1 := (hown2.lt _ rfl).1; have g2 := (hown2.lt _ rfl).2; rcases h with h | h <;> exact Nat.le_trans (by omega) h) (fun _ _ _ => rfl)); clear hk2))
            all_goals
              have hBw := mkB_below (w0 := wr) (by assumption)
              have Hk2 := Lib.hid hk3; clear hk3
              go_wp2_with fail
              go_ret2
              unfold FirstPost
              rw [Ha.out]
              exact ⟨_, rfl, (fun _ => (Hk2.out (by trivial)).mono (fun _ h _ => .inr h) (fun _ _ _ => rfl)), hB01.trans ((hBW.trans (hBw.mono (by omega))).mono (by omega))⟩
        · have hfx : ans = nextAns (lowB m C l n) := by rw [Hrem2.out, fromB_end (by rw [Hdn.out]; omega), List.nil_append]
          have Hfx := Lib.hid hfx; clear hfx
          go_wp2_with fail
          go_roundw
          case rel => exact ⟨n, _, by omega, rfl, by omega, Hfx.out, hBW⟩
          case measure => simp [intOf]
end Go.Proofs.YtmfgdoflddhngaaGreat

namespace Go.Proofs.YtmfgdoflddhngaaGreat
open Go.RowKit
set_option linter.unusedVariables false
set_option linter.unusedSimpArgs false

theorem RowVs.mono {S S' : Nat → Prop} {w : World} {vs : List Value} {ls : List (List Int)} (h : RowVs S w vs ls) (hS : ∀ b, S b → b < w.heap.size → S' b) : RowVs S' w vs ls :=
  ⟨h.1, fun k hk => by obtain ⟨ev, h1, h2⟩ := h.2 k hk; exact ⟨ev, h1, V1.mono h2 hS (fun _ _ _ => rfl)⟩⟩
def openTo (locks : List (List (List Int))) (key : List Int) : Nat → Bool
  | 0 => false
  | k + 1 => openTo locks key k || opensB (getll locks k) key
theorem openTo_iff {locks : List (List (List Int))} {key : List Int} : ∀ {k}, openTo locks key k = true ↔ 0 < (doorsTo locks key k).length
  | 0 => by simp [openTo, doorsTo]
  | k + 1 => by
    rw [openTo, Bool.or_eq_true, openTo_iff (k := k), doorsTo]
    by_cases h : opensB (getll locks k) key = true
    · simp [h]
    · simp [h]
theorem openTo_all (locks : List (List (List Int))) (key : List Int) : openTo locks key locks.length = decide (0 < ndoors locks key) := by
  rw [Bool.eq_iff_iff, openTo_iff, decide_eq_true_eq]; rfl
/-- An outsider that opens some door, or none. -/
def selK (locks : List (List (List Int))) (cuts : List (List Int)) (g : Bool) (k : List Int) : Bool := (decide (0 < ndoors locks k) == g) && !hasL cuts k
def selL (locks : List (List (List Int))) (cuts : List (List Int)) (g : Bool) (ks : List (List Int)) : List (List Int) := ks.filter (selK locks cuts g)
theorem selL_snoc (locks : List (List (List Int))) (cuts : List (List Int)) (g : Bool) (ks : List (List Int)) (k : List Int) : selL locks cuts g (ks ++ [k]) = if selK locks cuts g k = true then selL locks cuts g ks ++ [k] else selL locks cuts g ks := by
  unfold selL
  rw [List.filter_append]
  cases h : selK locks cuts g k <;> simp [h]
theorem selL_length (locks : List (List (List Int))) (cuts : List (List Int)) (g : Bool) (ks : List (List Int)) : (selL locks cuts g ks).length ≤ ks.length := List.length_filter_le _ _

theorem toCome_next {m : Mk} {w : World} {kv : Value} {S : Nat → Prop} {L r : List (List Int)} (hc : 0 ≤ m.c) (h : (nextAns r).2 = true → V1 S w kv (nextAns r).1) (hL : keysOf m = L ++ r) : toCome m w kv (.bool (nextAns r).2) ≤ r.length := by
  cases r with
  | nil => rw [show (nextAns []).2 = false from rfl, toCome_last]; exact Nat.zero_le _
  | cons k r =>
    have h1 : V1 S w kv k := h rfl
    rw [show (nextAns (k :: r)).2 = true from rfl, toCome_more h1, keys_behind hc hL]
    exact Nat.le_refl _
theorem key_far {S : Nat → Prop} {w w' : World} {ou kv : Value} {base n : Nat} {e : TypeId} {xs : List Value} {k : List Int} (hown : w.ownsRow base e 1 ou n xs) (h : V1 (fun b => S b ∨ w.heap.size ≤ b) w' kv k) (hS : ∀ b, ¬ S b) : V1 (fun b => ou.ownBlock ≠ some b) w' kv k :=
  h.mono (fun b h1 _ e => by
    have := (hown.lt b e).2
    rcases h1 with h2 | h2
    · exact hS b h2
    · omega) (fun _ _ _ => rfl)
theorem V1.far {w w1 : World} {ou v1 kv : Value} {k : List Int} (h : V1 (fun b => ou.ownBlock ≠ some b) w kv k) (hg : w.grownBy w1 ou.ownBlock) (hblk : v1.ownBlock = ou.ownBlock ∨ ∃ g, v1.ownBlock = some g ∧ w.heap.size ≤ g) : V1 (fun b => v1.ownBlock ≠ some b) w1 kv k :=
  h.mono (fun b h1 h2 e => by
    rcases hblk with e1 | ⟨g, e1, hge⟩
    · exact h1 (e1.symm.trans e)
    · rw [e] at e1; cases e1; omega) (grow_keep hg fun g hgg hS => hS hgg)
theorem RowVs.far {w w1 : World} {ou v1 : Value} {vs : List Value} {ls : List (List Int)} (h : RowVs (fun b => ou.ownBlock ≠ some b) w vs ls) (hg : w.grownBy w1 ou.ownBlock) (hblk : v1.ownBlock = ou.ownBlock ∨ ∃ g, v1.ownBlock = some g ∧ w.heap.size ≤ g) : RowVs (fun b => v1.ownBlock ≠ some b) w1 vs ls :=
  ⟨h.1, fun k hk => by obtain ⟨ev, h1, h2⟩ := h.2 k hk; exact ⟨ev, h1, V1.far h2 hg hblk⟩⟩
set_option maxRecDepth 100000 in
set_option maxHeartbeats 4000000 in
theorem l21Outsiders_any {S S' : Nat → Prop} (m : Mk) (u v : Value) (t cuts : List (List Int)) (n : Nat) (gb : Bool) (W : World) (hf : Fits m t cuts) (hn : (n : Int) = m.c) (h : V2 S W u t) (hc : V2 S' W v cuts) :
    Calls Tryz.prog 174 #[.agg #[.int .i64 m.c, .int .i64 m.d, .int .i64 m.s, .int .i64 m.e, .int .i64 m.l, u], v, .bool gb] W fun e' w' => ∃ v', e' = .returned v' ∧ V2 (fun b => b < w'.heap.size) w' v' (selL (locksTo n t cuts (getl t 0).length) cuts gb (keysOf m)) ∧ Below W.heap.size W w' := by
  obtain ⟨a, c, rfl, hmx⟩ := h.form
  obtain ⟨a', c', rfl, hmx'⟩ := hc.form
  have hdoors := hf.doors
  have hok := hf.ok
  have hkl := keysOf_length hok
  have hmk := Mk.ok_iff.1 hok
  have hc0 : 0 ≤ m.c := by omega
  have hkey : ∀ k, k ∈ keysOf m → k.length = n ∧ (k.length : Int) = m.c ∧ ∀ i, i < k.length → 0 ≤ geti k i ∧ geti k i ≤ 7 := fun k hk => by
    have h1 := isKey_iff.1 ((mem_keysOf hc0).1 hk)
    refine ⟨by omega, h1.1, fun i hi => ?_⟩
    have := h1.2.1 _ (geti_mem hi)
    omega
  obtain ⟨locks, hlocks⟩ : ∃ x, x = locksTo n t cuts (getl t 0).length := ⟨_, rfl⟩
  rw [← hlocks]
  have hll : locks.length ≤ 12 := by rw [hlocks, locksTo_len]; omega
  have hlk : ∀ k, k < locks.length → (getll locks k).length = n := fun k hk => by rw [hlocks]; rw [hlocks, locksTo_len] at hk; exact lock_len hk
  have hfirst := l02First_any m hok m.c.toNat (fun _ => False) (.slice none 0 0) []
  rw [genB_nil] at hfirst
  have hcc : ((m.c.toNat : Nat) : Int) = m.c := by omega
  have Hfirst := Lib.hid (And.intro hfirst hcc); clear hfirst hcc
  have Hkey := Lib.hid (And.intro hkey hkl); clear hkey hkl hmk
  have Hlocks := Lib.hid hlocks; clear hlocks
  have Hlk := Lib.hid hlk; clear hlk
  have Hf := Lib.hid (And.intro hf (And.intro hn (And.intro hok hc0))); clear hf hn hok hc0
  obtain ⟨W1, hW1, hB01, hz01, HZ01, hc01, hh01⟩ := box_facts W #[.int .i64 m.c, .int .i64 m.d, .int .i64 m.s, .int .i64 m.e, .int .i64 m.l, .slice a t.length c] 28
  have hV1 := (h.below hB01).any
  have hC1 := (hc.below hB01).any
  have hown0 := own_lit0 W1 W1.heap.size 46 1 (Nat.le_refl _)
  go_enter Tryz.func174, Tryz.ntmps174
  go_wp2_with fail
  rw [← hW1, show W.heap.size + 1 = W1.heap.size from HZ01.out.symm]
  have hbA : Below W1.heap.size W1 (W1.alloc (.cells #[] 46)) := (Below.refl _ _).alloc (Nat.le_refl _) _
  refine (l15Locks_any m _ _ t cuts n _ Hf.out.1 Hf.out.2.1 (hV1.below hbA) (hC1.below hbA)).mono ?_
  rintro e' wL ⟨lv, rfl, hLk0, hbL⟩
  rw [← Hlocks.out] at hLk0
  have hLk1 : LkAt W1.heap.size wL.heap.size (.slice (some ⟨W1.heap.size, 0, none⟩) 0 0) wL lv locks := ⟨hLk0.mono (fun b h1 h2 => ⟨by simp at h1; omega, h2⟩) (fun _ _ _ => rfl), fun g hg => .inl (by cases hg; rfl), Nat.le_refl _⟩
  obtain ⟨la, lc, rfl, hlm⟩ := hLk0.form
  have hBL := hbA.trans (hbL.mono (by simp))
  have hxL : ∀ o, wL.cell? ⟨W.heap.size, o, none⟩ = (#[.int .i64 m.c, .int .i64 m.d, .int .i64 m.s, .int .i64 m.e, .int .i64 m.l, .slice a t.length c] : Array Value)[o]? := fun o => by rw [(bcell hBL).1 _ _ hz01, hc01]
  have hownL := own_chg hown0 (Chg.of_below (F := fun _ => False) hbL) (fun _ _ h => h)
  have HW1 := Lib.hid hW1; clear hW1 hh01
  have Hc01 := Lib.hid hc01; clear hc01
  have HL := Lib.hid (And.intro hLk1 hownL); clear hLk1 hownL hown0 hLk0
  go_wp2_with fail
  refine (Hfirst.out.1 _ ⟨none, 0, rfl, Nat.le_refl _, Nat.zero_le _, fun k hk => by simp at hk⟩ (fun _ => .inl rfl) (by have := Hfirst.out.2; simp; omega) (fun k hk => by simp at hk)).mono ?_
  rintro e' wF ⟨kv, rfl, hkv, hbF⟩
  have hBF := hBL.trans (hbF.mono hBL.size)
  have hzL := hBL.size
  have hkv0 : (nextAns (keysOf m)).2 = true → V1 (fun b => (Value.slice (some ⟨W1.heap.size, 0, none⟩) 0 0).ownBlock ≠ some b) wF kv (nextAns (keysOf m)).1 := fun hh => (hkv hh).mono (fun b h1 h2 e => by
    rcases h1 with h1 | h1
    · exact h1
    · have e' : W1.heap.size = b := by simpa [Value.ownBlock] using e
      have := hbA.size; have := hbL.size; simp at *; omega) (fun _ _ _ => rfl)
  have hLF : LkAt W1.heap.size wL.heap.size (.slice (some ⟨W1.heap.size, 0, none⟩) 0 0) wF (.slice la locks.length lc) locks := HL.out.1.below hbF
  have hownF := own_chg HL.out.2 (Chg.of_below (F := fun _ => False) hbF) (fun _ _ h => h)
  have HI := Lib.hid (And.intro hkv0 (And.intro hLF hownF)); clear hkv hkv0 hLF hownF HL hxL
  go_wp2_with fail
  go_loopw [7, 9, 10, 11, 12] (fun ou kv okv _ _ wr => ∃ (L1 L2 : List (List Int)) (vs : List Value), keysOf m = L1 ++ L2 ∧ okv = .bool (nextAns L2).2 ∧ ((nextAns L2).2 = true → V1 (fun b => ou.ownBlock ≠ some b) wr kv (nextAns L2).1) ∧ wr.ownsRow W1.heap.size 46 1 ou (selL locks cuts gb L1).length vs ∧ RowVs (fun b => ou.ownBlock ≠ some b) wr vs (selL locks cuts gb L1) ∧ LkAt W1.heap.size wL.heap.size ou wr (.slice la locks.length lc) locks ∧ Below W1.heap.size W1 wr) (fun _ kv okv _ _ wr => toCome m wr kv okv)
  case atStart => exact ⟨[], keysOf m, [], rfl, rfl, HI.out.1, HI.out.2.2, RowVs.nil, HI.out.2.1, hBF⟩
  case round =>
    obtain ⟨L1, L2, vs, hL, hok, hkv, hown, hR, hLk, hB⟩ := hrel
    obtain ⟨wo, rfl⟩ : ∃ wo, wo = wr := ⟨_, rfl⟩
    have hzr := hB.size
    have hselL := selL_length locks cuts gb L1
    have hLl : L1.length ≤ 262144 := by have := Hkey.out.2; rw [hL, List.length_append] at this; omega
    cases L2 with
    | nil =>
      rw [List.append_nil] at hL
      have hok' : _ = Value.bool false := hok
      subst hok'
      have hV4 := (own_V2 hown (hR.mono (fun _ _ _ => trivial))).old
      rw [← hL] at hV4
      obtain ⟨oa, oc, rfl, ho1, ho2⟩ := own_form hown
      have HV4 := Lib.hid hV4; clear hV4 hkv hR hown hLk
      go_wp2_with fail
      go_ret
      exact ⟨_, rfl, HV4.out, hB01.trans (hB.mono (by omega))⟩
    | cons k r =>
      have hok' : _ = Value.bool true := hok
      subst hok'
      have hk1 := hkv rfl
      have hk1' : V1 _ wo _ k := hk1
      obtain ⟨hkn, hkc, hkr⟩ := Hkey.out.1 k (by rw [hL]; simp)
      have hbeh := keys_behind Hf.out.2.2.2 hL
      obtain ⟨ka, kc, rfl, hkm⟩ := hk1'.form
      have hkn2 : k.length ≤ n := by omega
      have Hk := Lib.hid (And.intro hkc (And.intro hkr hbeh)); clear hkc hkr hbeh hkv hkn
      have hL' : keysOf m = (L1 ++ [k]) ++ r := by rw [hL]; simp
      have HL' := Lib.hid (And.intro hL hL'); clear hL hL'
      have Hown := Lib.hid (And.intro hown hR); clear hown hR
      have hsn := selL_snoc locks cuts gb L1 k
      have Hsn := Lib.hid hsn; clear hsn
      have hxo : ∀ o, wo.cell? ⟨W.heap.size, o, none⟩ = (#[.int .i64 m.c, .int .i64 m.d, .int .i64 m.s, .int .i64 m.e, .int .i64 m.l, .slice a t.length c] : Array Value)[o]? := fun o => by rw [(bcell hB).1 _ _ hz01, Hc01.out]
      clear hk1
      go_wp2_with fail
      clear hxo
      go_loopw [11, 12] (fun ob j wn => ∃ q : Nat, q ≤ locks.length ∧ j = .int .i64 (q : Int) ∧ ob = .bool (openTo locks k q) ∧ Below wo.heap.size wo wn) (fun _ j _ => locks.length - (intOf j).toNat)
      case atStart => exact ⟨0, Nat.zero_le _, rfl, rfl, Below.refl _ _⟩
      case round =>
        obtain ⟨q, hq, rfl, rfl, hBn⟩ := hrel
        have hzn := hBn.size
        by_cases hqq : q < locks.length
        · cases ho : openTo locks k q
          · obtain ⟨b2, off2, a2, c2, rfl, _, hc2, hr2⟩ := (hLk.1.below hBn).cell hqq
            have hlen : k.length ≤ (getll locks q).length := by rw [Hlk.out q hqq]; exact hkn2
            have hst : openTo locks k (q + 1) = opensB (getll locks q) k := by rw [openTo, ho]; rfl
            have Hst := Lib.hid hst; clear hst
            have Ho := Lib.hid ho; clear ho
            go_wp2_with fail
            refine (l04Opens_any _ _ (getll locks q) k _ hr2 (hk1'.below hBn) hlen).mono ?_
            rintro e' w5 ⟨rfl, hb5⟩
            clear hc2 hr2
            go_wp2_with fail
            go_roundw
            case rel => exact ⟨q + 1, by omega, by go_num, by rw [Hst.out], hBn.trans (hb5.mono hzn)⟩
            case measure => simp [intOf]; omega
          · have hst : openTo locks k (q + 1) = true := by rw [openTo, ho]; rfl
            have Hst := Lib.hid hst; clear hst
            have Ho := Lib.hid ho; clear ho
            go_wp2_with fail
            go_roundw
            case rel => exact ⟨q + 1, by omega, by go_num, by rw [Hst.out], hBn⟩
            case measure => simp [intOf]; omega
        · obtain rfl : q = locks.length := by omega
          rw [openTo_all]
          have hBW := hB.trans (hBn.mono hzr)
          have hownW := own_chg Hown.out.1 (Chg.of_below (F := fun _ => False) hBn) (fun _ _ h => h)
          have hRW := RowVs.below Hown.out.2 hBn
          have hLkW := hLk.below hBn
          have hkW := hk1'.below hBn
          have hse : selK locks cuts gb k = ((decide (0 < ndoors locks k) == gb) && !hasL cuts k) := rfl
          have hslen : (selL locks cuts gb L1).length ≤ 262144 := by omega
          obtain ⟨o, ho⟩ : ∃ o, decide (0 < ndoors locks k) = o := ⟨_, rfl⟩
          rw [ho] at hse ⊢
          have Ho := Lib.hid ho; clear ho
          cases hog : (o == gb)
          · have hsf : ¬ selK locks cuts gb k = true := by rw [hse, hog]; simp
            have Hsf := Lib.hid (And.intro hsf hse); clear hsf hse
            have hownN := hownW
            have hRN := hRW
            have hLkN := hLkW
            have hBN := hBW
            have hkN := hkW
            clear hownW hRW hLkW hBW hkW
            have hxN : ∀ o, wr.cell? ⟨W.heap.size, o, none⟩ = (#[.int .i64 m.c, .int .i64 m.d, .int .i64 m.s, .int .i64 m.e, .int .i64 m.l, .slice a t.length c] : Array Value)[o]? := fun o => by rw [(bcell hBN).1 _ _ hz01, Hc01.out]
            have hzN : W.heap.size < wr.heap.size := by have := hBN.size; omega
            have HN := Lib.hid (And.intro hownN (And.intro hRN (And.intro hLkN hBN))); clear hownN hRN hLkN hBN
            go_wp2_with fail
            refine (l02Next_any m Hf.out.2.2.1 _ k _ hkN Hk.out.1 Hk.out.2.1).mono ?_
            rintro e' wM ⟨kv', he', hkv', hbM⟩
            rw [Hk.out.2.2] at he' hkv'
            subst he'
            have hkv2 : (nextAns r).2 = true → V1 _ wM kv' (nextAns r).1 := fun hh => key_far HN.out.1 (hkv' hh) (fun _ h => h)
            have HM := Lib.hid (And.intro hkv2 (And.intro (toCome_next Hf.out.2.2.2 hkv2 HL'.out.2) (toCome_more (m := m) hk1'))); clear hkv' hkv2 hxN
            obtain ⟨qb, hqb⟩ : ∃ qb, (nextAns r).2 = qb := ⟨_, rfl⟩
            rw [hqb]
            have Hqb := Lib.hid hqb; clear hqb
            go_wp2_with fail
            go_roundw
            case rel => exact ⟨L1 ++ [k], r, _, HL'.out.2, by rw [Hqb.out], HM.out.1, by rw [Hsn.out, if_neg Hsf.out.1]; exact own_chg HN.out.1 (Chg.of_below (F := fun _ => False) hbM) (fun _ _ h => h), by rw [Hsn.out, if_neg Hsf.out.1]; exact RowVs.below HN.out.2.1 hbM, HN.out.2.2.1.below hbM, HN.out.2.2.2.trans (hbM.mono HN.out.2.2.2.size)⟩
            case measure => rw [HM.out.2.2, Hk.out.2.2]; have := HM.out.2.1; rw [Hqb.out] at this; omega
          · cases hh : hasL cuts k
            · have hst : selK locks cuts gb k = true := by rw [hse, hog, hh]; rfl
              have Hst := Lib.hid (And.intro hst hse); clear hst hse
              have Hh := Lib.hid hh; clear hh
              go_wp2_with fail
              refine (l14Has_b _ _ cuts k _ _ Hh.out (hC1.below hBW) hkW).mono ?_
              rintro e' w6 ⟨rfl, nq, hw6⟩
              have hb6 : Below wr.heap.size wr w6 := by rw [hw6]; exact below_drewN (Below.refl _ _) _
              clear hw6
              have hown6 := own_chg hownW (Chg.of_below (F := fun _ => False) hb6) (fun _ _ h => h)
              have hR6 := RowVs.below hRW hb6
              have hLk6 := hLkW.below hb6
              have hB6 := hBW.trans (hb6.mono (by have := hBW.size; omega))
              have hk6 := hkW.below hb6
              have hz6 := hB6.size
              clear hownW hRW hLkW hBW hkW
              go_wp2_with ((at_builtin; refine wp_app1 _ rfl _ _ 26 rfl W1.heap.size 46 (.slice none 0 0) 24 Tryz.underlying26 inf_ints rfl u7 _ _ rfl hown6 (.slice ka k.length kc) _ rfl rfl (by omega) (by omega) (by omega) ?_; intro v1 w1 hown1 hgrow1 hblk1 hB1); have hBN := hB6.trans hB1; have hx1 : ∀ o, w1.cell? ⟨W.heap.size, o, none⟩ = (#[.int .i64 m.c, .int .i64 m.d, .int .i64 m.s, .int .i64 m.e, .int .i64 m.l, .slice a t.length c] : Array Value)[o]? := (fun o => by rw [(bcell hBN).1 _ _ hz01, Hc01.out]); have hz1 : W.heap.size < w1.heap.size := (by have := hBN.size; omega))
              clear hx1
              have hownN := hown1
              rw [show (selL locks cuts gb L1).length + 1 = (selL locks cuts gb L1 ++ [k]).length from (by simp)] at hownN
              have hkN : V1 (fun b => v1.ownBlock ≠ some b) w1 _ k := V1.far hk6 hgrow1 hblk1
              have hRN := RowVs.snoc (RowVs.far hR6 hgrow1 hblk1) hkN
              have hLkN := hLk6.grown hgrow1 hblk1
              clear hown6 hR6 hLk6 hB6 hk6 hown1 hgrow1 hblk1 hB1
              have hxN : ∀ o, w1.cell? ⟨W.heap.size, o, none⟩ = (#[.int .i64 m.c, .int .i64 m.d, .int .i64 m.s, .int .i64 m.e, .int .i64 m.l, .slice a t.length c] : Array Value)[o]? := fun o => by rw [(bcell hBN).1 _ _ hz01, Hc01.out]
              have hzN : W.heap.size < w1.heap.size := by have := hBN.size; omega
              have HN := Lib.hid (And.intro hownN (And.intro hRN (And.intro hLkN hBN))); clear hownN hRN hLkN hBN
              go_wp2_with fail
              refine (l02Next_any m Hf.out.2.2.1 _ k _ hkN Hk.out.1 Hk.out.2.1).mono ?_
              rintro e' wM ⟨kv', he', hkv', hbM⟩
              rw [Hk.out.2.2] at he' hkv'
              subst he'
              have hkv2 : (nextAns r).2 = true → V1 _ wM kv' (nextAns r).1 := fun hh => key_far HN.out.1 (hkv' hh) (fun _ h => h)
              have HM := Lib.hid (And.intro hkv2 (And.intro (toCome_next Hf.out.2.2.2 hkv2 HL'.out.2) (toCome_more (m := m) hk1'))); clear hkv' hkv2 hxN
              obtain ⟨qb, hqb⟩ : ∃ qb, (nextAns r).2 = qb := ⟨_, rfl⟩
              rw [hqb]
              have Hqb := Lib.hid hqb; clear hqb
              go_wp2_with fail
              go_roundw
              case rel => exact ⟨L1 ++ [k], r, _, HL'.out.2, by rw [Hqb.out], HM.out.1, by rw [Hsn.out, if_pos Hst.out.1]; exact own_chg HN.out.1 (Chg.of_below (F := fun _ => False) hbM) (fun _ _ h => h), by rw [Hsn.out, if_pos Hst.out.1]; exact RowVs.below HN.out.2.1 hbM, HN.out.2.2.1.below hbM, HN.out.2.2.2.trans (hbM.mono HN.out.2.2.2.size)⟩
              case measure => rw [HM.out.2.2, Hk.out.2.2]; have := HM.out.2.1; rw [Hqb.out] at this; omega
            · have hsf : ¬ selK locks cuts gb k = true := by rw [hse, hog, hh]; simp
              have Hsf := Lib.hid (And.intro hsf hse); clear hsf hse
              have Hh := Lib.hid hh; clear hh
              go_wp2_with fail
              refine (l14Has_b _ _ cuts k _ _ Hh.out (hC1.below hBW) hkW).mono ?_
              rintro e' w6 ⟨rfl, nq, hw6⟩
              have hb6 : Below wr.heap.size wr w6 := by rw [hw6]; exact below_drewN (Below.refl _ _) _
              clear hw6
              have hownN := own_chg hownW (Chg.of_below (F := fun _ => False) hb6) (fun _ _ h => h)
              have hRN := RowVs.below hRW hb6
              have hLkN := hLkW.below hb6
              have hBN := hBW.trans (hb6.mono (by have := hBW.size; omega))
              have hkN := hkW.below hb6
              clear hownW hRW hLkW hBW hkW
              have hxN : ∀ o, w6.cell? ⟨W.heap.size, o, none⟩ = (#[.int .i64 m.c, .int .i64 m.d, .int .i64 m.s, .int .i64 m.e, .int .i64 m.l, .slice a t.length c] : Array Value)[o]? := fun o => by rw [(bcell hBN).1 _ _ hz01, Hc01.out]
              have hzN : W.heap.size < w6.heap.size := by have := hBN.size; omega
              have HN := Lib.hid (And.intro hownN (And.intro hRN (And.intro hLkN hBN))); clear hownN hRN hLkN hBN
              go_wp2_with fail
              refine (l02Next_any m Hf.out.2.2.1 _ k _ hkN Hk.out.1 Hk.out.2.1).mono ?_
              rintro e' wM ⟨kv', he', hkv', hbM⟩
              rw [Hk.out.2.2] at he' hkv'
              subst he'
              have hkv2 : (nextAns r).2 = true → V1 _ wM kv' (nextAns r).1 := fun hh => key_far HN.out.1 (hkv' hh) (fun _ h => h)
              have HM := Lib.hid (And.intro hkv2 (And.intro (toCome_next Hf.out.2.2.2 hkv2 HL'.out.2) (toCome_more (m := m) hk1'))); clear hkv' hkv2 hxN
              obtain ⟨qb, hqb⟩ : ∃ qb, (nextAns r).2 = qb := ⟨_, rfl⟩
              rw [hqb]
              have Hqb := Lib.hid hqb; clear hqb
              go_wp2_with fail
              go_roundw
              case rel => exact ⟨L1 ++ [k], r, _, HL'.out.2, by rw [Hqb.out], HM.out.1, by rw [Hsn.out, if_neg Hsf.out.1]; exact own_chg HN.out.1 (Chg.of_below (F := fun _ => False) hbM) (fun _ _ h => h), by rw [Hsn.out, if_neg Hsf.out.1]; exact RowVs.below HN.out.2.1 hbM, HN.out.2.2.1.below hbM, HN.out.2.2.2.trans (hbM.mono HN.out.2.2.2.size)⟩
              case measure => rw [HM.out.2.2, Hk.out.2.2]; have := HM.out.2.1; rw [Hqb.out] at this; omega
end Go.Proofs.YtmfgdoflddhngaaGreat

namespace Go.Proofs.YtmfgdoflddhngaaGreat
open Go.RowKit
set_option linter.unusedVariables false
set_option linter.unusedSimpArgs false

def Few (l : List Int) : Prop := l.length ≤ 1000 ∧ ∀ x ∈ l, 0 ≤ x ∧ x ≤ 1000000
theorem sum_take_bd {l : List Int} (h : Few l) (k : Nat) : 0 ≤ (l.take k).sum ∧ (l.take k).sum ≤ 1000000 * 1000 := by
  have := sum_bd (l := l.take k) (B := 1000000) fun x hx => h.2 x (List.mem_of_mem_take hx)
  have h2 : (l.take k).length ≤ 1000 := Nat.le_trans (List.length_take_le' _ _) h.1
  omega
theorem sum_any {S : Nat → Prop} (v : Value) (l : List Int) (W : World) (r : Int) (hr : l.sum = r) (h : V1 S W v l) (hs : Few l) :
    Calls Tryz.prog 140 #[v] W fun e' w' => e' = .returned (.int .i64 r) ∧ W = w' := by
  have hV := h
  obtain ⟨a, c, rfl, hm⟩ := h.form
  have Hr := Lib.hid hr; clear hr
  have Hs := Lib.hid hs; clear hs
  go_enter Tryz.func140, Tryz.ntmps140
  go_wp2_with fail
  go_loop [3, 5, 8] (fun s _ i => ∃ k : Nat, k ≤ l.length ∧ i = .int .i64 (k : Int) ∧ s = .int .i64 (l.take k).sum) (fun _ _ i => l.length - (intOf i).toNat)
  case atStart => exact ⟨0, Nat.zero_le _, rfl, rfl⟩
  case round =>
    obtain ⟨k, hk, rfl, rfl⟩ := hrel
    have hbd := sum_take_bd Hs.out k
    obtain ⟨q, hq⟩ : ∃ q, (l.take k).sum = q := ⟨_, rfl⟩
    rw [hq] at hbd ⊢
    have Hq := Lib.hid hq; clear hq
    by_cases hkk : k < l.length
    · obtain ⟨b2, off2, rfl, _, hc2⟩ := hV.cell hkk
      have hx := Hs.out.2 _ (geti_mem hkk)
      have hst := sum_take hkk
      have Hst := Lib.hid hst; clear hst
      go_wp2_with fail
      go_round
      case rel => exact ⟨k + 1, by omega, by go_num, by rw [Hst.out, Hq.out]⟩
      case measure => simp [intOf]; omega
    · obtain rfl : k = l.length := by omega
      go_wp2_with fail
      go_ret
      exact ⟨ret_int (by rw [← Hr.out, ← Hq.out, List.take_length]), rfl⟩
theorem l01Sum_any {S : Nat → Prop} (v : Value) (l : List Int) (W : World) (r : Int) (hr : l.sum = r) (h : V1 S W v l) (hs : Few l) :
    Calls Tryz.prog 141 #[v] W fun e' w' => e' = .returned (.int .i64 r) ∧ W = w' := by
  have hV := h
  obtain ⟨a, c, rfl, hm⟩ := h.form
  have Hr := Lib.hid hr; clear hr
  have Hs := Lib.hid hs; clear hs
  go_enter Tryz.func141, Tryz.ntmps141
  go_wp2_with fail
  go_loop [3, 4] (fun s i => ∃ k : Nat, k ≤ l.length ∧ i = .int .i64 (k : Int) ∧ s = .int .i64 (l.take k).sum) (fun _ i => l.length - (intOf i).toNat)
  case atStart => exact ⟨0, Nat.zero_le _, rfl, rfl⟩
  case round =>
    obtain ⟨k, hk, rfl, rfl⟩ := hrel
    have hbd := sum_take_bd Hs.out k
    obtain ⟨q, hq⟩ : ∃ q, (l.take k).sum = q := ⟨_, rfl⟩
    rw [hq] at hbd ⊢
    have Hq := Lib.hid hq; clear hq
    by_cases hkk : k < l.length
    · obtain ⟨b2, off2, rfl, _, hc2⟩ := hV.cell hkk
      have hx := Hs.out.2 _ (geti_mem hkk)
      have hst := sum_take hkk
      have Hst := Lib.hid hst; clear hst
      go_wp2_with fail
      go_round
      case rel => exact ⟨k + 1, by omega, by go_num, by rw [Hst.out, Hq.out]⟩
      case measure => simp [intOf]; omega
    · obtain rfl : k = l.length := by omega
      go_wp2_with fail
      go_ret
      exact ⟨ret_int (by rw [← Hr.out, ← Hq.out, List.take_length]), rfl⟩

theorem cntL_drop (locks : List (List (List Int))) (ks : List (List Int)) (n : Nat) : (cntL locks ks 0 (n + 1)).drop 1 = cntL locks ks 1 n := by
  apply List.ext_getElem (by simp [cntL])
  intro i h1 h2
  simp [cntL, Nat.add_comm]
theorem cntL_few {locks : List (List (List Int))} {ks : List (List Int)} {lo n : Nat} (hn : n ≤ 1000) (hk : ks.length ≤ 1000000) : Few (cntL locks ks lo n) := by
  refine ⟨by rw [cntL_len]; exact hn, fun x hx => ?_⟩
  unfold cntL at hx
  rw [List.mem_map] at hx
  obtain ⟨j, _, rfl⟩ := hx
  have := cntN_le locks ks (lo + j)
  omega
/-- The outsiders that open some door, counted. -/
theorem ghosts_sum {locks : List (List (List Int))} {cuts ks : List (List Int)} {D : Nat} (hD : locks.length = D) : (cntL locks (outsOf cuts ks) 1 D).sum = ((selL locks cuts true ks).length : Int) := by
  rw [cnt_sum]
  congr 1
  unfold outsOf selL
  rw [List.countP_filter, List.countP_eq_length_filter]
  congr 1
  apply List.filter_congr
  intro k _
  unfold selK
  have := ndoors_le locks k
  have e : decide (1 ≤ ndoors locks k ∧ ndoors locks k < 1 + D) = decide (0 < ndoors locks k) := by rw [decide_eq_decide]; omega
  rw [e]
  cases decide (0 < ndoors locks k) <;> rfl

/-- The number of ghosts of a system. -/
def sysGhostAns (m : Mk) (t cuts : List (List Int)) : Int × Int :=
  if designC m t cuts ≠ 0 then (0, designC m t cuts) else (((selL (locksTo m.c.toNat t cuts (getl t 0).length) cuts true (keysOf m)).length : Nat), 0)
set_option maxRecDepth 100000 in
theorem CountSystemGhosts_any {S S' : Nat → Prop} (m : Mk) (u v : Value) (t cuts : List (List Int)) (W : World) (h : V2 S W u t) (hc : V2 S' W v cuts) :
    Calls Tryz.prog 71 #[.agg #[.int .i64 m.c, .int .i64 m.d, .int .i64 m.s, .int .i64 m.e, .int .i64 m.l, u], v] W fun e' w' => e' = .returned (.tuple #[.int .i64 (sysGhostAns m t cuts).1, .int .i64 (sysGhostAns m t cuts).2]) ∧ Below W.heap.size W w' := by
  obtain ⟨a, c, rfl, hmx⟩ := h.form
  obtain ⟨a', c', rfl, hmx'⟩ := hc.form
  obtain ⟨W1, hW1, hB01, hz01, HZ01, hc01, hh01⟩ := box_facts W #[.int .i64 m.c, .int .i64 m.d, .int .i64 m.s, .int .i64 m.e, .int .i64 m.l, .slice a t.length c] 28
  have hV1 := (h.below hB01).any
  have hC1 := (hc.below hB01).any
  have hcode := designCode_any m _ _ t cuts W1 hV1 hC1
  by_cases hp : designC m t cuts = 0
  · rw [hp] at hcode
    have hf := (design_fits hp).1
    have hmc := mc_nat hf.ok
    have hdoors := hf.doors
    have hkl := keysOf_length hf.ok
    have hol := outsOf_length cuts (keysOf m)
    obtain ⟨locks, hlocks⟩ : ∃ x, x = locksTo m.c.toNat t cuts (getl t 0).length := ⟨_, rfl⟩
    obtain ⟨D, hD⟩ : ∃ D, (getl t 0).length = D := ⟨_, rfl⟩
    have hll : locks.length = D := by rw [hlocks, locksTo_len, hD]
    have hfin : sysGhostAns m t cuts = ((((selL locks cuts true (keysOf m)).length : Nat) : Int), 0) := by unfold sysGhostAns; rw [if_neg (by rw [hp]; decide), ← hlocks]
    have hsum := ghosts_sum (cuts := cuts) (ks := keysOf m) hll
    have hpr := profileOf_any (S := fun _ => True) (S' := fun _ => True) m (.slice a t.length c) (.slice a' cuts.length c') t cuts m.c.toNat
    rw [← hlocks, hD] at hpr
    rw [hfin]
    rw [hD] at hdoors
    obtain ⟨r, hr⟩ : ∃ r, (((selL locks cuts true (keysOf m)).length : Nat) : Int) = r := ⟨_, rfl⟩
    rw [hr] at hsum ⊢
    have hfew := cntL_few (locks := locks) (ks := outsOf cuts (keysOf m)) (lo := 1) (n := D) (by omega) (by omega)
    have Hf := Lib.hid (And.intro hf (And.intro hmc (And.intro hpr (And.intro hsum hfew)))); clear hf hmc hpr hsum hfew hol hkl
    have Hp := Lib.hid (And.intro hp (And.intro hfin (And.intro hlocks (And.intro hD (And.intro hll hr))))); clear hp hfin hlocks hD hll hr
    have Hcode := Lib.hid hcode; clear hcode
    go_enter Tryz.func71, Tryz.ntmps71
    go_wp2_with fail
    rw [← hW1]
    refine Hcode.out.mono ?_
    rintro e' w2 ⟨rfl, hb2⟩
    have hx2 : ∀ o, w2.cell? ⟨W.heap.size, o, none⟩ = (#[.int .i64 m.c, .int .i64 m.d, .int .i64 m.s, .int .i64 m.e, .int .i64 m.l, .slice a t.length c] : Array Value)[o]? := fun o => by rw [(bcell hb2).1 _ _ hz01, hc01]
    have hz2 : W.heap.size < w2.heap.size := by have := hb2.size; omega
    clear hc01 hh01
    go_wp2_with fail
    refine (Hf.out.2.2.1 _ Hf.out.1 Hf.out.2.1 (hV1.below hb2) (hC1.below hb2)).mono ?_
    rintro e' w3 ⟨G, rfl, hG, hblk, hb3⟩
    have hx := hblk.x1 (off := 1) (by rw [cntL_len]; omega) (by rw [cntL_len]; omega)
    rw [cntL_drop, cntL_len] at hx
    have Hx := Lib.hid (hx.v1 (S := fun _ => True) (fun _ => trivial)); clear hx hblk hx2
    have h1D : (1 : Int) ≤ ((D : Int) + 1) := by omega
    go_wp2_with fail
    refine (sum_any _ (cntL locks (outsOf cuts (keysOf m)) 1 D) _ r Hf.out.2.2.2.1 Hx.out Hf.out.2.2.2.2).mono ?_
    rintro e' w4 ⟨rfl, rfl⟩
    go_wp2_with fail
    go_ret2
    exact ⟨rfl, hB01.trans ((hb2.trans (hb3.mono hb2.size)).mono (by omega))⟩
  · have hfin : sysGhostAns m t cuts = (0, designC m t cuts) := by unfold sysGhostAns; rw [if_pos hp]; (try rfl)
    have e1 : (designC m t cuts != 0) = true := by simp [hp]
    rw [hfin]
    have Hp := Lib.hid (And.intro hp hfin); clear hp hfin
    generalize designC m t cuts = pc at *
    go_enter Tryz.func71, Tryz.ntmps71
    go_wp2_with fail
    rw [← hW1]
    refine hcode.mono ?_
    rintro e' w2 ⟨rfl, hb2⟩
    clear hc01 hh01
    go_wp2_with fail
    go_ret2
    exact ⟨rfl, hB01.trans (hb2.mono (by omega))⟩
end Go.Proofs.YtmfgdoflddhngaaGreat
