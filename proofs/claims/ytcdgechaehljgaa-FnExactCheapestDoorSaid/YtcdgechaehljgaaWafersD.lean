/- The wafers of locks and of designs; the cheapest door. No conditions. -/
import Derived.Test.YtcdgechaehljgaaDesign
namespace Go.Proofs.Ytcdgechaehljgaa
open Go.RowKit
set_option linter.unusedVariables false
set_option linter.unusedSimpArgs false

def wafTo (l : List (List Int)) : Nat → Int
  | 0 => 0
  | k + 1 => wafTo l k + ((getl l k).length - 1)
def wafers (l : List (List Int)) : Int := wafTo l l.length
theorem wafTo_bd {l : List (List Int)} (h : ∀ k, k < l.length → (getl l k).length ≤ 1000) : ∀ k, k ≤ l.length → -(k : Int) ≤ wafTo l k ∧ wafTo l k ≤ 1000 * k
  | 0, _ => by simp [wafTo]
  | k + 1, hk => by have := wafTo_bd h k (by omega); have := h k (by omega); unfold wafTo; omega
/-- A lock of few small sets. -/
def Small (l : List (List Int)) : Prop := l.length ≤ 1000 ∧ ∀ k, k < l.length → (getl l k).length ≤ 1000
theorem wafers_bd {l : List (List Int)} (h : Small l) : -1000 ≤ wafers l ∧ wafers l ≤ 1000000 := by
  have := wafTo_bd h.2 l.length (Nat.le_refl _)
  have := h.1
  unfold wafers; omega

theorem wafersOf_any {S : Nat → Prop} (u : Value) (l : List (List Int)) (W : World) (r : Int) (hr : wafers l = r) (h : V2 S W u l) (hs : Small l) :
    Calls Try.prog 99 #[.agg #[u]] W fun e' w' => e' = .returned (.int .i64 r) ∧ Below W.heap.size W w' := by
  obtain ⟨a, c, rfl, hmx⟩ := h.form
  obtain ⟨W1, hW1, hB01, hz01, HZ01, hc01, hh01⟩ := box_facts W #[.slice a l.length c] 87
  have hV1 := (h.below hB01).any
  have hl := hs.1
  have Hr := Lib.hid hr; clear hr
  have Hs := Lib.hid hs; clear hs
  go_enter Try.func99, Try.ntmps99
  go_wp2_with fail
  rw [← hW1]
  have HW1 := Lib.hid hW1; clear hW1 hh01 hc01
  go_loop [3, 5, 9] (fun s _ i => ∃ k : Nat, k ≤ l.length ∧ i = .int .i64 (k : Int) ∧ s = .int .i64 (wafTo l k)) (fun _ _ i => l.length - (intOf i).toNat)
  case atStart => exact ⟨0, Nat.zero_le _, rfl, rfl⟩
  case round =>
    obtain ⟨k, hk, rfl, rfl⟩ := hrel
    have hbd := wafTo_bd Hs.out.2 k hk
    obtain ⟨q, hq⟩ : ∃ q, wafTo l k = q := ⟨_, rfl⟩
    rw [hq] at hbd ⊢
    have Hq := Lib.hid hq; clear hq
    by_cases hkk : k < l.length
    · obtain ⟨b2, off2, a2, c2, rfl, _, hc2, hr2⟩ := hV1.cell hkk
      have hl2 := Hs.out.2 k hkk
      go_wp2_with fail
      go_round
      case rel => exact ⟨k + 1, by omega, by go_num, by rw [wafTo, Hq.out]⟩
      case measure => simp [intOf]; omega
    · obtain rfl : k = l.length := by omega
      go_wp2_with fail
      go_ret
      exact ⟨ret_int (by rw [← Hr.out, ← Hq.out]; rfl), hB01⟩
theorem l04Wafers_any {S : Nat → Prop} (u : Value) (l : List (List Int)) (W : World) (r : Int) (hr : wafers l = r) (h : V2 S W u l) (hs : Small l) :
    Calls Try.prog 96 #[.agg #[u]] W fun e' w' => e' = .returned (.int .i64 r) ∧ Below W.heap.size W w' := by
  obtain ⟨a, c, rfl, hmx⟩ := h.form
  obtain ⟨W1, hW1, hB01, hz01, HZ01, hc01, hh01⟩ := box_facts W #[.slice a l.length c] 87
  have hV1 := (h.below hB01).any
  have hl := hs.1
  have Hr := Lib.hid hr; clear hr
  have Hs := Lib.hid hs; clear hs
  go_enter Try.func96, Try.ntmps96
  go_wp2_with fail
  rw [← hW1]
  have HW1 := Lib.hid hW1; clear hW1 hh01
  go_loop [3, 4] (fun s i => ∃ k : Nat, k ≤ l.length ∧ i = .int .i64 (k : Int) ∧ s = .int .i64 (wafTo l k)) (fun _ i => l.length - (intOf i).toNat)
  case atStart => exact ⟨0, Nat.zero_le _, rfl, rfl⟩
  case round =>
    obtain ⟨k, hk, rfl, rfl⟩ := hrel
    have hbd := wafTo_bd Hs.out.2 k hk
    obtain ⟨q, hq⟩ : ∃ q, wafTo l k = q := ⟨_, rfl⟩
    rw [hq] at hbd ⊢
    have Hq := Lib.hid hq; clear hq
    by_cases hkk : k < l.length
    · obtain ⟨b2, off2, a2, c2, rfl, _, hc2, hr2⟩ := hV1.cell hkk
      have hl2 := Hs.out.2 k hkk
      go_wp2_with fail
      go_round
      case rel => exact ⟨k + 1, by omega, by go_num, by rw [wafTo, Hq.out]; congr 1; omega⟩
      case measure => simp [intOf]; omega
    · obtain rfl : k = l.length := by omega
      go_wp2_with fail
      go_ret
      exact ⟨ret_int (by rw [← Hr.out, ← Hq.out]; rfl), hB01⟩

/-- The locks of partial cuts are small. -/
theorem diffI_le (l : List Int) : (diffI l).length ≤ l.length := by
  unfold diffI Go.Lib.compact Go.Lib.compactUpTo
  rw [List.length_map]
  refine Nat.le_trans (List.length_filter_le _ _) ?_
  simp
theorem locks_small {m : Mk} {t cuts : List (List Int)} {n : Nat} (hf : Fits m t cuts) (hn : (n : Int) = m.c) : ∀ k, k < (getl t 0).length → Small (getll (locksTo n t cuts (getl t 0).length) k) := fun k hk => by
  have hmk := Mk.ok_iff.1 hf.ok
  rw [locksTo_get hk, lockR]
  refine ⟨by rw [hullR_len]; omega, fun i hi => ?_⟩
  rw [hullR_len] at hi
  rw [hullR_get hi]
  have h1 := diffI_le (colOf (doorCuts t cuts k cuts.length) i)
  rw [colOf_len] at h1
  have := doorCuts_len t cuts k cuts.length
  have := hf.few
  have := hf.rows
  omega

def sysWaf (locks : List (List (List Int))) : Nat → Int
  | 0 => 0
  | k + 1 => sysWaf locks k + wafers (getll locks k)
theorem sysWaf_bd {locks : List (List (List Int))} (h : ∀ k, k < locks.length → Small (getll locks k)) : ∀ k, k ≤ locks.length → -(1000 * (k : Int)) ≤ sysWaf locks k ∧ sysWaf locks k ≤ 1000000 * k
  | 0, _ => by simp [sysWaf]
  | k + 1, hk => by have := sysWaf_bd h k (by omega); have := wafers_bd (h k (by omega)); unfold sysWaf; omega
def bestTo (locks : List (List (List Int))) : Nat → Nat
  | 0 => 0
  | k + 1 => if wafers (getll locks k) < wafers (getll locks (bestTo locks k)) then k else bestTo locks k
theorem bestTo_lt (locks : List (List (List Int))) : ∀ k, 0 < k → bestTo locks k < k
  | 0, h => by omega
  | 1, _ => by unfold bestTo bestTo; split <;> omega
  | k + 2, _ => by have := bestTo_lt locks (k + 1) (by omega); rw [bestTo]; split <;> omega
theorem bestTo_one (locks : List (List (List Int))) : bestTo locks 1 = 0 := by unfold bestTo bestTo; rw [if_neg (by omega)]

set_option maxRecDepth 100000 in
theorem systemWafers_any {S S' : Nat → Prop} (m : Mk) (u v : Value) (t cuts : List (List Int)) (n : Nat) (W : World) (hf : Fits m t cuts) (hn : (n : Int) = m.c) (h : V2 S W u t) (hc : V2 S' W v cuts) (r : Int) (hr : sysWaf (locksTo n t cuts (getl t 0).length) (getl t 0).length = r) :
    Calls Try.prog 101 #[.agg #[.int .i64 m.c, .int .i64 m.d, .int .i64 m.s, .int .i64 m.e, .int .i64 m.l, u], v] W fun e' w' => e' = .returned (.int .i64 r) ∧ Below W.heap.size W w' := by
  obtain ⟨a, c, rfl, hmx⟩ := h.form
  obtain ⟨a', c', rfl, hmx'⟩ := hc.form
  have hdoors := hf.doors
  have hsm := locks_small hf hn
  have Hf := Lib.hid (And.intro hf hn); clear hf hn
  obtain ⟨locks, hlocks⟩ : ∃ x, x = locksTo n t cuts (getl t 0).length := ⟨_, rfl⟩
  have hll : (getl t 0).length = locks.length := by rw [hlocks, locksTo_len]
  rw [← hlocks] at hr hsm
  rw [hll] at hr hsm hdoors
  have hbd := sysWaf_bd hsm
  have Hlocks := Lib.hid (And.intro hlocks hll); clear hlocks hll
  have Hsm := Lib.hid (And.intro hsm hbd); clear hsm hbd
  have Hr := Lib.hid hr; clear hr
  obtain ⟨W1, hW1, hB01, hz01, HZ01, hc01, hh01⟩ := box_facts W #[.int .i64 m.c, .int .i64 m.d, .int .i64 m.s, .int .i64 m.e, .int .i64 m.l, .slice a t.length c] 32
  have hV1 := (h.below hB01).any
  have hC1 := (hc.below hB01).any
  go_enter Try.func101, Try.ntmps101
  go_wp2_with fail
  rw [← hW1]
  refine (partLocks_any m _ _ t cuts n _ Hf.out.1 Hf.out.2 hV1 hC1).mono ?_
  rintro e' wL ⟨lv, rfl, hLk0, hBL⟩
  rw [← Hlocks.out.1] at hLk0
  have hLk := hLk0.any
  have hzL := hBL.size
  obtain ⟨la, lc, rfl, hlm⟩ := hLk.form
  have HW1 := Lib.hid hW1; clear hW1 hh01 hc01 hLk0
  go_wp2_with fail
  go_loopw [5, 7, 12] (fun s _ i wr => ∃ k : Nat, k ≤ locks.length ∧ i = .int .i64 (k : Int) ∧ s = .int .i64 (sysWaf locks k) ∧ Below wL.heap.size wL wr) (fun _ _ i _ => locks.length - (intOf i).toNat)
  case atStart => exact ⟨0, Nat.zero_le _, rfl, rfl, Below.refl _ _⟩
  case round =>
    obtain ⟨k, hk, rfl, rfl, hB⟩ := hrel
    have hzW := hB.size
    have hbd := Hsm.out.2 k hk
    obtain ⟨q, hq⟩ : ∃ q, sysWaf locks k = q := ⟨_, rfl⟩
    rw [hq] at hbd ⊢
    have Hq := Lib.hid hq; clear hq
    by_cases hkk : k < locks.length
    · obtain ⟨b1, off1, a1, c1, rfl, _, hc1, hr1⟩ := (hLk.below hB).cell hkk
      have hsk := Hsm.out.1 k hkk
      have hwb := wafers_bd hsk
      have Hsk := Lib.hid hsk; clear hsk
      obtain ⟨x, hx⟩ : ∃ x, wafers (getll locks k) = x := ⟨_, rfl⟩
      rw [hx] at hwb
      have Hx := Lib.hid hx; clear hx
      have hbA : Below wr.heap.size wr (wr.alloc (.cells #[.slice a1 (getll locks k).length c1] 87)) := (Below.refl _ _).alloc (Nat.le_refl _) _
      have hw1 : IntKind.i64.wrap (q + x) = q + x := IntWalk.i64_in _ (by omega)
      go_wp2_with fail
      refine (wafersOf_any _ (getll locks k) _ x Hx.out (hr1.below hbA) Hsk.out).mono ?_
      rintro e' w5 ⟨rfl, hb5⟩
      have hb05 := hbA.trans (hb5.mono (by simp))
      clear hc1 hr1 hbA
      go_wp2_with fail
      go_roundw
      case rel => exact ⟨k + 1, by omega, by go_num, by rw [sysWaf, Hq.out, Hx.out], hB.trans (hb05.mono hzW)⟩
      case measure => simp [intOf]; omega
    · obtain rfl : k = locks.length := by omega
      go_wp2_with fail
      go_ret
      exact ⟨ret_int (by rw [← Hr.out, ← Hq.out]), hB01.trans ((hBL.trans (hB.mono hzL)).mono (by omega))⟩
set_option maxRecDepth 100000 in
theorem l23Wafers_any {S S' : Nat → Prop} (m : Mk) (u v : Value) (t cuts : List (List Int)) (n : Nat) (W : World) (hf : Fits m t cuts) (hn : (n : Int) = m.c) (h : V2 S W u t) (hc : V2 S' W v cuts) (r : Int) (hr : sysWaf (locksTo n t cuts (getl t 0).length) (getl t 0).length = r) :
    Calls Try.prog 100 #[.agg #[.int .i64 m.c, .int .i64 m.d, .int .i64 m.s, .int .i64 m.e, .int .i64 m.l, u], v] W fun e' w' => e' = .returned (.int .i64 r) ∧ Below W.heap.size W w' := by
  obtain ⟨a, c, rfl, hmx⟩ := h.form
  obtain ⟨a', c', rfl, hmx'⟩ := hc.form
  have hdoors := hf.doors
  have hsm := locks_small hf hn
  have Hf := Lib.hid (And.intro hf hn); clear hf hn
  obtain ⟨locks, hlocks⟩ : ∃ x, x = locksTo n t cuts (getl t 0).length := ⟨_, rfl⟩
  have hll : (getl t 0).length = locks.length := by rw [hlocks, locksTo_len]
  rw [← hlocks] at hr hsm
  rw [hll] at hr hsm hdoors
  have hbd := sysWaf_bd hsm
  have Hlocks := Lib.hid (And.intro hlocks hll); clear hlocks hll
  have Hsm := Lib.hid (And.intro hsm hbd); clear hsm hbd
  have Hr := Lib.hid hr; clear hr
  obtain ⟨W1, hW1, hB01, hz01, HZ01, hc01, hh01⟩ := box_facts W #[.int .i64 m.c, .int .i64 m.d, .int .i64 m.s, .int .i64 m.e, .int .i64 m.l, .slice a t.length c] 32
  have hV1 := (h.below hB01).any
  have hC1 := (hc.below hB01).any
  go_enter Try.func100, Try.ntmps100
  go_wp2_with fail
  rw [← hW1]
  refine (l15Locks_any m _ _ t cuts n _ Hf.out.1 Hf.out.2 hV1 hC1).mono ?_
  rintro e' wL ⟨lv, rfl, hLk0, hBL⟩
  rw [← Hlocks.out.1] at hLk0
  have hLk := hLk0.any
  have hzL := hBL.size
  obtain ⟨la, lc, rfl, hlm⟩ := hLk.form
  have HW1 := Lib.hid hW1; clear hW1 hh01 hc01 hLk0
  go_wp2_with fail
  go_loopw [6, 7] (fun s i wr => ∃ k : Nat, k ≤ locks.length ∧ i = .int .i64 (k : Int) ∧ s = .int .i64 (sysWaf locks k) ∧ Below wL.heap.size wL wr) (fun _ i _ => locks.length - (intOf i).toNat)
  case atStart => exact ⟨0, Nat.zero_le _, rfl, rfl, Below.refl _ _⟩
  case round =>
    obtain ⟨k, hk, rfl, rfl, hB⟩ := hrel
    have hzW := hB.size
    have hbd := Hsm.out.2 k hk
    obtain ⟨q, hq⟩ : ∃ q, sysWaf locks k = q := ⟨_, rfl⟩
    rw [hq] at hbd ⊢
    have Hq := Lib.hid hq; clear hq
    by_cases hkk : k < locks.length
    · obtain ⟨b1, off1, a1, c1, rfl, _, hc1, hr1⟩ := (hLk.below hB).cell hkk
      have hsk := Hsm.out.1 k hkk
      have hwb := wafers_bd hsk
      have Hsk := Lib.hid hsk; clear hsk
      obtain ⟨x, hx⟩ : ∃ x, wafers (getll locks k) = x := ⟨_, rfl⟩
      rw [hx] at hwb
      have Hx := Lib.hid hx; clear hx
      have hw1 : IntKind.i64.wrap (q + x) = q + x := IntWalk.i64_in _ (by omega)
      go_wp2_with fail
      refine (l04Wafers_any _ (getll locks k) _ x Hx.out hr1 Hsk.out).mono ?_
      rintro e' w5 ⟨rfl, hb5⟩
      clear hc1 hr1
      go_wp2_with fail
      go_roundw
      case rel => exact ⟨k + 1, by omega, by go_num, by rw [sysWaf, Hq.out, Hx.out], hB.trans (hb5.mono hzW)⟩
      case measure => simp [intOf]; omega
    · obtain rfl : k = locks.length := by omega
      go_wp2_with fail
      go_ret
      exact ⟨ret_int (by rw [← Hr.out, ← Hq.out]), hB01.trans ((hBL.trans (hB.mono hzL)).mono (by omega))⟩

def sysWafAns (m : Mk) (t cuts : List (List Int)) : Int × Int :=
  if designC m t cuts ≠ 0 then (0, designC m t cuts) else (sysWaf (locksTo m.c.toNat t cuts (getl t 0).length) (getl t 0).length, 0)
set_option maxRecDepth 100000 in
theorem SystemWafers_any {S S' : Nat → Prop} (m : Mk) (u v : Value) (t cuts : List (List Int)) (W : World) (h : V2 S W u t) (hc : V2 S' W v cuts) :
    Calls Try.prog 50 #[.agg #[.int .i64 m.c, .int .i64 m.d, .int .i64 m.s, .int .i64 m.e, .int .i64 m.l, u], v] W fun e' w' => e' = .returned (.tuple #[.int .i64 (sysWafAns m t cuts).1, .int .i64 (sysWafAns m t cuts).2]) ∧ Below W.heap.size W w' := by
  obtain ⟨a, c, rfl, hmx⟩ := h.form
  obtain ⟨a', c', rfl, hmx'⟩ := hc.form
  obtain ⟨W1, hW1, hB01, hz01, HZ01, hc01, hh01⟩ := box_facts W #[.int .i64 m.c, .int .i64 m.d, .int .i64 m.s, .int .i64 m.e, .int .i64 m.l, .slice a t.length c] 32
  have hV1 := (h.below hB01).any
  have hC1 := (hc.below hB01).any
  have hcode := designCode_any m _ _ t cuts W1 hV1 hC1
  by_cases hp : designC m t cuts = 0
  · rw [hp] at hcode
    have hf := (design_fits hp).1
    have hmc := mc_nat hf.ok
    have hfin : sysWafAns m t cuts = (sysWaf (locksTo m.c.toNat t cuts (getl t 0).length) (getl t 0).length, 0) := by unfold sysWafAns; rw [if_neg (by rw [hp]; decide)]
    rw [hfin]
    have Hf := Lib.hid (And.intro hf hmc); clear hf hmc
    have Hcode := Lib.hid hcode; clear hcode
    have Hp := Lib.hid (And.intro hp hfin); clear hp hfin
    go_enter Try.func50, Try.ntmps50
    go_wp2_with fail
    rw [← hW1]
    refine Hcode.out.mono ?_
    rintro e' w2 ⟨rfl, hb2⟩
    have hx2 : ∀ o, w2.cell? ⟨W.heap.size, o, none⟩ = (#[.int .i64 m.c, .int .i64 m.d, .int .i64 m.s, .int .i64 m.e, .int .i64 m.l, .slice a t.length c] : Array Value)[o]? := fun o => by rw [(bcell hb2).1 _ _ hz01, hc01]
    have hz2 : W.heap.size < w2.heap.size := by have := hb2.size; omega
    clear hc01 hh01
    go_wp2_with fail
    refine (systemWafers_any m _ _ t cuts m.c.toNat _ Hf.out.1 Hf.out.2 (hV1.below hb2) (hC1.below hb2) _ rfl).mono ?_
    rintro e' w3 ⟨rfl, hb3⟩
    clear hx2
    go_wp2_with fail
    go_ret2
    exact ⟨rfl, hB01.trans ((hb2.trans (hb3.mono hb2.size)).mono (by omega))⟩
  · have hfin : sysWafAns m t cuts = (0, designC m t cuts) := by unfold sysWafAns; rw [if_pos hp]
    have e1 : (designC m t cuts != 0) = true := by simp [hp]
    rw [hfin]
    have Hp := Lib.hid (And.intro hp hfin); clear hp hfin
    generalize designC m t cuts = pc at *
    go_enter Try.func50, Try.ntmps50
    go_wp2_with fail
    rw [← hW1]
    refine hcode.mono ?_
    rintro e' w2 ⟨rfl, hb2⟩
    clear hc01 hh01
    go_wp2_with fail
    go_ret2
    exact ⟨rfl, hB01.trans (hb2.mono (by omega))⟩
set_option maxRecDepth 100000 in
theorem SystemWafersR_any {S S' : Nat → Prop} (m : Mk) (u v : Value) (t cuts : List (List Int)) (W : World) (h : V2 S W u t) (hc : V2 S' W v cuts) :
    Calls Try.prog 49 #[.agg #[.int .i64 m.c, .int .i64 m.d, .int .i64 m.s, .int .i64 m.e, .int .i64 m.l, u], v] W fun e' w' => e' = .returned (.tuple #[.int .i64 (sysWafAns m t cuts).1, .int .i64 (sysWafAns m t cuts).2]) ∧ Below W.heap.size W w' := by
  obtain ⟨a, c, rfl, hmx⟩ := h.form
  obtain ⟨a', c', rfl, hmx'⟩ := hc.form
  obtain ⟨W1, hW1, hB01, hz01, HZ01, hc01, hh01⟩ := box_facts W #[.int .i64 m.c, .int .i64 m.d, .int .i64 m.s, .int .i64 m.e, .int .i64 m.l, .slice a t.length c] 32
  have hV1 := (h.below hB01).any
  have hC1 := (hc.below hB01).any
  have hcode := l21Code_any m _ _ t cuts W1 hV1 hC1
  by_cases hp : designC m t cuts = 0
  · rw [hp] at hcode
    have hf := (design_fits hp).1
    have hmc := mc_nat hf.ok
    have hfin : sysWafAns m t cuts = (sysWaf (locksTo m.c.toNat t cuts (getl t 0).length) (getl t 0).length, 0) := by unfold sysWafAns; rw [if_neg (by rw [hp]; decide)]
    rw [hfin]
    have Hf := Lib.hid (And.intro hf hmc); clear hf hmc
    have Hcode := Lib.hid hcode; clear hcode
    have Hp := Lib.hid (And.intro hp hfin); clear hp hfin
    go_enter Try.func49, Try.ntmps49
    go_wp2_with fail
    rw [← hW1]
    refine Hcode.out.mono ?_
    rintro e' w2 ⟨rfl, hb2⟩
    have hx2 : ∀ o, w2.cell? ⟨W.heap.size, o, none⟩ = (#[.int .i64 m.c, .int .i64 m.d, .int .i64 m.s, .int .i64 m.e, .int .i64 m.l, .slice a t.length c] : Array Value)[o]? := fun o => by rw [(bcell hb2).1 _ _ hz01, hc01]
    have hz2 : W.heap.size < w2.heap.size := by have := hb2.size; omega
    clear hc01 hh01
    go_wp2_with fail
    refine (l23Wafers_any m _ _ t cuts m.c.toNat _ Hf.out.1 Hf.out.2 (hV1.below hb2) (hC1.below hb2) _ rfl).mono ?_
    rintro e' w3 ⟨rfl, hb3⟩
    clear hx2
    go_wp2_with fail
    go_ret2
    exact ⟨rfl, hB01.trans ((hb2.trans (hb3.mono hb2.size)).mono (by omega))⟩
  · have hfin : sysWafAns m t cuts = (0, designC m t cuts) := by unfold sysWafAns; rw [if_pos hp]
    have e1 : (designC m t cuts != 0) = true := by simp [hp]
    rw [hfin]
    have Hp := Lib.hid (And.intro hp hfin); clear hp hfin
    generalize designC m t cuts = pc at *
    go_enter Try.func49, Try.ntmps49
    go_wp2_with fail
    rw [← hW1]
    refine hcode.mono ?_
    rintro e' w2 ⟨rfl, hb2⟩
    clear hc01 hh01
    go_wp2_with fail
    go_ret2
    exact ⟨rfl, hB01.trans (hb2.mono (by omega))⟩
end Go.Proofs.Ytcdgechaehljgaa
