/- Worn keys: locks and keys that fit, and what a worn key may open, as the program tells it. No conditions. -/
import Derived.Test.YtbckginfipeibaaWearR
namespace Go.Proofs.Ytbckginfipeibaa
open Go.RowKit
set_option linter.unusedVariables false
set_option linter.unusedSimpArgs false

theorem riseTo_set {s : List Int} {n : Int} (h1 : s.Pairwise (· < ·)) (h2 : ∀ x ∈ s, 0 ≤ x ∧ x < n) : ∀ k, k ≤ s.length → riseTo s n k = true
  | 0, _ => rfl
  | k + 1, h => by
    have ih := riseTo_set h1 h2 k (by omega)
    have hx := h2 _ (geti_mem (show k < s.length from h))
    unfold riseTo
    rw [ih, decide_eq_true hx.1, decide_eq_true hx.2]
    by_cases e : k = 0
    · simp [e]
    · have : geti s (k - 1) < geti s k := by
        rw [geti_eq (by omega), geti_eq (by omega)]
        exact List.pairwise_iff_getElem.1 h1 (k - 1) k (by omega) (by omega) (by omega)
      simp [this]
/-- A lock that fits a maker. -/
structure LockOk (m : Mk) (l : List (List Int)) : Prop where
  len : (l.length : Int) = m.c
  ne : ∀ i, i < l.length → (getl l i).length ≠ 0
  rise : ∀ i, i < l.length → riseB (getl l i) m.d = true
set_option maxRecDepth 100000 in
theorem isLock_ok {S : Nat → Prop} (m : Mk) (u : Value) (l : List (List Int)) (W : World) (h : V2 S W u l) (hl : LockOk m l) :
    Calls Try.prog 163 #[.agg #[.int .i64 m.c, .int .i64 m.d, .int .i64 m.s, .int .i64 m.e, .int .i64 m.l], .agg #[u]] W fun e w' => e = .returned (.bool true) ∧ Below W.heap.size W w' := by
  obtain ⟨a, c, rfl, hmx⟩ := h.form
  obtain ⟨WA, hWA, hBA, hzA, HZA, hcA, hhA⟩ := box_facts W #[.int .i64 m.c, .int .i64 m.d, .int .i64 m.s, .int .i64 m.e, .int .i64 m.l] 32
  obtain ⟨W1, hW1, hB1, hz1', HZ1, hc1, hh1⟩ := box_facts WA #[.slice a l.length c] 79
  have hB01 : Below W.heap.size W W1 := hBA.trans (hB1.mono (by omega))
  have hcm : ∀ o, W1.cell? ⟨W.heap.size, o, none⟩ = (#[.int .i64 m.c, .int .i64 m.d, .int .i64 m.s, .int .i64 m.e, .int .i64 m.l] : Array Value)[o]? := fun o => by rw [(bcell hB1).1 _ _ hzA, hcA]
  rw [HZA.out] at hc1
  have hcl : W1.cell? ⟨W.heap.size + 1, 0, none⟩ = some (.slice a l.length c) := by rw [hc1]; rfl
  have h1 := h.below hB01
  have hlc : ((l.length : Int) == m.c) = true := by simp [hl.len]
  have Hl := Lib.hid hl; clear hl hhA hh1 hc1 hcA
  go_enter Try.func163, Try.ntmps163
  go_wp2_with fail
  rw [← hWA, ← hW1]
  have HW := Lib.hid (And.intro hWA hW1); clear hWA hW1
  go_wp2_with fail
  go_loop [6, 10] (fun _ i => ∃ k : Nat, k ≤ l.length ∧ i = .int .i64 (k : Int)) (fun _ i => (l.length - (intOf i).toNat))
  case atStart => exact ⟨0, Nat.zero_le _, rfl⟩
  case round =>
    obtain ⟨k, hk, rfl⟩ := hrel
    by_cases hkk : k < l.length
    · obtain ⟨b2, off2, a2, c2, rfl, _, hc2, hr2⟩ := h1.cell hkk
      have hne := Hl.out.ne k hkk
      have hne2 : (((getl l k).length : Int) == 0) = false := by simp; intro e; exact hne (by rw [e]; rfl)
      have hri := IsRising_any _ (getl l k) m.d W1 hr2
      rw [Hl.out.rise k hkk] at hri
      have Hri := Lib.hid hri; clear hri
      go_wp2_with (go_at_call 91; refine Hri.out.mono ?_; rintro e' w' ⟨rfl, rfl⟩)
      go_round
      case rel => exact ⟨k + 1, by omega, by go_num⟩
      case measure => simp [intOf]; omega
    · obtain rfl : k = l.length := by omega
      go_wp2_with fail
      go_ret
      exact ⟨rfl, hB01⟩
end Go.Proofs.Ytbckginfipeibaa

namespace Go.Proofs.Ytbckginfipeibaa
open Go.RowKit
set_option linter.unusedVariables false
set_option linter.unusedSimpArgs false

set_option maxRecDepth 100000 in
theorem locksCode_ok {S : Nat → Prop} (m : Mk) (hm : m.ok = true) (v : Value) (ls : List (List (List Int))) (W : World) (h : V3 S W v ls) (hl : ∀ k, k < ls.length → LockOk m (getll ls k)) :
    Calls Try.prog 128 #[.agg #[.int .i64 m.c, .int .i64 m.d, .int .i64 m.s, .int .i64 m.e, .int .i64 m.l], v] W fun e w' => e = .returned (.int .i64 0) ∧ Below W.heap.size W w' := by
  obtain ⟨a, c, rfl, hmx⟩ := h.form
  obtain ⟨W1, hW1, hB1, hz1, HZ1, hc1, hh1⟩ := box_facts W #[.int .i64 m.c, .int .i64 m.d, .int .i64 m.s, .int .i64 m.e, .int .i64 m.l] 32
  have h1 := h.below hB1
  have hmk := isMaker_any m.c m.d m.s m.e m.l W1
  rw [show isMk m.c m.d m.s m.e m.l = true from hm] at hmk
  have Hl := Lib.hid (And.intro hl hmk); clear hl hmk hm hh1
  go_enter Try.func128, Try.ntmps128
  go_wp2_with fail
  rw [← hW1]
  refine Hl.out.2.mono ?_
  rintro e' w2 ⟨rfl, hb2⟩
  have hz2 := hb2.size
  have Hc1 := Lib.hid hc1; clear hc1
  go_wp2_with fail
  go_loopw [6, 12] (fun _ i wr => ∃ k : Nat, k ≤ ls.length ∧ i = .int .i64 (k : Int) ∧ Below W1.heap.size W1 wr) (fun _ i _ => (ls.length - (intOf i).toNat))
  case atStart => exact ⟨0, Nat.zero_le _, rfl, hb2⟩
  case round =>
    obtain ⟨k, hk, rfl, hB⟩ := hrel
    have hzr := hB.size
    by_cases hkk : k < ls.length
    · obtain ⟨b2, off2, a2, c2, rfl, _, hc2, hr2⟩ := (h1.below hB).cell hkk
      have hxr : ∀ o o1, (wr.alloc o1).cell? ⟨W.heap.size, o, none⟩ = (#[.int .i64 m.c, .int .i64 m.d, .int .i64 m.s, .int .i64 m.e, .int .i64 m.l] : Array Value)[o]? := fun o o1 => by
        rw [(bcell ((Below.refl wr.heap.size wr).alloc (Nat.le_refl _) o1)).1 _ _ (by omega), (bcell hB).1 _ _ hz1, Hc1.out]
      have hb5 : Below wr.heap.size wr (wr.alloc (.cells #[.slice a2 (getll ls k).length c2] 79)) := (Below.refl _ _).alloc (Nat.le_refl _) _
      have hlk := isLock_ok m _ (getll ls k) _ (hr2.below hb5) (Hl.out.1 k hkk)
      have Hlk := Lib.hid hlk; clear hlk
      go_wp2_with fail
      refine Hlk.out.mono ?_
      rintro e' w5 ⟨rfl, hb6⟩
      have hb56 := hB.trans ((hb5.trans (hb6.mono hb5.size)).mono hzr)
      clear hxr
      go_wp2_with fail
      go_roundw
      case rel => exact ⟨k + 1, by omega, by go_num, hb56⟩
      case measure => simp [intOf]; omega
    · obtain rfl : k = ls.length := by omega
      go_wp2_with fail
      go_ret
      exact ⟨rfl, hB1.trans (hB.mono (by omega))⟩
/-- A row of one key. -/
theorem V2.one {S : Nat → Prop} {w : World} {b : Nat} {v : Value} {T : TypeId} {l : List Int} (h : w.heap[b]? = some (.cells #[v] T (0, 0))) (hv : V1 S w v l) (hb : S b) : V2 S w (.slice (some ⟨b, 0, none⟩) 1 1) [l] :=
  ⟨some ⟨b, 0, none⟩, 1, rfl, Nat.le_refl _, by unfold maxLen; omega, fun k hk => by
    obtain rfl : k = 0 := by simp at hk; exact hk
    exact ⟨b, 0, v, rfl, hb, cell_of_block h 0, hv⟩⟩
theorem V3.one {S : Nat → Prop} {w : World} {b : Nat} {v : Value} {T : TypeId} {l : List (List Int)} (h : w.heap[b]? = some (.cells #[v] T (0, 0))) (hv : V2 S w v l) (hb : S b) : V3 S w (.slice (some ⟨b, 0, none⟩) 1 1) [l] :=
  ⟨some ⟨b, 0, none⟩, 1, rfl, Nat.le_refl _, by unfold maxLen; omega, fun k hk => by
    obtain rfl : k = 0 := by simp at hk; exact hk
    exact ⟨b, 0, v, rfl, hb, cell_of_block h 0, hv⟩⟩
set_option maxRecDepth 100000 in
theorem keysCode_any {S : Nat → Prop} (m : Mk) (hm : m.ok = true) (v : Value) (key : List Int) (W : World) (h : V2 S W v [key]) :
    Calls Try.prog 129 #[.agg #[.int .i64 m.c, .int .i64 m.d, .int .i64 m.s, .int .i64 m.e, .int .i64 m.l], v] W fun e w' => e = .returned (.int .i64 (if isKeyB m key = true then 0 else 2)) ∧ Below W.heap.size W w' := by
  obtain ⟨a, c, rfl, hmx⟩ := h.form
  obtain ⟨W1, hW1, hB1, hz1, HZ1, hc1, hh1⟩ := box_facts W #[.int .i64 m.c, .int .i64 m.d, .int .i64 m.s, .int .i64 m.e, .int .i64 m.l] 32
  have h1 := h.below hB1
  have hmk := isMaker_any m.c m.d m.s m.e m.l W1
  rw [show isMk m.c m.d m.s m.e m.l = true from hm] at hmk
  obtain ⟨r, hr⟩ : ∃ r, isKeyB m key = r := ⟨_, rfl⟩
  rw [hr]
  have Hl := Lib.hid (And.intro hr (And.intro hmk hm)); clear hr hmk hm hh1
  go_enter Try.func129, Try.ntmps129
  go_wp2_with fail
  rw [← hW1]
  refine Hl.out.2.1.mono ?_
  rintro e' w2 ⟨rfl, hb2⟩
  have hz2 := hb2.size
  have Hc1 := Lib.hid hc1; clear hc1
  go_wp2_with fail
  go_loopw [6, 12] (fun _ i wr => ∃ k : Nat, k ≤ 1 ∧ (k = 1 → r = true) ∧ i = .int .i64 (k : Int) ∧ Below W1.heap.size W1 wr) (fun _ i _ => (1 - (intOf i).toNat))
  case atStart => exact ⟨0, Nat.zero_le _, fun h => by omega, rfl, hb2⟩
  case round =>
    obtain ⟨k, hk, hkr, rfl, hB⟩ := hrel
    have hzr := hB.size
    by_cases hkk : k = 0
    · subst hkk
      obtain ⟨b2, off2, a2, c2, rfl, _, hc2, hr2⟩ := (h1.below hB).cell (k := 0) (by simp)
      have hr2' : V1 S wr (.slice a2 key.length c2) key := hr2
      have hc2' : wr.cell? ⟨b2, off2, none⟩ = some (.slice a2 key.length c2) := hc2
      have hxr : ∀ o, wr.cell? ⟨W.heap.size, o, none⟩ = (#[.int .i64 m.c, .int .i64 m.d, .int .i64 m.s, .int .i64 m.e, .int .i64 m.l] : Array Value)[o]? := fun o => by rw [(bcell hB).1 _ _ hz1, Hc1.out]
      have hlk := isKey_b m _ key wr r Hl.out.1 Hl.out.2.2 hr2'
      have Hlk := Lib.hid hlk; clear hlk hc2 hr2 hkr
      cases r
      · go_wp2_with fail
        refine Hlk.out.mono ?_
        rintro e' w5 ⟨rfl, hb6⟩
        clear hxr
        go_wp2_with fail
        go_ret
        exact ⟨rfl, hB1.trans ((hB.trans (hb6.mono hzr)).mono (by omega))⟩
      · go_wp2_with fail
        refine Hlk.out.mono ?_
        rintro e' w5 ⟨rfl, hb6⟩
        clear hxr
        go_wp2_with fail
        go_roundw
        case rel => exact ⟨1, Nat.le_refl _, by simp, by go_num, hB.trans (hb6.mono hzr)⟩
        case measure => simp [intOf]
    · obtain rfl : k = 1 := by omega
      have hrt := hkr rfl
      subst hrt
      go_wp2_with fail
      go_ret
      exact ⟨rfl, hB1.trans (hB.mono (by omega))⟩
set_option maxRecDepth 100000 in
set_option maxHeartbeats 2000000 in
theorem wearCode_any {S S' : Nat → Prop} (m : Mk) (hm : m.ok = true) (lv v : Value) (ls : List (List (List Int))) (key : List Int) (wear tol : Int) (W : World) (hl : V3 S W lv ls) (hlk : ∀ k, k < ls.length → LockOk m (getll ls k)) (h : V2 S' W v [key]) :
    Calls Try.prog 76 #[.agg #[.int .i64 m.c, .int .i64 m.d, .int .i64 m.s, .int .i64 m.e, .int .i64 m.l], lv, v, .int .i64 wear, .int .i64 tol] W fun e w' => e = .returned (.int .i64 (if (inB wear 0 19 && inB tol 0 4 && isKeyB m key) = true then 0 else 2)) ∧ Below W.heap.size W w' := by
  obtain ⟨a, c, rfl, hmx⟩ := h.form
  obtain ⟨la, lc, rfl, hlx⟩ := hl.form
  obtain ⟨W1, hW1, hB1, hz1, HZ1, hc1, hh1⟩ := box_facts W #[.int .i64 m.c, .int .i64 m.d, .int .i64 m.s, .int .i64 m.e, .int .i64 m.l] 32
  have h1 := h.below hB1
  have hcl := locksCode_ok m hm _ ls W1 (hl.below hB1) hlk
  have hks := fun w (hb : Below W1.heap.size W1 w) => keysCode_any m hm _ key w (h1.below hb)
  obtain ⟨x, hx⟩ : ∃ x, inB wear 0 19 = x := ⟨_, rfl⟩
  obtain ⟨y, hy⟩ : ∃ y, inB tol 0 4 = y := ⟨_, rfl⟩
  obtain ⟨z, hz⟩ : ∃ z, isKeyB m key = z := ⟨_, rfl⟩
  simp only [hz] at hks
  rw [hx, hy, hz]
  have Hl := Lib.hid (And.intro hcl (And.intro hks (And.intro hx (And.intro hy hz)))); clear hcl hks hx hy hz hh1
  cases x <;> cases y <;> cases z <;> (
    go_enter Try.func76, Try.ntmps76
    go_wp2_with fail
    rw [← hW1]
    refine Hl.out.1.mono ?_
    rintro e' w2 ⟨rfl, hb2⟩
    have hz2 := hb2.size
    have hx2 : ∀ o, w2.cell? ⟨W.heap.size, o, none⟩ = (#[.int .i64 m.c, .int .i64 m.d, .int .i64 m.s, .int .i64 m.e, .int .i64 m.l] : Array Value)[o]? := fun o => by rw [(bcell hb2).1 _ _ hz1, hc1]
    clear hc1
    go_wp2_with (first | (go_at_call 67; refine (within_any _ _ _ _).mono ?_; rintro e' w' ⟨rfl, rfl⟩; first | rw [Hl.out.2.2.1] | rw [Hl.out.2.2.2.1]) | (go_at_call 129; refine (Hl.out.2.1 _ hb2).mono ?_; rintro e' w' ⟨rfl, hb5⟩))
    go_ret
    first
      | exact ⟨rfl, hB1.trans (hb2.mono (by omega))⟩
      | exact ⟨rfl, hB1.trans ((hb2.trans (hb5.mono hz2)).mono (by omega))⟩)
end Go.Proofs.Ytbckginfipeibaa
