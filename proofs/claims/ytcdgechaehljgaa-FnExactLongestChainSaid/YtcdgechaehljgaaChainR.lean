/- Chains of rows: sums, rows in common, containment, and the reference's chains. No conditions. -/
import Derived.Test.YtcdgechaehljgaaChain
import Derived.Test.YtcdgechaehljgaaTable
import Derived.Test.YtcdgechaehljgaaFrame
import Derived.Test.YtcdgechaehljgaaCopy
namespace Go.Proofs.Ytcdgechaehljgaa
open Go.RowKit
set_option linter.unusedVariables false
set_option linter.unusedSimpArgs false

theorem sum_any {S : Nat → Prop} (v : Value) (l : List Int) (W : World) (h : V1 S W v l) (hb : Bits l) (hl : l.length ≤ 1048576) :
    Calls Try.prog 91 #[v] W fun e' w' => e' = .returned (.int .i64 (sumTo l l.length)) ∧ W = w' := by
  have hV := h
  obtain ⟨a, c, rfl, hm⟩ := h.form
  have Hb := Lib.hid hb; clear hb
  go_enter Try.func91, Try.ntmps91
  go_wp2_with fail
  go_loop [3, 5, 8] (fun s _ i => ∃ k : Nat, k ≤ l.length ∧ i = .int .i64 (k : Int) ∧ s = .int .i64 (sumTo l k)) (fun _ _ i => l.length - (intOf i).toNat)
  case atStart => exact ⟨0, Nat.zero_le _, rfl, rfl⟩
  case round =>
    obtain ⟨k, hk, rfl, rfl⟩ := hrel
    by_cases hkk : k < l.length
    · obtain ⟨b1, off1, rfl, _, hc1⟩ := hV.cell hkk
      have h1 := sumTo_bits Hb.out k hk
      have h2 := Hb.out k hkk
      have hst : sumTo l (k + 1) = sumTo l k + geti l k := rfl
      have hw : wrap64 (sumTo l k + geti l k) = sumTo l k + geti l k := IntWalk.wrap64_in _ (by omega)
      have Hst := Lib.hid hst; clear hst
      go_wp2_with fail
      go_round
      case rel => exact ⟨k + 1, by omega, by go_num, by rw [Hst.out]⟩
      case measure => simp [intOf]; omega
    · obtain rfl : k = l.length := by omega
      go_wp2_with fail
      go_ret
      exact ⟨rfl, rfl⟩
theorem inCommon_any {S S' : Nat → Prop} (va vb : Value) (a b : List Int) (W : World) (ha : V1 S W va a) (hb : V1 S' W vb b) (hl : a.length = b.length) (hl2 : a.length ≤ 1048576) :
    Calls Try.prog 131 #[va, vb] W fun e' w' => ∃ v' l', e' = .returned v' ∧ F1 W.heap.size w' v' l' ∧ l'.length = comTo a b a.length ∧ Below W.heap.size W w' := by
  have hA := ha
  have hB' := hb
  obtain ⟨pa, ca, rfl, hma⟩ := ha.form
  obtain ⟨pb, cb, rfl, hmb⟩ := hb.form
  obtain ⟨B, hBs⟩ : ∃ B, B = W.heap.size := ⟨_, rfl⟩
  rw [← hBs]
  have hown0 := own_lit0 W B 2 1 (by omega)
  have hBle : W.heap.size ≤ B := by omega
  have hBge : B ≤ W.heap.size := by omega
  have Hl := Lib.hid hl
  clear hBs hl
  go_enter Try.func131, Try.ntmps131
  go_wp2_with fail
  go_loopw [5, 6, 10] (fun ro _ i wr => ∃ (k : Nat) (l' : List Int), k ≤ a.length ∧ i = .int .i64 (k : Int) ∧ l'.length = comTo a b k ∧ wr.ownsRow B 2 1 ro l'.length (l'.map (Value.int .i64)) ∧ Below B W wr) (fun _ _ i _ => a.length - (intOf i).toNat)
  case atStart => exact ⟨0, [], Nat.zero_le _, rfl, rfl, hown0, (Below.refl _ _).alloc (by omega) _⟩
  case round =>
    obtain ⟨k, l', hk, rfl, hlen, hown, hB⟩ := hrel
    have hzr := hB.size
    have hcl := comTo_le a b k
    have Hlen := Lib.hid hlen
    have hl'k : l'.length ≤ k := by omega
    clear hlen
    by_cases hkk : k < a.length
    · have hkb : k < b.length := by rw [← Hl.out]; exact hkk
      obtain ⟨b1, off1, rfl, _, hc1⟩ := (hA.below (hB.mono hBle)).cell hkk
      obtain ⟨b2, off2, rfl, _, hc2⟩ := (hB'.below (hB.mono hBle)).cell hkb
      by_cases h1 : geti a k = 1
      · have e1 : (geti a k == 1) = true := by simp [h1]
        by_cases h2 : geti b k = 1
        · have e2 : (geti b k == 1) = true := by simp [h2]
          have hst : comTo a b (k + 1) = comTo a b k + 1 := by rw [comTo, if_pos ⟨h1, h2⟩]
          have Hst := Lib.hid hst; clear hst h1 h2
          go_wp2_with (at_builtin; refine wp_app1 _ rfl _ _ 43 rfl B 2 (.int .i64 0) 8 Try.underlying43 inf_int rfl _ _ _ rfl hown (.int .i64 k) _ rfl rfl (by omega) (by omega) (by omega) ?_; intro v1 w1 hown1 hgrow1 hblk1 hB1)
          go_roundw
          case rel => exact ⟨k + 1, l' ++ [(k : Int)], by omega, by go_num, by rw [Hst.out, List.length_append, Hlen.out]; rfl, by rw [List.map_append, List.length_append]; exact hown1, hB.trans hB1⟩
          case measure => simp [intOf]; omega
        · have e2 : (geti b k == 1) = false := by simp [h2]
          have hst : comTo a b (k + 1) = comTo a b k := by rw [comTo, if_neg (fun h => h2 h.2)]
          have Hst := Lib.hid hst; clear hst h1 h2
          go_wp2_with fail
          go_roundw
          case rel => exact ⟨k + 1, l', by omega, by go_num, by rw [Hst.out, Hlen.out], hown, hB⟩
          case measure => simp [intOf]; omega
      · have e1 : (geti a k == 1) = false := by simp [h1]
        have hst : comTo a b (k + 1) = comTo a b k := by rw [comTo, if_neg (fun h => h1 h.1)]
        have Hst := Lib.hid hst; clear hst h1
        go_wp2_with fail
        go_roundw
        case rel => exact ⟨k + 1, l', by omega, by go_num, by rw [Hst.out, Hlen.out], hown, hB⟩
        case measure => simp [intOf]; omega
    · obtain rfl : k = a.length := by omega
      go_wp2_with fail
      go_ret
      exact ⟨_, l', rfl, own_F1 hown, Hlen.out, hB⟩
theorem isContained_any {S S' : Nat → Prop} (va vb : Value) (a b : List Int) (W : World) (ha : V1 S W va a) (hb : V1 S' W vb b) (hl : a.length = b.length) (hl2 : a.length ≤ 1048576) (ka : Bits a) (kb : Bits b) :
    Calls Try.prog 92 #[va, vb] W fun e' w' => e' = .returned (.bool (inR a b)) ∧ Below W.heap.size W w' := by
  have hA := ha
  have hfin : ((comTo a b a.length : Int) == sumTo a a.length) = inR a b := by
    have := (com_sum ka kb hl a.length (Nat.le_refl _)).2
    unfold inR
    cases hh : inTo a b a.length
    · rw [hh] at this; simp at this; simp [this]
    · rw [hh] at this; simp at this; simp [this]
  obtain ⟨r, hr⟩ : ∃ r, inR a b = r := ⟨_, rfl⟩
  rw [hr] at hfin ⊢
  have Hfin := Lib.hid hfin; clear hfin hr
  go_enter Try.func92, Try.ntmps92
  go_wp2_with fail
  refine (inCommon_any _ _ a b W ha hb hl hl2).mono ?_
  rintro e' w1 ⟨v1, l1, rfl, hF, hlen, hB⟩
  obtain ⟨a1, c1, rfl, _⟩ := hF.v1.form
  rw [hlen]
  generalize comTo a b a.length = cm at *
  clear hlen
  go_wp2_with fail
  refine (sum_any _ a _ (hA.below hB) ka hl2).mono ?_
  rintro e' w2 ⟨rfl, rfl⟩
  generalize sumTo a a.length = sm at *
  go_wp2_with fail
  go_ret
  exact ⟨ret_bool Hfin.out, hB⟩
theorem isContained_b {S S' : Nat → Prop} (va vb : Value) (a b : List Int) (W : World) (r : Bool) (hr : inR a b = r) (ha : V1 S W va a) (hb : V1 S' W vb b) (hl : a.length = b.length) (hl2 : a.length ≤ 1048576) (ka : Bits a) (kb : Bits b) :
    Calls Try.prog 92 #[va, vb] W fun e' w' => e' = .returned (.bool r) ∧ Below W.heap.size W w' := by subst hr; exact isContained_any va vb a b W ha hb hl hl2 ka kb
end Go.Proofs.Ytcdgechaehljgaa
