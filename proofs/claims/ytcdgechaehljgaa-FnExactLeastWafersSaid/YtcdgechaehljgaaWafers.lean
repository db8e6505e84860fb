/- What the program and the reference answer on wafers for a number of openers. No conditions. -/
import Derived.Test.YtcdgechaehljgaaMaker
namespace Go.Proofs.Ytcdgechaehljgaa
open Go.RowKit
set_option linter.unusedVariables false

/-- The first number from k on, of n numbers, for which f holds; else -1. -/
def upFrom (f : Nat → Bool) : Nat → Nat → Int
  | 0, _ => -1
  | n + 1, k => if f k = true then k else upFrom f n (k + 1)
theorem upFrom_ok (f : Nat → Bool) : ∀ n k, upFrom f n k = -1 ∨ ((k : Int) ≤ upFrom f n k ∧ upFrom f n k < k + n)
  | 0, _ => .inl rfl
  | n + 1, k => by
    have ih := upFrom_ok f n (k + 1)
    unfold upFrom
    split
    · right; omega
    · rcases ih with h | h
      · exact .inl h
      · right; omega
def enough (c : Nat) (n : Int) (w : Nat) : Bool := decide (n ≤ balTo c w c)
/-- The least number of wafers with enough openers, or -1. -/
def leastW (c d : Nat) (n : Int) : Int := upFrom (enough c n) (c * (d - 1) + 1) 0
theorem upFrom_step {f : Nat → Bool} {n k : Nat} (h : k < n) : upFrom f (n - k) k = if f k = true then (k : Int) else upFrom f (n - (k + 1)) (k + 1) := by
  obtain ⟨m, hm⟩ : ∃ m, n - k = m + 1 := ⟨n - k - 1, by omega⟩
  rw [hm, upFrom, show n - (k + 1) = m from by omega]

theorem mulN {c d : Nat} (hd : 1 ≤ d) : ((c : Int) * ((d : Int) - 1)) = ((c * (d - 1) : Nat) : Int) := by
  rw [Int.natCast_mul, Int.natCast_sub hd]; rfl
theorem mul42 {c d : Nat} (hc : c ≤ 6) (hd : d ≤ 8) : c * (d - 1) ≤ 42 := Nat.mul_le_mul hc (show d - 1 ≤ 7 by omega)

theorem wafersFor_any (c d : Nat) (s e l n : Int) (hc : 1 ≤ c) (hc6 : c ≤ 6) (hd : 1 ≤ d) (hd8 : d ≤ 8) (W : World) :
    Calls Try.prog 59 #[.agg #[.int .i64 c, .int .i64 d, .int .i64 s, .int .i64 e, .int .i64 l], .int .i64 n] W fun e' w' => e' = .returned (.int .i64 (leastW c d n)) ∧ Below W.heap.size W w' := by
  have hN := mulN (c := c) hd
  have h42 := mul42 hc6 hd8
  have hfin : leastW c d n = upFrom (enough c n) (c * (d - 1) + 1 - 0) 0 := rfl
  have Hf := Lib.hid hfin; clear hfin
  generalize c * (d - 1) = N at *
  have HN := Lib.hid hN; clear hN
  have hw1 : wrap64 ((c : Int) * ((d : Int) - 1)) = (N : Int) := by rw [HN.out]; exact IntWalk.wrap64_in _ ⟨by omega, by omega⟩
  go_enter Try.func59, Try.ntmps59
  go_wp2_with fail
  have Hw1 := Lib.hid hw1; clear hw1
  go_loopw [5, 13] (fun _ i wr => ∃ k : Nat, k ≤ N + 1 ∧ i = .int .i64 k ∧ leastW c d n = upFrom (enough c n) (N + 1 - k) k ∧ Below W.heap.size W wr ∧ W.heap.size < wr.heap.size ∧ wr.heap[W.heap.size]? = some (.cells #[.int .i64 c, .int .i64 d, .int .i64 s, .int .i64 e, .int .i64 l] 30 (0, 0))) (fun _ i _ => N + 1 - (intOf i).toNat)
  case atStart => exact ⟨0, Nat.zero_le _, rfl, Hf.out, by go_grown, by simp, heap_alloc_self _ _⟩
  case round =>
    obtain ⟨k, hk, rfl, hrem, hB, hsz, hbox⟩ := hrel
    have Hr := Lib.hid hrem; clear hrem
    have hc0 := cell_of_block hbox 0
    have hc1 := cell_of_block hbox 1
    have hc2 := cell_of_block hbox 2
    have hc3 := cell_of_block hbox 3
    have hc4 := cell_of_block hbox 4
    have Hbox := Lib.hid hbox; clear hbox
    simp at hc0 hc1 hc2 hc3 hc4
    by_cases hkk : k < N + 1
    · by_cases hg : n ≤ balTo c k c
      · have hE : enough c n k = true := by simp [enough, hg]
        have HE := Lib.hid hE; clear hE
        go_wp2_with (go_at_call 110; refine (mostOpeners_any _ _ _ _ _ _ (by omega) (by omega) (by omega) _).mono ?_; rintro e' w' ⟨rfl, hb⟩)
        go_ret
        exact ⟨ret_int (by rw [Hr.out, upFrom_step hkk, if_pos HE.out]), hB.trans (hb.mono hB.size)⟩
      · have hE : enough c n k = false := by simp [enough]; omega
        have HE := Lib.hid hE; clear hE
        go_wp2_with (go_at_call 110; refine (mostOpeners_any _ _ _ _ _ _ (by omega) (by omega) (by omega) _).mono ?_; rintro e' w' ⟨rfl, hb⟩)
        go_roundw
        case rel => exact ⟨k + 1, by omega, by go_num, by rw [Hr.out, upFrom_step hkk, if_neg (by rw [HE.out]; decide)], hB.trans (hb.mono hB.size), by have := hb.size; omega, heap_below Hbox.out hb (by omega)⟩
        case measure => simp [intOf]; omega
    · obtain rfl : k = N + 1 := by omega
      go_wp2_with fail
      go_ret
      exact ⟨ret_int (by rw [Hr.out, Nat.sub_self]; rfl), hB⟩

theorem l20For_any (c d : Nat) (s e l n : Int) (hc : 1 ≤ c) (hc6 : c ≤ 6) (hd : 2 ≤ d) (hd8 : d ≤ 8) (W : World) :
    Calls Try.prog 54 #[.agg #[.int .i64 c, .int .i64 d, .int .i64 s, .int .i64 e, .int .i64 l], .int .i64 n] W fun e' w' => e' = .returned (.int .i64 (leastW c d n)) ∧ Below W.heap.size W w' := by
  have hN := mulN (c := c) (d := d) (by omega)
  have h42 := mul42 hc6 hd8
  have hsame : ∀ w, w ≤ c * (d - 1) → mostR d c w = balTo c w c := fun w hw => most_same c d w hc hc6 hd hd8 hw
  have hfin : leastW c d n = upFrom (enough c n) (c * (d - 1) + 1 - 0) 0 := rfl
  have Hf := Lib.hid hfin; clear hfin
  generalize c * (d - 1) = N at *
  have Hsame := Lib.hid hsame; clear hsame
  have HN := Lib.hid hN; clear hN
  have hw1 : wrap64 ((c : Int) * ((d : Int) - 1)) = (N : Int) := by rw [HN.out]; exact IntWalk.wrap64_in _ ⟨by omega, by omega⟩
  go_enter Try.func54, Try.ntmps54
  go_wp2_with fail
  go_loopw [5] (fun i wr => ∃ k : Nat, k ≤ N + 1 ∧ i = .int .i64 k ∧ leastW c d n = upFrom (enough c n) (N + 1 - k) k ∧ Below W.heap.size W wr ∧ W.heap.size < wr.heap.size ∧ wr.heap[W.heap.size]? = some (.cells #[.int .i64 c, .int .i64 d, .int .i64 s, .int .i64 e, .int .i64 l] 30 (0, 0))) (fun i _ => N + 1 - (intOf i).toNat)
  case atStart => exact ⟨0, Nat.zero_le _, rfl, Hf.out, by go_grown, by simp, heap_alloc_self _ _⟩
  case round =>
    obtain ⟨k, hk, rfl, hrem, hB, hsz, hbox⟩ := hrel
    have Hr := Lib.hid hrem; clear hrem
    have hc0 := cell_of_block hbox 0
    have hc1 := cell_of_block hbox 1
    have hc2 := cell_of_block hbox 2
    have hc3 := cell_of_block hbox 3
    have hc4 := cell_of_block hbox 4
    have Hbox := Lib.hid hbox; clear hbox
    simp at hc0 hc1 hc2 hc3 hc4
    by_cases hkk : k < N + 1
    · have hms := Hsame.out k (by omega)
      have Hms := Lib.hid hms; clear hms
      by_cases hg : n ≤ balTo c k c
      · have hE : enough c n k = true := by simp [enough, hg]
        have HE := Lib.hid hE; clear hE
        go_wp2_with (go_at_call 107; refine (l20Most_any _ _ _ _ _ (by omega) (by omega) _ _ _ (by omega) (by omega)).mono ?_; rintro e' w' ⟨rfl, hb⟩; rw [Hms.out])
        go_ret
        exact ⟨ret_int (by rw [Hr.out, upFrom_step hkk, if_pos HE.out]), hB.trans (hb.mono hB.size)⟩
      · have hE : enough c n k = false := by simp [enough]; omega
        have HE := Lib.hid hE; clear hE
        go_wp2_with (go_at_call 107; refine (l20Most_any _ _ _ _ _ (by omega) (by omega) _ _ _ (by omega) (by omega)).mono ?_; rintro e' w' ⟨rfl, hb⟩; rw [Hms.out])
        go_roundw
        case rel => exact ⟨k + 1, by omega, by go_num, by rw [Hr.out, upFrom_step hkk, if_neg (by rw [HE.out]; decide)], hB.trans (hb.mono hB.size), by have := hb.size; omega, heap_below Hbox.out hb (by omega)⟩
        case measure => simp [intOf]; omega
    · obtain rfl : k = N + 1 := by omega
      go_wp2_with fail
      go_ret
      exact ⟨ret_int (by rw [Hr.out, Nat.sub_self]; rfl), hB⟩

/-- The answer of WafersFor. -/
def wafersAns (c d s e l n : Int) : Int × Int :=
  if isMk c d s e l = false then (0, 1) else if inB n 1 1000000000000 = false then (0, 2) else if leastW c.toNat d.toNat n = -1 then (0, 4) else (leastW c.toNat d.toNat n, 0)
theorem leastW_ok (c d : Nat) (n : Int) : leastW c d n = -1 ∨ 0 ≤ leastW c d n := by
  rcases upFrom_ok (enough c n) (c * (d - 1) + 1) 0 with h | h
  · exact .inl h
  · exact .inr h.1

end Go.Proofs.Ytcdgechaehljgaa
