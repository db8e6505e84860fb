/- What the program and the reference answer on ranges and makers. No conditions. -/
import Derived.Test.YtcdgechaehljgaaMath1
import Derived.Test.YtcdgechaehljgaaChecked
import Derived.Deep.QuietTactic
import Derived.BigQuiet
namespace Go.Proofs.Ytcdgechaehljgaa
open Go.RowKit
set_option linter.unusedVariables false
set_option linter.unusedSimpArgs false

theorem within_any (n lo hi : Int) (w : World) :
    Calls Try.prog 118 #[.int .i64 n, .int .i64 lo, .int .i64 hi] w fun e w' => e = .returned (.bool (inB n lo hi)) ∧ w = w' := by
  go_enter Try.func118, Try.ntmps118
  go_wp2
  all_goals go_ret
  all_goals refine ⟨?_, rfl⟩
  all_goals simp [inB]
  all_goals omega

theorem l01In_any (n lo hi : Int) (w : World) :
    Calls Try.prog 116 #[.int .i64 n, .int .i64 lo, .int .i64 hi] w fun e w' => e = .returned (.bool (inB n lo hi)) ∧ w = w' := by
  go_enter Try.func116, Try.ntmps116
  go_wp2
  all_goals go_ret
  all_goals refine ⟨?_, rfl⟩
  all_goals simp [inB]
  all_goals omega

theorem within_b (n lo hi : Int) (w : World) (r : Bool) (hr : inB n lo hi = r) :
    Calls Try.prog 118 #[.int .i64 n, .int .i64 lo, .int .i64 hi] w fun e w' => e = .returned (.bool r) ∧ w = w' := by subst hr; exact within_any _ _ _ _
theorem l01In_b (n lo hi : Int) (w : World) (r : Bool) (hr : inB n lo hi = r) :
    Calls Try.prog 116 #[.int .i64 n, .int .i64 lo, .int .i64 hi] w fun e w' => e = .returned (.bool r) ∧ w = w' := by subst hr; exact l01In_any _ _ _ _

theorem isMaker_any (c d s e l : Int) (w : World) :
    Calls Try.prog 109 #[.agg #[.int .i64 c, .int .i64 d, .int .i64 s, .int .i64 e, .int .i64 l]] w fun e' w' => e' = .returned (.bool (isMk c d s e l)) ∧ Below w.heap.size w w' := by
  have hw : inB d 2 8 = true → wrap64 (d - 1) = d - 1 := fun h => by rw [inB_iff] at h; exact IntWalk.wrap64_in _ ⟨by omega, by omega⟩
  have HW := Lib.hid hw; clear hw
  go_enter Try.func109, Try.ntmps109
  go_wp2_with (go_at_call 118; refine (within_any _ _ _ _).mono ?_; rintro e w' ⟨rfl, rfl⟩)
  all_goals go_ret
  all_goals refine ⟨?_, by go_grown⟩
  all_goals simp_all [isMk, Int.min_def, HW.out]
  rw [if_neg (by omega)]

theorem isMakerR_any (c d s e l : Int) (w : World) :
    Calls Try.prog 106 #[.agg #[.int .i64 c, .int .i64 d, .int .i64 s, .int .i64 e, .int .i64 l]] w fun e' w' => e' = .returned (.bool (isMk c d s e l)) ∧ Below w.heap.size w w' := by
  have hw : inB d 2 8 = true → wrap64 (d - 1) = d - 1 := fun h => by rw [inB_iff] at h; exact IntWalk.wrap64_in _ ⟨by omega, by omega⟩
  have HW := Lib.hid hw; clear hw
  go_enter Try.func106, Try.ntmps106
  go_wp2_with (go_at_call 116; refine (l01In_any _ _ _ _).mono ?_; rintro e w' ⟨rfl, rfl⟩)
  all_goals go_ret
  all_goals refine ⟨?_, by go_grown⟩
  all_goals simp_all [isMk, Int.min_def, HW.out]
  rw [if_neg (by omega)]

theorem toMaker_any (c d s e l : Int) (w : World) :
    Calls Try.prog 56 #[.agg #[.int .i64 c, .int .i64 d, .int .i64 s, .int .i64 e, .int .i64 l]] w fun e' w' => e' = .returned (.agg #[.int .i64 c, .int .i64 d, .int .i64 s, .int .i64 e, .int .i64 l]) ∧ Below w.heap.size w w' := by
  go_enter Try.func56, Try.ntmps56
  go_wp2
  exact bodyPost_ret (v := .agg #[.int .i64 c, .int .i64 d, .int .i64 s, .int .i64 e, .int .i64 l]) (by simp [results, Try.results56, go_sem]) rfl ⟨rfl, by go_grown⟩

/-- Go's own loop of the program's openers. -/
theorem bal_succ (c w k : Nat) : (List.range (k + 1)).foldl (fun p i => p * (if i < w % c then 1 + w / c + 1 else 1 + w / c)) 1 = (List.range k).foldl (fun p i => p * (if i < w % c then 1 + w / c + 1 else 1 + w / c)) 1 * (if k < w % c then 1 + w / c + 1 else 1 + w / c) := by
  rw [List.range_succ, List.foldl_append]; rfl
def balTo (c w k : Nat) : Nat := (List.range k).foldl (fun p i => p * (if i < w % c then 1 + w / c + 1 else 1 + w / c)) 1
theorem balTo_succ (c w k : Nat) : balTo c w (k + 1) = balTo c w k * (if k < w % c then 1 + w / c + 1 else 1 + w / c) := bal_succ c w k
theorem balTo_bound : ∀ c, c < 7 → ∀ w, w < 43 → ∀ k, k < c + 1 → balTo c w k ≤ 1000000000 := by decide +kernel
theorem rest_bound : ∀ c, c < 7 → ∀ w, w < 43 → 1 + w / c + 1 ≤ 44 := by decide +kernel

theorem div_cast (w c : Nat) : ((w : Int) / (c : Int)) = ((w / c : Nat) : Int) := (Int.natCast_ediv w c).symm
theorem bal_wrap1 {c w k : Nat} (hs : balTo c w (k + 1) = balTo c w k * (1 + w / c + 1)) (h1 : balTo c w (k + 1) ≤ 1000000000) (h2 : 1 + w / c + 1 ≤ 44) :
    wrap64 ((balTo c w k : Int) * wrap64 (wrap64 (1 + wrap64 ((w : Int) / (c : Int))) + 1)) = (balTo c w (k + 1) : Int) := by
  rw [div_cast]
  generalize w / c = q at *
  rw [IntWalk.wrap64_in (q : Int) ⟨by omega, by omega⟩, IntWalk.wrap64_in (1 + (q : Int)) ⟨by omega, by omega⟩, IntWalk.wrap64_in (1 + (q : Int) + 1) ⟨by omega, by omega⟩]
  have : (balTo c w k : Int) * (1 + (q : Int) + 1) = (balTo c w (k + 1) : Int) := by rw [hs]; simp
  rw [this, IntWalk.wrap64_in _ ⟨by omega, by omega⟩]
theorem bal_wrap0 {c w k : Nat} (hs : balTo c w (k + 1) = balTo c w k * (1 + w / c)) (h1 : balTo c w (k + 1) ≤ 1000000000) (h2 : 1 + w / c + 1 ≤ 44) :
    wrap64 ((balTo c w k : Int) * wrap64 (1 + wrap64 ((w : Int) / (c : Int)))) = (balTo c w (k + 1) : Int) := by
  rw [div_cast]
  generalize w / c = q at *
  rw [IntWalk.wrap64_in (q : Int) ⟨by omega, by omega⟩, IntWalk.wrap64_in (1 + (q : Int)) ⟨by omega, by omega⟩]
  have : (balTo c w k : Int) * (1 + (q : Int)) = (balTo c w (k + 1) : Int) := by rw [hs]; simp
  rw [this, IntWalk.wrap64_in _ ⟨by omega, by omega⟩]

theorem mostOpeners_any (c w : Nat) (d s e l : Int) (hc : 1 ≤ c) (hc6 : c ≤ 6) (hw : w ≤ 42) (W : World) :
    Calls Try.prog 110 #[.agg #[.int .i64 c, .int .i64 d, .int .i64 s, .int .i64 e, .int .i64 l], .int .i64 w] W fun e' w' => e' = .returned (.int .i64 (balTo c w c)) ∧ Below W.heap.size W w' := by
  go_enter Try.func110, Try.ntmps110
  go_wp2
  go_loop [5, 10] (fun p i => ∃ k : Nat, k ≤ c ∧ i = .int .i64 k ∧ p = .int .i64 (balTo c w k)) (fun _ i => c - (intOf i).toNat)
  case atStart => exact ⟨0, Nat.zero_le _, rfl, rfl⟩
  case round =>
    obtain ⟨k, hk, rfl, rfl⟩ := hrel
    have hb := balTo_bound c (by omega) w (by omega) k (by omega)
    by_cases hlt : k < c
    · have hb1 := balTo_bound c (by omega) w (by omega) (k + 1) (by omega)
      have hb2 := rest_bound c (by omega) w (by omega)
      have hs := balTo_succ c w k
      by_cases hr : k < w % c
      · rw [if_pos hr] at hs
        have Hs := Lib.hid hs; clear hs
        go_wp2
        all_goals first | (rename_i h; exfalso; omega) | skip
        go_round
        case rel => exact ⟨k + 1, by omega, by go_num, by rw [bal_wrap1 Hs.out hb1 hb2]⟩
        case measure => simp [intOf]; omega
      · rw [if_neg hr] at hs
        have Hs := Lib.hid hs; clear hs
        go_wp2
        all_goals first | (rename_i h; exfalso; omega) | skip
        go_round
        case rel => exact ⟨k + 1, by omega, by go_num, by rw [bal_wrap0 Hs.out hb1 hb2]⟩
        case measure => simp [intOf]; omega
    · obtain rfl : k = c := by omega
      go_wp2
      go_ret
      exact ⟨rfl, by go_grown⟩

theorem most_wrap {d c w k : Nat} (hr : mostR d c (w - k) ≤ 300000) (hk : k < 8) :
    wrap64 (((k : Int) + 1) * (mostR d c (w - k) : Int)) = (((k + 1) * mostR d c (w - k) : Nat) : Int) := by
  have h2 : (k + 1) * mostR d c (w - k) ≤ 8 * 300000 := Nat.mul_le_mul (by omega) hr
  rw [IntWalk.wrap64_in]
  · push_cast; rfl
  · have : (((k : Int) + 1) * (mostR d c (w - k) : Int)) = (((k + 1) * mostR d c (w - k) : Nat) : Int) := by push_cast; rfl
    rw [this]; constructor <;> omega

theorem l20Most_any (d : Nat) (c0 s e l : Int) (hd2 : 2 ≤ d) (hd : d < 9) : ∀ (c : Nat) (w : Nat) (W : World), c < 7 → w < 43 →
    Calls Try.prog 107 #[.agg #[.int .i64 c0, .int .i64 d, .int .i64 s, .int .i64 e, .int .i64 l], .int .i64 c, .int .i64 w] W fun e' w' => e' = .returned (.int .i64 (mostR d c w)) ∧ Below W.heap.size W w' := by
  intro c
  induction c with
  | zero =>
    intro w W _ hw
    by_cases h0 : w = 0
    · subst h0
      go_enter Try.func107, Try.ntmps107
      go_wp2_with fail
      go_ret
      exact ⟨rfl, by go_grown⟩
    · have hz : mostR d 0 w = 0 := by simp [mostR, h0]
      have Hz := Lib.hid hz; clear hz
      have hp : 0 < w := by omega
      go_enter Try.func107, Try.ntmps107
      go_wp2_with fail
      go_ret
      exact ⟨by rw [Hz.out]; rfl, by go_grown⟩
  | succ c ih =>
    intro w W hc hw
    have hfin := mostR_succ d c w
    have Hf := Lib.hid hfin; clear hfin
    have IH := Lib.hid ih; clear ih
    go_enter Try.func107, Try.ntmps107
    go_wp2_with fail
    go_loopw [7, 8] (fun m i wr => ∃ k : Nat, k ≤ d ∧ k ≤ w + 1 ∧ i = .int .i64 k ∧ m = .int .i64 (mostTo d c w k) ∧ Below W.heap.size W wr ∧ W.heap.size < wr.heap.size ∧ wr.heap[W.heap.size]? = some (.cells #[.int .i64 c0, .int .i64 d, .int .i64 s, .int .i64 e, .int .i64 l] 30 (0, 0))) (fun _ i _ => d - (intOf i).toNat)
    case atStart => exact ⟨0, Nat.zero_le _, Nat.zero_le _, rfl, rfl, by go_grown, by simp, heap_alloc_self _ _⟩
    case round =>
      obtain ⟨k, hk, hkw, rfl, rfl, hB, hsz, hbox⟩ := hrel
      have hc0 := cell_of_block hbox 0
      have hc1 := cell_of_block hbox 1
      have hc2 := cell_of_block hbox 2
      have hc3 := cell_of_block hbox 3
      have hc4 := cell_of_block hbox 4
      have Hbox := Lib.hid hbox; clear hbox
      simp at hc0 hc1 hc2 hc3 hc4
      by_cases hlt : k < d ∧ k ≤ w
      · obtain ⟨h1, h2⟩ := hlt
        go_wp2_with fail
        rw [show ((w : Int) - (k : Int)) = ((w - k : Nat) : Int) from by omega]
        have hrb := mostR_bound d c (w - k) hd hd2 (by omega) (by omega)
        refine (IH.out _ _ (by omega) (by omega)).mono ?_
        rintro e w' ⟨rfl, hb⟩
        have hwr := most_wrap hrb (show k < 8 by omega)
        have Hwr := Lib.hid hwr; clear hwr
        go_wp2_with fail
        all_goals
          go_roundw
          case rel => exact ⟨k + 1, by omega, by omega, by go_num, by have hx := Hwr.out; rw [mostTo_succ]; generalize (k + 1) * mostR d c (w - k) = M at *; generalize wrap64 (((k : Int) + 1) * (mostR d c (w - k) : Int)) = X at *; omega, hB.trans (hb.mono (by omega)), by have := hb.size; omega, heap_below Hbox.out hb (by omega)⟩
          case measure => simp [intOf]; omega
      · have hkk : k = min d (w + 1) := by omega
        have Hkk := Lib.hid hkk; clear hkk
        by_cases h1 : k < d
        · have h2 : w < k := by omega
          clear hlt
          go_wp2_with fail
          go_ret
          exact ⟨ret_int (by rw [Hf.out, ← Hkk.out]), hB⟩
        · have h2 : d ≤ k := by omega
          clear hlt
          go_wp2_with fail
          go_ret
          exact ⟨ret_int (by rw [Hf.out, ← Hkk.out]), hB⟩

def minW (c d : Int) (w : Int) : Bool := inB w 0 (c * (d - 1))

theorem bal_toC (c w : Nat) : balTo c w c = bal c w := rfl
theorem most_same (c d w : Nat) (hc : 1 ≤ c) (hc6 : c ≤ 6) (hd : 2 ≤ d) (hd8 : d ≤ 8) (hw : w ≤ c * (d - 1)) : mostR d c w = balTo c w c := by
  have h42 : c * (d - 1) ≤ 6 * 7 := Nat.mul_le_mul hc6 (by omega)
  rw [mostR_eq d (by omega) hd c (by omega) w (by omega), bal_toC, balR, if_pos hw]
theorem mul_wrap {c d : Int} (hc : 2 ≤ c ∧ c ≤ 6) (hd : 2 ≤ d ∧ d ≤ 8) : wrap64 (c * (d - 1)) = c * (d - 1) := by
  have h1 : 0 ≤ c * (d - 1) := Int.mul_nonneg (by omega) (by omega)
  have h2 : c * (d - 1) ≤ 6 * 7 := Int.mul_le_mul (by omega) (by omega) (by omega) (by omega)
  exact IntWalk.wrap64_in _ ⟨by omega, by omega⟩

/-- The answer of MostOpeners. -/
def mostAns (c d s e l w : Int) : Int × Int :=
  if isMk c d s e l = false then (0, 1) else if inB w 0 (c * (d - 1)) = false then (0, 2) else ((balTo c.toNat w.toNat c.toNat : Nat), 0)

end Go.Proofs.Ytcdgechaehljgaa
