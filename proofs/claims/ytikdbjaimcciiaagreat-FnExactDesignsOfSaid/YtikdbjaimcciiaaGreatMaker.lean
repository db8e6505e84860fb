/- What the program and the reference answer on ranges and makers. No conditions. -/
import Derived.Test.YtikdbjaimcciiaaGreatProg
import Derived.Deep.QuietTactic
import Derived.BigQuiet
import Derived.Test.YtikdbjaimcciiaaGreatMath1
namespace Go.Proofs.YtikdbjaimcciiaaGreat
open Go.RowKit
set_option linter.unusedVariables false
set_option linter.unusedSimpArgs false

theorem within_any (n lo hi : Int) (w : World) :
    Calls Tryz.prog 106 #[.int .i64 n, .int .i64 lo, .int .i64 hi] w fun e w' => e = .returned (.bool (inB n lo hi)) ∧ w = w' := by
  go_enter Tryz.func106, Tryz.ntmps106
  go_wp2
  all_goals go_ret
  all_goals refine ⟨?_, rfl⟩
  all_goals simp [inB]
  all_goals omega

theorem l01In_any (n lo hi : Int) (w : World) :
    Calls Tryz.prog 102 #[.int .i64 n, .int .i64 lo, .int .i64 hi] w fun e w' => e = .returned (.bool (inB n lo hi)) ∧ w = w' := by
  go_enter Tryz.func102, Tryz.ntmps102
  go_wp2
  all_goals go_ret
  all_goals refine ⟨?_, rfl⟩
  all_goals simp [inB]
  all_goals omega

theorem within_b (n lo hi : Int) (w : World) (r : Bool) (hr : inB n lo hi = r) :
    Calls Tryz.prog 106 #[.int .i64 n, .int .i64 lo, .int .i64 hi] w fun e w' => e = .returned (.bool r) ∧ w = w' := by subst hr; exact within_any _ _ _ _
theorem l01In_b (n lo hi : Int) (w : World) (r : Bool) (hr : inB n lo hi = r) :
    Calls Tryz.prog 102 #[.int .i64 n, .int .i64 lo, .int .i64 hi] w fun e w' => e = .returned (.bool r) ∧ w = w' := by subst hr; exact l01In_any _ _ _ _

theorem isMaker_any (c d s e l : Int) (w : World) :
    Calls Tryz.prog 97 #[.agg #[.int .i64 c, .int .i64 d, .int .i64 s, .int .i64 e, .int .i64 l]] w fun e' w' => e' = .returned (.bool (isMk c d s e l)) ∧ Below w.heap.size w w' := by
  have hw : inB d 2 8 = true → wrap64 (d - 1) = d - 1 := fun h => by rw [inB_iff] at h; exact IntWalk.wrap64_in _ ⟨by omega, by omega⟩
  have HW := Lib.hid hw; clear hw
  go_enter Tryz.func97, Tryz.ntmps97
  go_wp2_with (go_at_call 106; refine (within_any _ _ _ _).mono ?_; rintro e w' ⟨rfl, rfl⟩)
  all_goals go_ret
  all_goals refine ⟨?_, by go_grown⟩
  all_goals simp_all [isMk, Int.min_def, HW.out]
  rw [if_neg (by omega)]

theorem isMakerR_any (c d s e l : Int) (w : World) :
    Calls Tryz.prog 195 #[.agg #[.int .i64 c, .int .i64 d, .int .i64 s, .int .i64 e, .int .i64 l]] w fun e' w' => e' = .returned (.bool (isMk c d s e l)) ∧ Below w.heap.size w w' := by
  have hw : inB d 2 8 = true → wrap64 (d - 1) = d - 1 := fun h => by rw [inB_iff] at h; exact IntWalk.wrap64_in _ ⟨by omega, by omega⟩
  have HW := Lib.hid hw; clear hw
  go_enter Tryz.func195, Tryz.ntmps195
  go_wp2_with (go_at_call 102; refine (l01In_any _ _ _ _).mono ?_; rintro e w' ⟨rfl, rfl⟩)
  all_goals go_ret
  all_goals refine ⟨?_, by go_grown⟩
  all_goals simp_all [isMk, Int.min_def, HW.out]
  rw [if_neg (by omega)]

theorem toMaker_any (c d s e l : Int) (w : World) :
    Calls Tryz.prog 104 #[.agg #[.int .i64 c, .int .i64 d, .int .i64 s, .int .i64 e, .int .i64 l]] w fun e' w' => e' = .returned (.agg #[.int .i64 c, .int .i64 d, .int .i64 s, .int .i64 e, .int .i64 l]) ∧ Below w.heap.size w w' := by
  go_enter Tryz.func104, Tryz.ntmps104
  go_wp2
  exact bodyPost_ret (v := .agg #[.int .i64 c, .int .i64 d, .int .i64 s, .int .i64 e, .int .i64 l]) (by simp [results, Tryz.results104, go_sem]) rfl ⟨rfl, by go_grown⟩

/-- Go's own loop of the program's openers. -/
theorem bal_succ (c w k : Nat) : (List.range (k + 1)).foldl (fun p i => p * (if i < w % c then 1 + w / c + 1 else 1 + w / c)) 1 = (List.range k).foldl (fun p i => p * (if i < w % c then 1 + w / c + 1 else 1 + w / c)) 1 * (if k < w % c then 1 + w / c + 1 else 1 + w / c) := by
  rw [List.range_succ, List.foldl_append]; rfl
def balTo (c w k : Nat) : Nat := (List.range k).foldl (fun p i => p * (if i < w % c then 1 + w / c + 1 else 1 + w / c)) 1
theorem balTo_succ (c w k : Nat) : balTo c w (k + 1) = balTo c w k * (if k < w % c then 1 + w / c + 1 else 1 + w / c) := bal_succ c w k
theorem balTo_bound : ∀ c, c < 7 → ∀ w, w < 43 → ∀ k, k < c + 1 → balTo c w k ≤ 1000000000 := by decide +kernel
theorem rest_bound : ∀ c, c < 7 → ∀ w, w < 43 → 1 + w / c + 1 ≤ 44 := by decide +kernel

theorem div_cast (w c : Nat) : ((w : Int) / (c : Int)) = ((w / c : Nat) : Int) := (Int.natCast_ediv w c).symm
theorem bal_wrap1 {c w k : Nat} (hs : balTo c w (k + 1) = balTo c w k * (1 + w / c + 1)) (h1 : balTo c w (k + 1) ≤ 1000000000) (h2 : 1 + w / c + 1 ≤ 44) :
    wrap64 ((balTo c w k : Int) * wrap64 (wrap64 (1 + wrap64 ((w : Int) / (c : Int))) + 1)) = (balTo c w (k + 1) : Int) := by
  rw [div_cast]
  generalize w / c = q at *
  rw [IntWalk.wrap64_in (q : Int) ⟨by omega, by omega⟩, IntWalk.wrap64_in (1 + (q : Int)) ⟨by omega, by omega⟩, IntWalk.wrap64_in (1 + (q : Int) + 1) ⟨by omega, by omega⟩]
  have : (balTo c w k : Int) * (1 + (q : Int) + 1) = (balTo c w (k + 1) : Int) := by rw [hs]; simp
  rw [this, IntWalk.wrap64_in _ ⟨by omega, by omega⟩]
theorem bal_wrap0 {c w k : Nat} (hs : balTo c w (k + 1) = balTo c w k * (1 + w / c)) (h1 : balTo c w (k + 1) ≤ 1000000000) (h2 : 1 + w / c + 1 ≤ 44) :
    wrap64 ((balTo c w k : Int) * wrap64 (1 + wrap64 ((w : Int) / (c : Int)))) = (balTo c w (k + 1) : Int) := by
  rw [div_cast]
  generalize w / c = q at *
  rw [IntWalk.wrap64_in (q : Int) ⟨by omega, by omega⟩, IntWalk.wrap64_in (1 + (q : Int)) ⟨by omega, by omega⟩]
  have : (balTo c w k : Int) * (1 + (q : Int)) = (balTo c w (k + 1) : Int) := by rw [hs]; simp
  rw [this, IntWalk.wrap64_in _ ⟨by omega, by omega⟩]

theorem most_wrap {d c w k : Nat} (hr : mostR d c (w - k) ≤ 300000) (hk : k < 8) :
    wrap64 (((k : Int) + 1) * (mostR d c (w - k) : Int)) = (((k + 1) * mostR d c (w - k) : Nat) : Int) := by
  have h2 : (k + 1) * mostR d c (w - k) ≤ 8 * 300000 := Nat.mul_le_mul (by omega) hr
  rw [IntWalk.wrap64_in]
  · push_cast; rfl
  · have : (((k : Int) + 1) * (mostR d c (w - k) : Int)) = (((k + 1) * mostR d c (w - k) : Nat) : Int) := by push_cast; rfl
    rw [this]; constructor <;> omega

def minW (c d : Int) (w : Int) : Bool := inB w 0 (c * (d - 1))

theorem bal_toC (c w : Nat) : balTo c w c = bal c w := rfl
theorem most_same (c d w : Nat) (hc : 1 ≤ c) (hc6 : c ≤ 6) (hd : 2 ≤ d) (hd8 : d ≤ 8) (hw : w ≤ c * (d - 1)) : mostR d c w = balTo c w c := by
  have h42 : c * (d - 1) ≤ 6 * 7 := Nat.mul_le_mul hc6 (by omega)
  rw [mostR_eq d (by omega) hd c (by omega) w (by omega), bal_toC, balR, if_pos hw]
theorem mul_wrap {c d : Int} (hc : 2 ≤ c ∧ c ≤ 6) (hd : 2 ≤ d ∧ d ≤ 8) : wrap64 (c * (d - 1)) = c * (d - 1) := by
  have h1 : 0 ≤ c * (d - 1) := Int.mul_nonneg (by omega) (by omega)
  have h2 : c * (d - 1) ≤ 6 * 7 := Int.mul_le_mul (by omega) (by omega) (by omega) (by omega)
  exact IntWalk.wrap64_in _ ⟨by omega, by omega⟩

/-- The answer of MostOpeners. -/
def mostAns (c d s e l w : Int) : Int × Int :=
  if isMk c d s e l = false then (0, 1) else if inB w 0 (c * (d - 1)) = false then (0, 2) else ((balTo c.toNat w.toNat c.toNat : Nat), 0)

end Go.Proofs.YtikdbjaimcciiaaGreat
