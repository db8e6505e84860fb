/- What the program and the reference answer on spare keys. No conditions. -/
import Derived.Test.YtjkfgldmeenmjaaEach5
import Derived.Test.YtjkfgldmeenmjaaMBegins
import Derived.Test.YtjkfgldmeenmjaaMSys
import Derived.Test.YtjkfgldmeenmjaaHeld
namespace Go.Proofs.Ytjkfgldmeenmjaa
open Go.RowKit
set_option linter.unusedVariables false
set_option linter.unusedSimpArgs false

theorem genF_length {m : Mk} {A : Nat → Int → Bool} {fr : List Int} (D : Nat) (hd : m.d.toNat ≤ D) : ∀ (rem : Nat) (t : Bool) (pre : List Int), (genF m A fr t rem pre).length ≤ D ^ rem
  | 0, t, pre => by unfold genF; split <;> simp
  | rem + 1, t, pre => by
    rw [genF_succ, List.length_flatMap]
    have : ∀ (l : List Int), (l.map fun x => (brF m A fr t rem pre x).length).sum ≤ l.length * D ^ rem := by
      intro l
      induction l with
      | nil => simp
      | cons x l ih =>
        simp only [List.map_cons, List.sum_cons, List.length_cons, Nat.succ_mul]
        have hx : (brF m A fr t rem pre x).length ≤ D ^ rem := by
          unfold brF; split
          · exact genF_length D hd rem _ _
          · simp
        omega
    refine Nat.le_trans (this _) ?_
    have hlen : (depths (lowF fr t pre.length) m.d.toNat).length ≤ m.d.toNat := by simp [depths]
    rw [Nat.pow_succ, Nat.mul_comm]
    exact Nat.mul_le_mul_left _ (Nat.le_trans hlen hd)
/-- All keys whose cuts are allowed. -/
def keysA (m : Mk) (A : Nat → Int → Bool) : List (List Int) := genF m A [] false m.c.toNat []
theorem keysA_all (m : Mk) : keysA m (fun _ _ => true) = keysOf m := genF_free m [] _ _
theorem keysA_length {m : Mk} {A : Nat → Int → Bool} (h : m.ok = true) : (keysA m A).length ≤ 262144 := by
  have hm := Mk.ok_iff.1 h
  refine Nat.le_trans (genF_length 8 (by omega) m.c.toNat false []) ?_
  exact Nat.le_trans (Nat.pow_le_pow_right (by decide) (by omega : m.c.toNat ≤ 6)) (by decide)

def cntStep (n : Nat) (k : List Int) : Nat × Bool := (n + 1, true)
theorem cntStep_run (l : List (List Int)) (n : Nat) : runL cntStep n l = (n + l.length, true) := by
  rw [runL_all cntStep (fun n _ => n + 1) (fun _ _ => rfl)]
  congr 1
  induction l generalizing n with
  | nil => rfl
  | cons k l ih => rw [List.foldl_cons, ih]; simp; omega
def CntInv (B : Nat) (n : Nat) (F : Nat → Prop) (w : World) : Prop := (∀ b, F b ↔ b = B) ∧ ∃ T, w.heap[B]? = some (.cells #[.int .i64 n] T (0, 0))
/-- The answer on spare keys. -/
def spareAns (m : Mk) (t : List (List Int)) : Int × Int := if isSys m t = true then (((keysOf m).length : Int) - (diffR t : Int), 0) else (0, 1)
theorem diffR_le (t : List (List Int)) : diffR t ≤ t.length := diffTo_le t _
theorem isSys_parts {m : Mk} {t : List (List Int)} (h : isSys m t = true) : m.ok = true ∧ isTab t = true ∧ upAll (doorOpen t) (getl t 0).length 0 = true := by
  simp only [isSys, Bool.and_eq_true] at h; exact ⟨h.1, h.2.1, h.2.2⟩
end Go.Proofs.Ytjkfgldmeenmjaa
