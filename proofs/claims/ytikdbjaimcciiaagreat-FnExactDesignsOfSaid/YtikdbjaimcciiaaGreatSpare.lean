/- What the program and the reference answer on spare keys. No conditions. -/
import Derived.Test.YtikdbjaimcciiaaGreatEach5
import Derived.Test.YtikdbjaimcciiaaGreatMBegins
import Derived.Test.YtikdbjaimcciiaaGreatMSys
import Derived.Test.YtikdbjaimcciiaaGreatHeld
namespace Go.Proofs.YtikdbjaimcciiaaGreat
open Go.RowKit
set_option linter.unusedVariables false
set_option linter.unusedSimpArgs false

theorem genF_length {m : Mk} {A : Nat → Int → Bool} {fr : List Int} (D : Nat) (hd : m.d.toNat ≤ D) : ∀ (rem : Nat) (t : Bool) (pre : List Int), (genF m A fr t rem pre).length ≤ D ^ rem
  | 0, t, pre => by unfold genF; split <;> simp
  | rem + 1, t, pre => by
    rw [genF_succ, List.length_flatMap]
    have : ∀ (l : List Int), (l.map fun x => (brF m A fr t rem pre x).length).sum ≤ l.length * D ^ rem := by
      intro l
      induction l with
      | nil => simp
      | cons x l ih =>
        simp only [List.map_cons, List.sum_cons, List.length_cons, Nat.succ_mul]
        have hx : (brF m A fr t rem pre x).length ≤ D ^ rem := by
          unfold brF; split
          · exact genF_length D hd rem _ _
          · simp
        omega
    refine Nat.le_trans (this _) ?_
    have hlen : (depths (lowF fr t pre.length) m.d.toNat).length ≤ m.d.toNat := by simp [depths]
    rw [Nat.pow_succ, Nat.mul_comm]
    exact Nat.mul_le_mul_left _ (Nat.le_trans hlen hd)
/-- All keys whose cuts are allowed. -/
def keysA (m : Mk) (A : Nat → Int → Bool) : List (List Int) := genF m A [] false m.c.toNat []
theorem keysA_all (m : Mk) : keysA m (fun _ _ => true) = keysOf m := genF_free m [] _ _
theorem keysA_length {m : Mk} {A : Nat → Int → Bool} (h : m.ok = true) : (keysA m A).length ≤ 262144 := by
  have hm := Mk.ok_iff.1 h
  refine Nat.le_trans (genF_length 8 (by omega) m.c.toNat false []) ?_
  exact Nat.le_trans (Nat.pow_le_pow_right (by decide) (by omega : m.c.toNat ≤ 6)) (by decide)

theorem enters_count : Enters 212 := fun args w => by kernel_rfl
theorem count1_any (key : Value) (B : Nat) (n : Nat) (T : TypeId) (w : World) (hn : n ≤ 1000000) (hc : w.heap[B]? = some (.cells #[.int .i64 n] T (0, 0))) :
    Calls Tryz.prog 212 #[key, .pointer (some ⟨B, 0, none⟩)] w fun e w' => e = .returned (.bool true) ∧ w' = w.setCell ⟨B, 0, none⟩ (.int .i64 ((n + 1 : Nat) : Int)) := by
  have hc1 := cell_of_block hc 0
  have hf1 := frozen_of_block hc 0
  simp at hc1
  clear hc
  go_enter Tryz.func212, Tryz.ntmps212
  go_wp2_with fail
  go_ret
  exact ⟨rfl, by go_num⟩

def cntStep (n : Nat) (k : List Int) : Nat × Bool := (n + 1, true)
theorem cntStep_run (l : List (List Int)) (n : Nat) : runL cntStep n l = (n + l.length, true) := by
  rw [runL_all cntStep (fun n _ => n + 1) (fun _ _ => rfl)]
  congr 1
  induction l generalizing n with
  | nil => rfl
  | cons k l ih => rw [List.foldl_cons, ih]; simp; omega
def CntInv (B : Nat) (n : Nat) (F : Nat → Prop) (w : World) : Prop := (∀ b, F b ↔ b = B) ∧ ∃ T, w.heap[B]? = some (.cells #[.int .i64 n] T (0, 0))
theorem cnt_ok (m : Mk) (hm : m.ok = true) (w : World) (A : Nat → Int → Bool) (B : Nat) : VisOk m.c.toNat w (fun b => b = B) 212 #[.pointer (some ⟨B, 0, none⟩)] cntStep 0 (keysA m A) (CntInv B) := by
  refine ⟨enters_count, ?_, ?_, ?_⟩
  · rintro s F w w' ⟨h1, T, h2⟩ _ h3
    exact ⟨h1, T, by rw [h3 B ((h1 B).2 rfl), h2]⟩
  · rintro s F w ⟨h1, T, h2⟩ b hb
    rw [(h1 b).1 hb]; exact lt_of_heap h2
  · rintro s F S w v key done rest hL hr ⟨h1, T, h2⟩ hchg hsub hV hS hlen
    rw [cntStep_run] at hr
    have hle := keysA_length (A := A) hm
    rw [hL] at hle
    simp only [Prod.mk.injEq, and_true] at hr
    refine (count1_any v B s T w (by simp at hle; omega) h2).mono ?_
    rintro e w' ⟨rfl, rfl⟩
    refine ⟨F, rfl, ⟨h1, T, by rw [heap_setCell_self h2]; rfl⟩, (Chg.refl _ _).setCell (.inl ((h1 B).2 rfl)) _, fun b hb => .inl hb⟩

set_option maxRecDepth 100000 in
theorem countKeys_any (m : Mk) (hm : m.ok = true) (av : Value) (A : Nat → Int → Bool) (w : World) (hav : av = .nilFunc ∨ ∃ fa ac, av = .func (.func fa) #[] ac) (hA : ∀ (w2 : World) (F0 : Nat → Prop), Below w.heap.size w w2 → (∀ b, F0 b → w.heap.size ≤ b) → AOk m w2 F0 av A) :
    Calls Tryz.prog 163 #[.agg #[.int .i64 m.c, .int .i64 m.d, .int .i64 m.s, .int .i64 m.e, .int .i64 m.l], av] w fun e w' => e = .returned (.int .i64 ((keysA m A).length : Int)) ∧ Below w.heap.size w w' := by
  have hle := keysA_length (A := A) hm
  have hb2 : Below w.heap.size w ((w.alloc (.cells #[.int .i64 m.c, .int .i64 m.d, .int .i64 m.s, .int .i64 m.e, .int .i64 m.l] 25)).alloc (.cells #[.int .i64 0] 2)) := by (repeat (first | (with_reducible refine Below.setCell ?_ ?_ _) | (with_reducible refine Below.alloc ?_ ?_ _) | (with_reducible refine Below.drew ?_) | (with_reducible refine below_drewN ?_ _) | (with_reducible exact Below.refl _ _) | (with_reducible assumption) | (with_reducible refine Below.trans ?_ (Below.mono (by with_reducible assumption) ?_)) | go_size))
  have hA2 := hA _ (fun b => b = w.heap.size + 1) hb2 (fun b hb => by omega)
  have hV := cnt_ok m hm ((w.alloc (.cells #[.int .i64 m.c, .int .i64 m.d, .int .i64 m.s, .int .i64 m.e, .int .i64 m.l] 25)).alloc (.cells #[.int .i64 0] 2)) A (w.heap.size + 1)
  have hI : CntInv (w.heap.size + 1) 0 (fun b => b = w.heap.size + 1) ((w.alloc (.cells #[.int .i64 m.c, .int .i64 m.d, .int .i64 m.s, .int .i64 m.e, .int .i64 m.l] 25)).alloc (.cells #[.int .i64 0] 2)) := ⟨fun b => Iff.rfl, 2, by rw [heap_alloc_at]; simp⟩
  have HA := Lib.hid hA2; clear hA hA2
  have HV := Lib.hid hV; clear hV
  have HI := Lib.hid hI; clear hI
  have Hb := Lib.hid hb2; clear hb2
  rcases hav with rfl | ⟨fa, ac, rfl⟩
  all_goals
    go_enter Tryz.func163, Tryz.ntmps163
    go_wp2_with fail
    refine (eachKey_any hm _ HV.out HA.out HI.out).mono ?_
    rintro e w' ⟨F', ⟨hF, T, hc⟩, hchg, hsub, rfl⟩
    have hrun : (runL cntStep 0 (genF m A [] false m.c.toNat [])).1 = (keysA m A).length := by
      show (runL cntStep 0 (keysA m A)).1 = _
      rw [cntStep_run]; simp
    rw [hrun] at hc
    have hc1 := cell_of_block hc 0
    simp at hc1
    have Hchg := Lib.hid hchg; clear hchg hc hrun
    go_wp2_with fail
    go_ret
    exact ⟨rfl, Hb.out.trans (Hchg.out.to_below (fun i hi => by omega) (by simp; omega))⟩

/-- The answer on spare keys. -/
def spareAns (m : Mk) (t : List (List Int)) : Int × Int := if isSys m t = true then (((keysOf m).length : Int) - (diffR t : Int), 0) else (0, 1)
theorem diffR_le (t : List (List Int)) : diffR t ≤ t.length := diffTo_le t _
theorem isSys_parts {m : Mk} {t : List (List Int)} (h : isSys m t = true) : m.ok = true ∧ isTab t = true ∧ upAll (doorOpen t) (getl t 0).length 0 = true := by
  simp only [isSys, Bool.and_eq_true] at h; exact ⟨h.1, h.2.1, h.2.2⟩
theorem countAll_any (m : Mk) (hm : m.ok = true) (w : World) :
    Calls Tryz.prog 163 #[.agg #[.int .i64 m.c, .int .i64 m.d, .int .i64 m.s, .int .i64 m.e, .int .i64 m.l], .nilFunc] w fun e w' => e = .returned (.int .i64 ((keysOf m).length : Int)) ∧ Below w.heap.size w w' := by
  have := countKeys_any m hm .nilFunc (fun _ _ => true) w (.inl rfl) (fun _ _ _ _ => .inl ⟨rfl, fun _ _ => rfl⟩)
  rw [keysA_all] at this
  exact this
end Go.Proofs.YtikdbjaimcciiaaGreat
