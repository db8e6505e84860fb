/- Lists that rise: the program's test. No conditions. -/
import Derived.Test.YtmfgdoflddhngaaGreatMSys2
import Derived.Test.YtmfgdoflddhngaaGreatMDoors
import Derived.Test.YtmfgdoflddhngaaGreatMOut
import Derived.Test.YtmfgdoflddhngaaGreatOpenrs
namespace Go.Proofs.YtmfgdoflddhngaaGreat
open Go.RowKit
set_option linter.unusedVariables false
set_option linter.unusedSimpArgs false

/-- The first k numbers lie from 0 to below n, each greater than the one before it. -/
def riseTo (l : List Int) (n : Int) : Nat → Bool
  | 0 => true
  | k + 1 => riseTo l n k && (decide (0 ≤ geti l k) && decide (geti l k < n) && (decide (k = 0) || decide (geti l (k - 1) < geti l k)))
def riseB (l : List Int) (n : Int) : Bool := riseTo l n l.length
theorem riseTo_false {l : List Int} {n : Int} {k : Nat} (h : riseTo l n (k + 1) = false) : ∀ {m}, k < m → riseTo l n m = false
  | 0, hk => by omega
  | m + 1, hk => by
    by_cases e : k = m
    · subst e; exact h
    · unfold riseTo; rw [riseTo_false h (by omega), Bool.false_and]

theorem IsRising_any {S : Nat → Prop} (v : Value) (l : List Int) (n : Int) (W : World) (h : V1 S W v l) :
    Calls Tryz.prog 183 #[v, .int .i64 n] W fun e' w' => e' = .returned (.bool (riseB l n)) ∧ W = w' := by
  have hV := h
  obtain ⟨a, c, rfl, hm⟩ := h.form
  obtain ⟨r, hr⟩ : ∃ r, riseB l n = r := ⟨_, rfl⟩
  rw [hr]
  have Hr := Lib.hid hr; clear hr
  go_enter Tryz.func183, Tryz.ntmps183
  go_wp2_with fail
  go_loop [5, 6, 9] (fun _ _ i => ∃ k : Nat, k ≤ l.length ∧ i = .int .i64 k ∧ riseTo l n k = true) (fun _ _ i => l.length - (intOf i).toNat)
  case atStart => exact ⟨0, Nat.zero_le _, rfl, rfl⟩
  case round =>
    obtain ⟨k, hk, rfl, hal⟩ := hrel
    have Hal := Lib.hid hal; clear hal
    by_cases hkk : k < l.length
    · obtain ⟨b1, off1, rfl, _, hc1⟩ := hV.cell hkk
      have hk1 : k ≠ 0 → ∃ b2 off2, some (⟨b1, off1, none⟩ : Addr) = some ⟨b2, off2, none⟩ ∧ True ∧ W.cell? ⟨b2, off2 + (k - 1), none⟩ = some (.int .i64 (geti l (k - 1))) := fun hk0 => by
        obtain ⟨b2, off2, e, _, hc⟩ := hV.cell (k := k - 1) (by omega)
        exact ⟨b2, off2, e, trivial, hc⟩
      by_cases h1 : geti l k < 0
      · skip
        have hfin : r = false := by rw [← Hr.out]; exact riseTo_false (k := k) (by unfold riseTo; simp; intros; omega) hkk
        subst hfin
        go_wp2_with fail
        go_ret
        exact ⟨rfl, rfl⟩
      · by_cases h2 : n ≤ geti l k
        · skip
          have hfin : r = false := by rw [← Hr.out]; exact riseTo_false (k := k) (by unfold riseTo; simp; intros; omega) hkk
          subst hfin
          go_wp2_with fail
          go_ret
          exact ⟨rfl, rfl⟩
        · by_cases hk0 : k = 0
          · subst hk0
            rw [Nat.add_zero] at hc1
            clear hk1
            go_wp2_with fail
            go_round
            case rel => exact ⟨1, by omega, by go_num, by simp [riseTo]; omega⟩
            case measure => simp [intOf]; omega
          · obtain ⟨b2, off2, e, _, hc2⟩ := hk1 hk0
            simp only [Option.some.injEq, Addr.mk.injEq, and_true] at e
            obtain ⟨rfl, rfl⟩ := e
            have hpos : 0 < k := by omega
            have hlen := hV.len
            unfold maxLen at hlen
            by_cases h3 : geti l k ≤ geti l (k - 1)
            · skip
              have hfin : r = false := by rw [← Hr.out]; exact riseTo_false (k := k) (by unfold riseTo; simp; intros; omega) hkk
              subst hfin
              go_wp2_with fail
              go_ret
              exact ⟨rfl, rfl⟩
            · go_wp2_with fail
              go_round
              case rel => exact ⟨k + 1, by omega, by go_num, by unfold riseTo; rw [Hal.out]; simp; omega⟩
              case measure => simp [intOf]; omega
    · obtain rfl : k = l.length := by omega
      have hfin : r = true := by rw [← Hr.out]; exact Hal.out
      subst hfin
      go_wp2_with fail
      go_ret
      exact ⟨rfl, rfl⟩

end Go.Proofs.YtmfgdoflddhngaaGreat

namespace Go.Proofs.YtmfgdoflddhngaaGreat
open Go.RowKit
set_option linter.unusedVariables false
set_option linter.unusedSimpArgs false

/-- A place is free for a set. -/
def freeB (tol p : Int) (set : List Int) : Bool := set.any fun d => decide (absI (p - 10 * d) ≤ tol)
/-- One of the first n places from p on is free, and how many are. -/
def someTo (tol p : Int) (set : List Int) : Nat → Bool
  | 0 => false
  | n + 1 => someTo tol p set n || freeB tol (p + n) set
def cntFr (tol p : Int) (set : List Int) : Nat → Nat
  | 0 => 0
  | n + 1 => if freeB tol (p + n) set = true then cntFr tol p set n + 1 else cntFr tol p set n
theorem cntFr_le (tol p : Int) (set : List Int) : ∀ n, cntFr tol p set n ≤ n
  | 0 => Nat.le_refl _
  | n + 1 => by have := cntFr_le tol p set n; unfold cntFr; split <;> omega
theorem cntFr_some (tol p : Int) (set : List Int) : ∀ n, (cntFr tol p set n = 0) ↔ someTo tol p set n = false
  | 0 => by simp [cntFr, someTo]
  | n + 1 => by
    unfold cntFr someTo
    have ih := cntFr_some tol p set n
    cases h : freeB tol (p + n) set
    · simp [ih]
    · simp
/-- A set of small depths. -/
def Small (set : List Int) : Prop := ∀ d ∈ set, 0 ≤ d ∧ d ≤ 7

theorem idxR_step1 {g : Int → Bool} {l : List Int} {k : Nat} (h : k < l.length) : idxR g (l.drop k) k = if g (geti l k) then (k : Int) else idxR g (l.drop (k + 1)) (k + 1) := by
  rw [List.drop_eq_getElem_cons h, idxR, geti_eq h]
/-- A function value that answers g of a number, and makes at most new memory. -/
def PredN (f : FuncId) (caps : Array Value) (W : World) (g : Int → Bool) (l : List Int) : Prop :=
  ∀ (w : World) (x : Int), Below W.heap.size W w → x ∈ l → Calls Tryz.prog f (#[.int .i64 x] ++ caps) w fun e w' => e = .returned (.bool (g x)) ∧ Below w.heap.size w w'
theorem indexFuncN_any {S : Nat → Prop} (v : Value) (l : List Int) (f : FuncId) (caps : Array Value) (g : Int → Bool) (W : World) (h : V1 S W v l) (hf : Enters f) (hp : PredN f caps W g l) :
    Calls Tryz.prog 252 #[v, .func (.func f) #[] caps] W fun e' w' => e' = .returned (.int .i64 (idxR g l 0)) ∧ Below W.heap.size W w' := by
  have hV := h
  obtain ⟨a, c, rfl, hm⟩ := h.form
  have Hp := Lib.hid hp; clear hp
  go_enter Tryz.func252, Tryz.ntmps252
  go_wp2_with fail
  go_loopw [5, 8] (fun _ i wr => ∃ k : Nat, k ≤ l.length ∧ i = .int .i64 k ∧ idxR g l 0 = idxR g (l.drop k) k ∧ Below W.heap.size W wr) (fun _ i _ => l.length - (intOf i).toNat)
  case atStart => exact ⟨0, Nat.zero_le _, rfl, rfl, Below.refl _ _⟩
  case round =>
    obtain ⟨k, hk, rfl, hrem, hB⟩ := hrel
    have Hr := Lib.hid hrem; clear hrem
    by_cases hkk : k < l.length
    · obtain ⟨b1, off1, rfl, _, hc1⟩ := (hV.below hB).cell hkk
      have hf' := hf
      unfold Enters at hf'
      cases hg : g (geti l k)
      · have HG := Lib.hid hg; clear hg
        go_wp2_with fail
        have hcl := Hp.out _ _ hB (geti_mem hkk)
        rw [HG.out] at hcl
        refine hcl.mono ?_
        rintro e' w' ⟨rfl, hb⟩
        have hzB := hb.size
        have hzW := hB.size
        go_wp2_with fail
        go_roundw
        case rel => exact ⟨k + 1, by omega, by go_num, by rw [Hr.out, idxR_step1 hkk, HG.out]; rfl, hB.trans (hb.mono hzW)⟩
        case measure => simp [intOf]; omega
      · have HG := Lib.hid hg; clear hg
        go_wp2_with fail
        have hcl := Hp.out _ _ hB (geti_mem hkk)
        rw [HG.out] at hcl
        refine hcl.mono ?_
        rintro e' w' ⟨rfl, hb⟩
        have hzB := hb.size
        have hzW := hB.size
        go_wp2_with fail
        go_ret
        exact ⟨ret_int (by rw [Hr.out, idxR_step1 hkk, HG.out]; rfl), hB.trans (hb.mono hzW)⟩
    · have hd : l.drop k = [] := List.drop_of_length_le (by omega)
      have Hd := Lib.hid hd; clear hd
      go_wp2_with fail
      go_ret
      exact ⟨ret_int (by rw [Hr.out, Hd.out]; rfl), hB⟩
theorem containsFuncN_any {S : Nat → Prop} (v : Value) (l : List Int) (f : FuncId) (caps : Array Value) (g : Int → Bool) (W : World) (h : V1 S W v l) (hf : Enters f) (hp : PredN f caps W g l) :
    Calls Tryz.prog 184 #[v, .func (.func f) #[] caps] W fun e' w' => e' = .returned (.bool (l.any g)) ∧ Below W.heap.size W w' := by
  have hfin := (idxR_any g l 0).1
  have Hfin := Lib.hid hfin; clear hfin
  go_enter Tryz.func184, Tryz.ntmps184
  go_wp2_with fail
  refine (indexFuncN_any _ _ _ _ _ _ h hf hp).mono ?_
  rintro e' w' ⟨rfl, hb⟩
  go_wp2_with fail
  go_ret
  exact ⟨ret_bool (by rw [← Hfin.out]), hb⟩

theorem enters_free : Enters 313 := fun args w => by kernel_rfl
theorem free1_any (d p tol : Int) (PB TB : Nat) (w : World) (hd : 0 ≤ d ∧ d ≤ 7) (hp : 0 ≤ p ∧ p ≤ 100) (h1 : w.cell? ⟨PB, 0, none⟩ = some (.int .i64 p)) (h2 : w.cell? ⟨TB, 0, none⟩ = some (.int .i64 tol)) :
    Calls Tryz.prog 313 #[.int .i64 d, .pointer (some ⟨PB, 0, none⟩), .pointer (some ⟨TB, 0, none⟩)] w fun e w' => e = .returned (.bool (decide (absI (p - 10 * d) ≤ tol))) ∧ Below w.heap.size w w' := by
  have hw1 : IntKind.i64.wrap (10 * d) = 10 * d := IntWalk.i64_in _ (by omega)
  have hw2 : IntKind.i64.wrap (p - 10 * d) = p - 10 * d := IntWalk.i64_in _ (by omega)
  obtain ⟨q, hq⟩ : ∃ q, absI (p - 10 * d) = q := ⟨_, rfl⟩
  rw [hq]
  have Hq := Lib.hid hq; clear hq
  go_enter Tryz.func313, Tryz.ntmps313
  go_wp2_with fail
  go_quiet ((go_at_call 249; first | exact quiet_same (absolute_b _ _ _ Hq.out (by omega)) | exact quiet_same0 (absolute_b _ _ _ Hq.out (by omega))))
  go_wp2_with fail
  go_ret
  exact ⟨rfl, by repeat' first | refine below_drewN ?_ _ | exact Below.refl _ _⟩
set_option maxRecDepth 100000 in
theorem isFree_any {S : Nat → Prop} (v : Value) (set : List Int) (p tol : Int) (W : World) (h : V1 S W v set) (hs : Small set) (hp : 0 ≤ p ∧ p ≤ 100) :
    Calls Tryz.prog 290 #[v, .int .i64 p, .int .i64 tol] W fun e w' => e = .returned (.bool (freeB tol p set)) ∧ Below W.heap.size W w' := by
  obtain ⟨a, c, rfl, hm⟩ := h.form
  obtain ⟨WA, hWA, hBA, hzA, HZA, hcA, hhA⟩ := box_facts W #[.int .i64 p] 2
  obtain ⟨W1, hW1, hB1, hz1', HZ1, hc1, hh1⟩ := box_facts WA #[.int .i64 tol] 2
  have hB01 : Below W.heap.size W W1 := hBA.trans (hB1.mono (by omega))
  rw [HZA.out] at hc1
  have hcp : W1.cell? ⟨W.heap.size, 0, none⟩ = some (.int .i64 p) := by rw [(bcell hB1).1 _ _ hzA, hcA]; rfl
  have hct : W1.cell? ⟨W.heap.size + 1, 0, none⟩ = some (.int .i64 tol) := by rw [hc1]; rfl
  have hpr : PredN 313 #[.pointer (some ⟨W.heap.size, 0, none⟩), .pointer (some ⟨W.heap.size + 1, 0, none⟩)] W1 (fun d => decide (absI (p - 10 * d) ≤ tol)) set := fun w x hb hx => free1_any x p tol _ _ w (hs x hx) hp (cell_keep hcp (hb.block _ (lt_of_cell hcp))) (cell_keep hct (hb.block _ (lt_of_cell hct)))
  have hcl := containsFuncN_any _ set _ _ _ W1 (h.below hB01) enters_free hpr
  have Hcl := Lib.hid hcl; clear hcl hpr hcp hct hc1 hcA hhA hh1
  go_enter Tryz.func290, Tryz.ntmps290
  go_wp2_with fail
  rw [← hWA, ← hW1]
  refine Hcl.out.mono ?_
  rintro e' w2 ⟨rfl, hb2⟩
  go_wp2_with fail
  go_ret
  exact ⟨rfl, hB01.trans (hb2.mono hB01.size)⟩
set_option maxRecDepth 100000 in
theorem freePlaces_any {S : Nat → Prop} (v : Value) (set : List Int) (cut wear tol : Int) (W : World) (h : V1 S W v set) (hs : Small set) (hc : 0 ≤ cut ∧ cut ≤ 7) (hw : 0 ≤ wear ∧ wear ≤ 19) :
    Calls Tryz.prog 235 #[v, .int .i64 cut, .int .i64 wear, .int .i64 tol] W fun e w' => e = .returned (.int .i64 (cntFr tol (10 * cut) set (wear.toNat + 1) : Nat)) ∧ Below W.heap.size W w' := by
  have hV := h
  obtain ⟨a, c, rfl, hm⟩ := h.form
  obtain ⟨n, rfl⟩ : ∃ n : Nat, wear = (n : Int) := ⟨wear.toNat, by omega⟩
  rw [Int.toNat_natCast]
  have hw1 : IntKind.i64.wrap (10 * cut) = 10 * cut := IntWalk.i64_in _ (by omega)
  obtain ⟨P, hP⟩ : ∃ P, 10 * cut = P := ⟨_, rfl⟩
  rw [hP] at hw1 ⊢
  have hP7 : 0 ≤ P ∧ P ≤ 70 := by omega
  have hw2 : IntKind.i64.wrap (P + (n : Int)) = P + (n : Int) := IntWalk.i64_in _ (by omega)
  have Hs := Lib.hid hs; clear hs
  go_enter Tryz.func235, Tryz.ntmps235
  go_wp2_with fail
  go_loopw [9, 10] (fun s i wr => ∃ k : Nat, k ≤ n + 1 ∧ i = .int .i64 (P + (k : Int)) ∧ s = .int .i64 (cntFr tol P set k : Nat) ∧ Below W.heap.size W wr) (fun _ i _ => (P + n + 1 - intOf i).toNat)
  case atStart => exact ⟨0, Nat.zero_le _, by simp [hw1], rfl, Below.refl _ _⟩
  case round =>
    obtain ⟨k, hk, rfl, rfl, hB⟩ := hrel
    have hzB := hB.size
    have hcf := cntFr_le tol P set k
    by_cases hkk : k < n + 1
    · have hst : cntFr tol P set (k + 1) = if freeB tol (P + k) set = true then cntFr tol P set k + 1 else cntFr tol P set k := rfl
      have hle : (P + (k : Int) ≤ P + (n : Int)) := by omega
      have hcl := isFree_any _ set (P + (k : Int)) tol wr (hV.below hB) Hs.out (by omega)
      have hw3 : IntKind.i64.wrap (P + (k : Int) + 1) = P + (k : Int) + 1 := IntWalk.i64_in _ (by omega)
      obtain ⟨cf, hcfe⟩ : ∃ cf, cntFr tol P set k = cf := ⟨_, rfl⟩
      rw [hcfe] at hst hcf ⊢
      have hw4 : IntKind.i64.wrap ((cf : Int) + 1) = (cf : Int) + 1 := IntWalk.i64_in _ (by omega)
      cases hf : freeB tol (P + (k : Int)) set
      · rw [hf] at hcl
        rw [if_neg (by rw [hf]; decide)] at hst
        have Hst := Lib.hid (And.intro hst (And.intro hcl hf)); clear hst hcl hf hcfe
        go_wp2_with fail
        refine Hst.out.2.1.mono ?_
        rintro e' w5 ⟨rfl, hb5⟩
        go_wp2_with fail
        go_roundw
        case rel => exact ⟨k + 1, by omega, by go_num, by rw [Hst.out.1], hB.trans (hb5.mono hzB)⟩
        case measure => simp [intOf]; omega
      · rw [hf] at hcl
        rw [if_pos hf] at hst
        have Hst := Lib.hid (And.intro hst (And.intro hcl hf)); clear hst hcl hf hcfe
        go_wp2_with fail
        refine Hst.out.2.1.mono ?_
        rintro e' w5 ⟨rfl, hb5⟩
        go_wp2_with fail
        go_roundw
        case rel => exact ⟨k + 1, by omega, by go_num, by rw [Hst.out.1]; go_num, hB.trans (hb5.mono hzB)⟩
        case measure => simp [intOf]; omega
    · obtain rfl : k = n + 1 := by omega
      have hle : ¬ (P + ((n + 1 : Nat) : Int) ≤ P + (n : Int)) := by omega
      go_wp2_with fail
      go_ret
      exact ⟨rfl, hB⟩
end Go.Proofs.YtmfgdoflddhngaaGreat

namespace Go.Proofs.YtmfgdoflddhngaaGreat
open Go.RowKit
set_option linter.unusedVariables false
set_option linter.unusedSimpArgs false

def freeFrom (tol p : Int) (set : List Int) (k : Nat) : Bool := (set.drop k).any fun d => decide (absI (p - 10 * d) ≤ tol)
theorem freeFrom_step {tol p : Int} {set : List Int} {k : Nat} (h : k < set.length) : freeFrom tol p set k = (decide (absI (p - 10 * geti set k) ≤ tol) || freeFrom tol p set (k + 1)) := by
  unfold freeFrom
  rw [List.drop_eq_getElem_cons h, List.any_cons, geti_eq h]
theorem l08Free_any {S : Nat → Prop} (v : Value) (set : List Int) (p tol : Int) (W : World) (h : V1 S W v set) (hs : Small set) (hp : 0 ≤ p ∧ p ≤ 100) :
    Calls Tryz.prog 293 #[v, .int .i64 p, .int .i64 tol] W fun e w' => e = .returned (.bool (freeB tol p set)) ∧ W = w' := by
  have hV := h
  obtain ⟨a, c, rfl, hm⟩ := h.form
  obtain ⟨r, hr⟩ : ∃ r, freeB tol p set = r := ⟨_, rfl⟩
  rw [hr]
  have Hr := Lib.hid (show freeFrom tol p set 0 = r from hr); clear hr
  have Hs := Lib.hid hs; clear hs
  go_enter Tryz.func293, Tryz.ntmps293
  go_wp2_with fail
  go_loop [7] (fun i => ∃ k : Nat, k ≤ set.length ∧ i = .int .i64 (k : Int) ∧ freeFrom tol p set k = r) (fun i => set.length - (intOf i).toNat)
  case atStart => exact ⟨0, Nat.zero_le _, rfl, Hr.out⟩
  case round =>
    obtain ⟨k, hk, rfl, hrem⟩ := hrel
    have Hrem := Lib.hid hrem; clear hrem
    by_cases hkk : k < set.length
    · obtain ⟨b1, off1, rfl, _, hc1⟩ := hV.cell hkk
      have hd := Hs.out _ (geti_mem hkk)
      have hst := freeFrom_step (tol := tol) (p := p) hkk
      obtain ⟨d, hde⟩ : ∃ d, geti set k = d := ⟨_, rfl⟩
      rw [hde] at hc1 hd hst
      have hw1 : IntKind.i64.wrap (10 * d) = 10 * d := IntWalk.i64_in _ (by omega)
      have hw2 : IntKind.i64.wrap (p - 10 * d) = p - 10 * d := IntWalk.i64_in _ (by omega)
      obtain ⟨q, hq⟩ : ∃ q, absI (p - 10 * d) = q := ⟨_, rfl⟩
      rw [hq] at hst
      by_cases hqt : q ≤ tol
      · have hfin : true = r := by rw [← Hrem.out, hst, decide_eq_true hqt]; rfl
        have Hq := Lib.hid (And.intro hq hst); clear hq hst hde
        subst hfin
        go_wp2_with (go_at_call 292; refine (l01Abs_b _ _ _ Hq.out.1 (by omega)).mono ?_; rintro e' w' ⟨rfl, rfl⟩)
        go_ret
        exact ⟨rfl, rfl⟩
      · have hrem2 : freeFrom tol p set (k + 1) = r := by rw [← Hrem.out, hst, decide_eq_false hqt]; rfl
        have Hq := Lib.hid (And.intro hq (And.intro hst hrem2)); clear hq hst hde hrem2
        go_wp2_with (go_at_call 292; refine (l01Abs_b _ _ _ Hq.out.1 (by omega)).mono ?_; rintro e' w' ⟨rfl, rfl⟩)
        go_round
        case rel => exact ⟨k + 1, by omega, by go_num, Hq.out.2.2⟩
        case measure => simp [intOf]; omega
    · obtain rfl : k = set.length := by omega
      have hfin : false = r := by rw [← Hrem.out]; unfold freeFrom; rw [List.drop_length]; rfl
      subst hfin
      go_wp2_with fail
      go_ret
      exact ⟨rfl, rfl⟩
def allTo (tol p : Int) (set : List Int) : Nat → Bool
  | 0 => true
  | n + 1 => allTo tol p set n && freeB tol (p + n) set
theorem l08Cut_any {S : Nat → Prop} (v : Value) (set : List Int) (cut wear tol : Int) (W : World) (h : V1 S W v set) (hs : Small set) (hc : 0 ≤ cut ∧ cut ≤ 7) (hw : 0 ≤ wear ∧ wear ≤ 19) :
    Calls Tryz.prog 237 #[v, .int .i64 cut, .int .i64 wear, .int .i64 tol] W fun e w' => e = .returned (.tuple #[.bool (someTo tol (10 * cut) set (wear.toNat + 1)), .bool (allTo tol (10 * cut) set (wear.toNat + 1))]) ∧ W = w' := by
  have hV := h
  obtain ⟨a, c, rfl, hm⟩ := h.form
  obtain ⟨n, rfl⟩ : ∃ n : Nat, wear = (n : Int) := ⟨wear.toNat, by omega⟩
  rw [Int.toNat_natCast]
  have hw1 : IntKind.i64.wrap (10 * cut) = 10 * cut := IntWalk.i64_in _ (by omega)
  obtain ⟨P, hP⟩ : ∃ P, 10 * cut = P := ⟨_, rfl⟩
  rw [hP] at hw1 ⊢
  have hP7 : 0 ≤ P ∧ P ≤ 70 := by omega
  have Hs := Lib.hid hs; clear hs
  go_enter Tryz.func237, Tryz.ntmps237
  go_wp2_with fail
  go_loop [10, 11, 12, 13] (fun so al i _ => ∃ k : Nat, k ≤ n + 1 ∧ i = .int .i64 (k : Int) ∧ so = .bool (someTo tol P set k) ∧ al = .bool (allTo tol P set k)) (fun _ _ i _ => (n + 1 - (intOf i).toNat))
  case atStart => exact ⟨0, Nat.zero_le _, rfl, rfl, rfl⟩
  case round =>
    obtain ⟨k, hk, rfl, rfl, rfl⟩ := hrel
    by_cases hkk : k < n + 1
    · have hst : someTo tol P set (k + 1) = (someTo tol P set k || freeB tol (P + k) set) := rfl
      have hst2 : allTo tol P set (k + 1) = (allTo tol P set k && freeB tol (P + k) set) := rfl
      have hle : ((k : Int) ≤ (n : Int)) := by omega
      have hw2 : IntKind.i64.wrap (P + (k : Int)) = P + (k : Int) := IntWalk.i64_in _ (by omega)
      have hcl := l08Free_any _ set (P + (k : Int)) tol W hV Hs.out (by omega)
      obtain ⟨f, hf⟩ : ∃ f, freeB tol (P + (k : Int)) set = f := ⟨_, rfl⟩
      obtain ⟨s, hse⟩ : ∃ s, someTo tol P set k = s := ⟨_, rfl⟩
      obtain ⟨b, hbe⟩ : ∃ b, allTo tol P set k = b := ⟨_, rfl⟩
      rw [hf] at hcl hst hst2
      rw [hse] at hst ⊢
      rw [hbe] at hst2 ⊢
      have Hst := Lib.hid (And.intro hst (And.intro hcl (And.intro hst2 (And.intro hse (And.intro hbe hf))))); clear hst hcl hf hse hst2 hbe
      cases s <;> cases b <;> cases f <;> (
        go_wp2_with (go_at_call 293; refine Hst.out.2.1.mono ?_; rintro e' w' ⟨rfl, rfl⟩)
        go_round
        case rel => exact ⟨k + 1, by omega, by go_num, by rw [Hst.out.1]; rfl, by rw [Hst.out.2.2.1]; rfl⟩
        case measure => simp [intOf]; omega)
    · obtain rfl : k = n + 1 := by omega
      have hle : ¬ (((n + 1 : Nat) : Int) ≤ (n : Int)) := by omega
      go_wp2_with fail
      go_ret2
      exact ⟨rfl, rfl⟩
/-- A key with wear may open a lock, and surely opens it, seen as far as cut k. -/
def mayTo (wear tol : Int) (l : List (List Int)) (key : List Int) : Nat → Bool
  | 0 => true
  | k + 1 => mayTo wear tol l key k && someTo tol (10 * geti key k) (getl l k) (wear.toNat + 1)
def sureTo (wear tol : Int) (l : List (List Int)) (key : List Int) : Nat → Bool
  | 0 => true
  | k + 1 => sureTo wear tol l key k && allTo tol (10 * geti key k) (getl l k) (wear.toNat + 1)
theorem three_at {b0 b1 b2 o1 o2 : Nat} {c0 c1 c2 : Value} {w w' : World} (h : w.cell? ⟨b0, 0, none⟩ = some c0 ∧ w.cell? ⟨b1, o1, none⟩ = some c1 ∧ w.cell? ⟨b2, o2, none⟩ = some c2 ∧ True) (hb : Below w.heap.size w w') : w'.cell? ⟨b0, 0, none⟩ = some c0 ∧ w'.cell? ⟨b1, o1, none⟩ = some c1 ∧ w'.cell? ⟨b2, o2, none⟩ = some c2 :=
  ⟨cell_keep h.1 (hb.block _ (lt_of_cell h.1)), cell_keep h.2.1 (hb.block _ (lt_of_cell h.2.1)), cell_keep h.2.2.1 (hb.block _ (lt_of_cell h.2.2.1))⟩
set_option maxRecDepth 100000 in
set_option maxHeartbeats 1000000 in
theorem l08Key_any {S S' : Nat → Prop} (u kv : Value) (l : List (List Int)) (key : List Int) (wear tol : Int) (W : World) (h : V2 S W u l) (hk : V1 S' W kv key) (hl : key.length ≤ l.length) (hs : ∀ i, Small (getl l i)) (hc : ∀ i, i < key.length → 0 ≤ geti key i ∧ geti key i ≤ 7) (hw : 0 ≤ wear ∧ wear ≤ 19) :
    Calls Tryz.prog 131 #[.agg #[u], kv, .int .i64 wear, .int .i64 tol] W fun e w' => e = .returned (.tuple #[.bool (mayTo wear tol l key key.length), .bool (sureTo wear tol l key key.length)]) ∧ Below W.heap.size W w' := by
  obtain ⟨a, c, rfl, hmx⟩ := h.form
  obtain ⟨ka, kc, rfl, hkx⟩ := hk.form
  obtain ⟨W1, hW1, hB1, hz1, HZ1, hc1, hh1⟩ := box_facts W #[.slice a l.length c] 117
  have h1 := h.below hB1
  have hk1 := hk.below hB1
  have hcL : W1.cell? ⟨W.heap.size, 0, none⟩ = some (.slice a l.length c) := by rw [hc1]; rfl
  have Hs := Lib.hid (And.intro hs hc); clear hs hc
  clear hh1 hc1
  go_enter Tryz.func131, Tryz.ntmps131
  go_wp2_with fail
  rw [← hW1]
  have HW1 := Lib.hid hW1; clear hW1
  go_loopw [10, 11, 12, 13, 14] (fun so al i _ _ wr => ∃ k : Nat, k ≤ key.length ∧ i = .int .i64 (k : Int) ∧ so = .bool (mayTo wear tol l key k) ∧ al = .bool (sureTo wear tol l key k) ∧ Below W1.heap.size W1 wr) (fun _ _ i _ _ _ => (key.length - (intOf i).toNat))
  case atStart => exact ⟨0, Nat.zero_le _, rfl, rfl, rfl, Below.refl _ _⟩
  case round =>
    obtain ⟨k, hk, rfl, rfl, rfl, hB⟩ := hrel
    have hzr := hB.size
    by_cases hkk : k < key.length
    · obtain ⟨b1, off1, rfl, _, hck⟩ := (hk1.below hB).cell hkk
      obtain ⟨b2, off2, a2, c2, rfl, _, hc2, hr2⟩ := (h1.below hB).cell (k := k) (by omega)
      have hx := Hs.out.2 k hkk
      have hst : mayTo wear tol l key (k + 1) = (mayTo wear tol l key k && someTo tol (10 * geti key k) (getl l k) (wear.toNat + 1)) := rfl
      have hst2 : sureTo wear tol l key (k + 1) = (sureTo wear tol l key k && allTo tol (10 * geti key k) (getl l k) (wear.toNat + 1)) := rfl
      have hcl := fun w (h : V1 S w (.slice a2 (getl l k).length c2) (getl l k)) => l08Cut_any _ (getl l k) (geti key k) wear tol w h (Hs.out.1 k) hx hw
      obtain ⟨x, hxe⟩ : ∃ x, geti key k = x := ⟨_, rfl⟩
      rw [hxe] at hcl hck hst hst2
      obtain ⟨p, hp⟩ : ∃ p, someTo tol (10 * x) (getl l k) (wear.toNat + 1) = p := ⟨_, rfl⟩
      obtain ⟨q, hq⟩ : ∃ q, allTo tol (10 * x) (getl l k) (wear.toNat + 1) = q := ⟨_, rfl⟩
      obtain ⟨s, hse⟩ : ∃ s, mayTo wear tol l key k = s := ⟨_, rfl⟩
      obtain ⟨b, hbe⟩ : ∃ b, sureTo wear tol l key k = b := ⟨_, rfl⟩
      rw [hp, hq] at hcl
      rw [hp, hse] at hst
      rw [hq, hbe] at hst2
      rw [hse, hbe]
      have hcLr := cell_keep hcL (hB.block _ (lt_of_cell hcL))
      have hS := And.intro hcLr (And.intro hc2 (And.intro hck True.intro))
      have Hst := Lib.hid (And.intro hst (And.intro hst2 hcl)); clear hst hst2 hcl hp hq hse hbe hxe
      have hkl : (k : Int) < (l.length : Int) := by omega
      have hkk2 : (k : Int) < (key.length : Int) := by omega
      have hk0 : (0 : Int) ≤ (k : Int) := by omega
      cases s <;> cases b <;> cases p <;> cases q <;> (
        go_wp2_with fail
        go_region_held3 (fun w' => w'.cell? ⟨W.heap.size, 0, none⟩ = some (.slice (some ⟨b2, off2, none⟩) l.length c) ∧ w'.cell? ⟨b2, off2 + k, none⟩ = some (.slice a2 (getl l k).length c2) ∧ w'.cell? ⟨b1, off1 + k, none⟩ = some (.int .i64 x)) (first | exact three_at hS (Below.refl _ _).drew | assumption) (first | (go_at_call 237; refine (Hst.out.2.2 _ (hr2.below (Below.refl _ _).drew)).mono ?_; rintro e' w' ⟨rfl, rfl⟩))
        go_wp2_with fail
        go_roundw
        case rel => exact ⟨k + 1, by omega, by go_num, by rw [Hst.out.1]; rfl, by rw [Hst.out.2.1]; rfl, hB.trans ((Below.refl _ _).drew.mono hzr)⟩
        case measure => simp [intOf]; omega)
    · obtain rfl : k = key.length := by omega
      go_wp2_with fail
      go_ret2
      exact ⟨rfl, hB1.trans (hB.mono (by omega))⟩
end Go.Proofs.YtmfgdoflddhngaaGreat

namespace Go.Proofs.YtmfgdoflddhngaaGreat
open Go.RowKit
set_option linter.unusedVariables false
set_option linter.unusedSimpArgs false

theorem riseTo_set {s : List Int} {n : Int} (h1 : s.Pairwise (· < ·)) (h2 : ∀ x ∈ s, 0 ≤ x ∧ x < n) : ∀ k, k ≤ s.length → riseTo s n k = true
  | 0, _ => rfl
  | k + 1, h => by
    have ih := riseTo_set h1 h2 k (by omega)
    have hx := h2 _ (geti_mem (show k < s.length from h))
    unfold riseTo
    rw [ih, decide_eq_true hx.1, decide_eq_true hx.2]
    by_cases e : k = 0
    · simp [e]
    · have : geti s (k - 1) < geti s k := by
        rw [geti_eq (by omega), geti_eq (by omega)]
        exact List.pairwise_iff_getElem.1 h1 (k - 1) k (by omega) (by omega) (by omega)
      simp [this]
/-- A lock that fits a maker. -/
structure LockOk (m : Mk) (l : List (List Int)) : Prop where
  len : (l.length : Int) = m.c
  ne : ∀ i, i < l.length → (getl l i).length ≠ 0
  rise : ∀ i, i < l.length → riseB (getl l i) m.d = true
set_option maxRecDepth 100000 in
theorem isLock_ok {S : Nat → Prop} (m : Mk) (u : Value) (l : List (List Int)) (W : World) (h : V2 S W u l) (hl : LockOk m l) :
    Calls Tryz.prog 289 #[.agg #[.int .i64 m.c, .int .i64 m.d, .int .i64 m.s, .int .i64 m.e, .int .i64 m.l], .agg #[u]] W fun e w' => e = .returned (.bool true) ∧ Below W.heap.size W w' := by
  obtain ⟨a, c, rfl, hmx⟩ := h.form
  obtain ⟨WA, hWA, hBA, hzA, HZA, hcA, hhA⟩ := box_facts W #[.int .i64 m.c, .int .i64 m.d, .int .i64 m.s, .int .i64 m.e, .int .i64 m.l] 25
  obtain ⟨W1, hW1, hB1, hz1', HZ1, hc1, hh1⟩ := box_facts WA #[.slice a l.length c] 117
  have hB01 : Below W.heap.size W W1 := hBA.trans (hB1.mono (by omega))
  have hcm : ∀ o, W1.cell? ⟨W.heap.size, o, none⟩ = (#[.int .i64 m.c, .int .i64 m.d, .int .i64 m.s, .int .i64 m.e, .int .i64 m.l] : Array Value)[o]? := fun o => by rw [(bcell hB1).1 _ _ hzA, hcA]
  rw [HZA.out] at hc1
  have hcl : W1.cell? ⟨W.heap.size + 1, 0, none⟩ = some (.slice a l.length c) := by rw [hc1]; rfl
  have h1 := h.below hB01
  have hlc : ((l.length : Int) == m.c) = true := by simp [hl.len]
  have Hl := Lib.hid hl; clear hl hhA hh1 hc1 hcA
  go_enter Tryz.func289, Tryz.ntmps289
  go_wp2_with fail
  rw [← hWA, ← hW1]
  have HW := Lib.hid (And.intro hWA hW1); clear hWA hW1
  go_wp2_with fail
  go_loop [6, 10] (fun _ i => ∃ k : Nat, k ≤ l.length ∧ i = .int .i64 (k : Int)) (fun _ i => (l.length - (intOf i).toNat))
  case atStart => exact ⟨0, Nat.zero_le _, rfl⟩
  case round =>
    obtain ⟨k, hk, rfl⟩ := hrel
    by_cases hkk : k < l.length
    · obtain ⟨b2, off2, a2, c2, rfl, _, hc2, hr2⟩ := h1.cell hkk
      have hne := Hl.out.ne k hkk
      have hne2 : (((getl l k).length : Int) == 0) = false := by simp; intro e; exact hne (by rw [e]; rfl)
      have hri := IsRising_any _ (getl l k) m.d W1 hr2
      rw [Hl.out.rise k hkk] at hri
      have Hri := Lib.hid hri; clear hri
      go_wp2_with (go_at_call 183; refine Hri.out.mono ?_; rintro e' w' ⟨rfl, rfl⟩)
      go_round
      case rel => exact ⟨k + 1, by omega, by go_num⟩
      case measure => simp [intOf]; omega
    · obtain rfl : k = l.length := by omega
      go_wp2_with fail
      go_ret
      exact ⟨rfl, hB01⟩
end Go.Proofs.YtmfgdoflddhngaaGreat

namespace Go.Proofs.YtmfgdoflddhngaaGreat
open Go.RowKit
set_option linter.unusedVariables false
set_option linter.unusedSimpArgs false

set_option maxRecDepth 100000 in
theorem locksCode_ok {S : Nat → Prop} (m : Mk) (hm : m.ok = true) (v : Value) (ls : List (List (List Int))) (W : World) (h : V3 S W v ls) (hl : ∀ k, k < ls.length → LockOk m (getll ls k)) :
    Calls Tryz.prog 233 #[.agg #[.int .i64 m.c, .int .i64 m.d, .int .i64 m.s, .int .i64 m.e, .int .i64 m.l], v] W fun e w' => e = .returned (.int .i64 0) ∧ Below W.heap.size W w' := by
  obtain ⟨a, c, rfl, hmx⟩ := h.form
  obtain ⟨W1, hW1, hB1, hz1, HZ1, hc1, hh1⟩ := box_facts W #[.int .i64 m.c, .int .i64 m.d, .int .i64 m.s, .int .i64 m.e, .int .i64 m.l] 25
  have h1 := h.below hB1
  have hmk := isMaker_any m.c m.d m.s m.e m.l W1
  rw [show isMk m.c m.d m.s m.e m.l = true from hm] at hmk
  have Hl := Lib.hid (And.intro hl hmk); clear hl hmk hm hh1
  go_enter Tryz.func233, Tryz.ntmps233
  go_wp2_with fail
  rw [← hW1]
  refine Hl.out.2.mono ?_
  rintro e' w2 ⟨rfl, hb2⟩
  have hz2 := hb2.size
  have Hc1 := Lib.hid hc1; clear hc1
  go_wp2_with fail
  go_loopw [6, 12] (fun _ i wr => ∃ k : Nat, k ≤ ls.length ∧ i = .int .i64 (k : Int) ∧ Below W1.heap.size W1 wr) (fun _ i _ => (ls.length - (intOf i).toNat))
  case atStart => exact ⟨0, Nat.zero_le _, rfl, hb2⟩
  case round =>
    obtain ⟨k, hk, rfl, hB⟩ := hrel
    have hzr := hB.size
    by_cases hkk : k < ls.length
    · obtain ⟨b2, off2, a2, c2, rfl, _, hc2, hr2⟩ := (h1.below hB).cell hkk
      have hxr : ∀ o o1, (wr.alloc o1).cell? ⟨W.heap.size, o, none⟩ = (#[.int .i64 m.c, .int .i64 m.d, .int .i64 m.s, .int .i64 m.e, .int .i64 m.l] : Array Value)[o]? := fun o o1 => by
        rw [(bcell ((Below.refl wr.heap.size wr).alloc (Nat.le_refl _) o1)).1 _ _ (by omega), (bcell hB).1 _ _ hz1, Hc1.out]
      have hb5 : Below wr.heap.size wr (wr.alloc (.cells #[.slice a2 (getll ls k).length c2] 117)) := (Below.refl _ _).alloc (Nat.le_refl _) _
      have hlk := isLock_ok m _ (getll ls k) _ (hr2.below hb5) (Hl.out.1 k hkk)
      have Hlk := Lib.hid hlk; clear hlk
      go_wp2_with fail
      refine Hlk.out.mono ?_
      rintro e' w5 ⟨rfl, hb6⟩
      have hb56 := hB.trans ((hb5.trans (hb6.mono hb5.size)).mono hzr)
      clear hxr
      go_wp2_with fail
      go_roundw
      case rel => exact ⟨k + 1, by omega, by go_num, hb56⟩
      case measure => simp [intOf]; omega
    · obtain rfl : k = ls.length := by omega
      go_wp2_with fail
      go_ret
      exact ⟨rfl, hB1.trans (hB.mono (by omega))⟩
/-- A row of one key. -/
theorem V2.one {S : Nat → Prop} {w : World} {b : Nat} {v : Value} {T : TypeId} {l : List Int} (h : w.heap[b]? = some (.cells #[v] T (0, 0))) (hv : V1 S w v l) (hb : S b) : V2 S w (.slice (some ⟨b, 0, none⟩) 1 1) [l] :=
  ⟨some ⟨b, 0, none⟩, 1, rfl, Nat.le_refl _, by unfold maxLen; omega, fun k hk => by
    obtain rfl : k = 0 := by simp at hk; exact hk
    exact ⟨b, 0, v, rfl, hb, cell_of_block h 0, hv⟩⟩
theorem V3.one {S : Nat → Prop} {w : World} {b : Nat} {v : Value} {T : TypeId} {l : List (List Int)} (h : w.heap[b]? = some (.cells #[v] T (0, 0))) (hv : V2 S w v l) (hb : S b) : V3 S w (.slice (some ⟨b, 0, none⟩) 1 1) [l] :=
  ⟨some ⟨b, 0, none⟩, 1, rfl, Nat.le_refl _, by unfold maxLen; omega, fun k hk => by
    obtain rfl : k = 0 := by simp at hk; exact hk
    exact ⟨b, 0, v, rfl, hb, cell_of_block h 0, hv⟩⟩
set_option maxRecDepth 100000 in
theorem keysCode_any {S : Nat → Prop} (m : Mk) (hm : m.ok = true) (v : Value) (key : List Int) (W : World) (h : V2 S W v [key]) :
    Calls Tryz.prog 204 #[.agg #[.int .i64 m.c, .int .i64 m.d, .int .i64 m.s, .int .i64 m.e, .int .i64 m.l], v] W fun e w' => e = .returned (.int .i64 (if isKeyB m key = true then 0 else 2)) ∧ Below W.heap.size W w' := by
  obtain ⟨a, c, rfl, hmx⟩ := h.form
  obtain ⟨W1, hW1, hB1, hz1, HZ1, hc1, hh1⟩ := box_facts W #[.int .i64 m.c, .int .i64 m.d, .int .i64 m.s, .int .i64 m.e, .int .i64 m.l] 25
  have h1 := h.below hB1
  have hmk := isMaker_any m.c m.d m.s m.e m.l W1
  rw [show isMk m.c m.d m.s m.e m.l = true from hm] at hmk
  obtain ⟨r, hr⟩ : ∃ r, isKeyB m key = r := ⟨_, rfl⟩
  rw [hr]
  have Hl := Lib.hid (And.intro hr (And.intro hmk hm)); clear hr hmk hm hh1
  go_enter Tryz.func204, Tryz.ntmps204
  go_wp2_with fail
  rw [← hW1]
  refine Hl.out.2.1.mono ?_
  rintro e' w2 ⟨rfl, hb2⟩
  have hz2 := hb2.size
  have Hc1 := Lib.hid hc1; clear hc1
  go_wp2_with fail
  go_loopw [6, 12] (fun _ i wr => ∃ k : Nat, k ≤ 1 ∧ (k = 1 → r = true) ∧ i = .int .i64 (k : Int) ∧ Below W1.heap.size W1 wr) (fun _ i _ => (1 - (intOf i).toNat))
  case atStart => exact ⟨0, Nat.zero_le _, fun h => by omega, rfl, hb2⟩
  case round =>
    obtain ⟨k, hk, hkr, rfl, hB⟩ := hrel
    have hzr := hB.size
    by_cases hkk : k = 0
    · subst hkk
      obtain ⟨b2, off2, a2, c2, rfl, _, hc2, hr2⟩ := (h1.below hB).cell (k := 0) (by simp)
      have hr2' : V1 S wr (.slice a2 key.length c2) key := hr2
      have hc2' : wr.cell? ⟨b2, off2, none⟩ = some (.slice a2 key.length c2) := hc2
      have hxr : ∀ o, wr.cell? ⟨W.heap.size, o, none⟩ = (#[.int .i64 m.c, .int .i64 m.d, .int .i64 m.s, .int .i64 m.e, .int .i64 m.l] : Array Value)[o]? := fun o => by rw [(bcell hB).1 _ _ hz1, Hc1.out]
      have hlk := isKey_b m _ key wr r Hl.out.1 Hl.out.2.2 hr2'
      have Hlk := Lib.hid hlk; clear hlk hc2 hr2 hkr
      cases r
      · go_wp2_with fail
        refine Hlk.out.mono ?_
        rintro e' w5 ⟨rfl, hb6⟩
        clear hxr
        go_wp2_with fail
        go_ret
        exact ⟨rfl, hB1.trans ((hB.trans (hb6.mono hzr)).mono (by omega))⟩
      · go_wp2_with fail
        refine Hlk.out.mono ?_
        rintro e' w5 ⟨rfl, hb6⟩
        clear hxr
        go_wp2_with fail
        go_roundw
        case rel => exact ⟨1, Nat.le_refl _, by simp, by go_num, hB.trans (hb6.mono hzr)⟩
        case measure => simp [intOf]
    · obtain rfl : k = 1 := by omega
      have hrt := hkr rfl
      subst hrt
      go_wp2_with fail
      go_ret
      exact ⟨rfl, hB1.trans (hB.mono (by omega))⟩
set_option maxRecDepth 100000 in
set_option maxHeartbeats 2000000 in
theorem wearCode_any {S S' : Nat → Prop} (m : Mk) (hm : m.ok = true) (lv v : Value) (ls : List (List (List Int))) (key : List Int) (wear tol : Int) (W : World) (hl : V3 S W lv ls) (hlk : ∀ k, k < ls.length → LockOk m (getll ls k)) (h : V2 S' W v [key]) :
    Calls Tryz.prog 125 #[.agg #[.int .i64 m.c, .int .i64 m.d, .int .i64 m.s, .int .i64 m.e, .int .i64 m.l], lv, v, .int .i64 wear, .int .i64 tol] W fun e w' => e = .returned (.int .i64 (if (inB wear 0 19 && inB tol 0 4 && isKeyB m key) = true then 0 else 2)) ∧ Below W.heap.size W w' := by
  obtain ⟨a, c, rfl, hmx⟩ := h.form
  obtain ⟨la, lc, rfl, hlx⟩ := hl.form
  obtain ⟨W1, hW1, hB1, hz1, HZ1, hc1, hh1⟩ := box_facts W #[.int .i64 m.c, .int .i64 m.d, .int .i64 m.s, .int .i64 m.e, .int .i64 m.l] 25
  have h1 := h.below hB1
  have hcl := locksCode_ok m hm _ ls W1 (hl.below hB1) hlk
  have hks := fun w (hb : Below W1.heap.size W1 w) => keysCode_any m hm _ key w (h1.below hb)
  obtain ⟨x, hx⟩ : ∃ x, inB wear 0 19 = x := ⟨_, rfl⟩
  obtain ⟨y, hy⟩ : ∃ y, inB tol 0 4 = y := ⟨_, rfl⟩
  obtain ⟨z, hz⟩ : ∃ z, isKeyB m key = z := ⟨_, rfl⟩
  simp only [hz] at hks
  rw [hx, hy, hz]
  have Hl := Lib.hid (And.intro hcl (And.intro hks (And.intro hx (And.intro hy hz)))); clear hcl hks hx hy hz hh1
  cases x <;> cases y <;> cases z <;> (
    go_enter Tryz.func125, Tryz.ntmps125
    go_wp2_with fail
    rw [← hW1]
    refine Hl.out.1.mono ?_
    rintro e' w2 ⟨rfl, hb2⟩
    have hz2 := hb2.size
    have hx2 : ∀ o, w2.cell? ⟨W.heap.size, o, none⟩ = (#[.int .i64 m.c, .int .i64 m.d, .int .i64 m.s, .int .i64 m.e, .int .i64 m.l] : Array Value)[o]? := fun o => by rw [(bcell hb2).1 _ _ hz1, hc1]
    clear hc1
    go_wp2_with (first | (go_at_call 120; refine (within_any _ _ _ _).mono ?_; rintro e' w' ⟨rfl, rfl⟩; first | rw [Hl.out.2.2.1] | rw [Hl.out.2.2.2.1]) | (go_at_call 204; refine (Hl.out.2.1 _ hb2).mono ?_; rintro e' w' ⟨rfl, hb5⟩))
    go_ret
    first
      | exact ⟨rfl, hB1.trans (hb2.mono (by omega))⟩
      | exact ⟨rfl, hB1.trans ((hb2.trans (hb5.mono hz2)).mono (by omega))⟩)
end Go.Proofs.YtmfgdoflddhngaaGreat

namespace Go.Proofs.YtmfgdoflddhngaaGreat
open Go.RowKit
set_option linter.unusedVariables false
set_option linter.unusedSimpArgs false

theorem mayTo_false {wear tol : Int} {l : List (List Int)} {key : List Int} {k : Nat} (h : mayTo wear tol l key (k + 1) = false) : ∀ {n}, k < n → mayTo wear tol l key n = false
  | 0, hk => by omega
  | n + 1, hk => by
    by_cases e : k = n
    · subst e; exact h
    · unfold mayTo; rw [mayTo_false h (by omega), Bool.false_and]
set_option maxRecDepth 100000 in
set_option maxHeartbeats 1000000 in
theorem MayOpen_any {S S' : Nat → Prop} (m : Mk) (hm : m.ok = true) (u kv : Value) (l : List (List Int)) (key : List Int) (wear tol : Int) (W : World) (h : V2 S W u l) (hk : V1 S' W kv key) (hl : LockOk m l) (hs : ∀ i, Small (getl l i)) (hkey : isKeyB m key = true) (hw : inB wear 0 19 = true) (ht : inB tol 0 4 = true) :
    Calls Tryz.prog 127 #[.agg #[.int .i64 m.c, .int .i64 m.d, .int .i64 m.s, .int .i64 m.e, .int .i64 m.l], .agg #[u], kv, .int .i64 wear, .int .i64 tol] W fun e w' => e = .returned (.tuple #[.bool (mayTo wear tol l key key.length), .int .i64 0]) ∧ Below W.heap.size W w' := by
  obtain ⟨r, hr⟩ : ∃ r, mayTo wear tol l key key.length = r := ⟨_, rfl⟩
  rw [hr]
  have Hr := Lib.hid hr; clear hr
  obtain ⟨a, c, rfl, hmx⟩ := h.form
  obtain ⟨ka, kc, rfl, hkx⟩ := hk.form
  have hki := isKey_iff.1 hkey
  have hmk := Mk.ok_iff.1 hm
  have hlk : key.length ≤ l.length := by have := hl.len; omega
  have hrg : ∀ i, i < key.length → 0 ≤ geti key i ∧ geti key i ≤ 7 := fun i hi => by have := hki.2.1 _ (geti_mem hi); omega
  have hw9 := inB_iff.1 hw
  obtain ⟨WA, hWA, hBA, hzA, HZA, hcA, hhA⟩ := box_facts W #[.int .i64 m.c, .int .i64 m.d, .int .i64 m.s, .int .i64 m.e, .int .i64 m.l] 25
  obtain ⟨W1, hW1, hB1, hz1', HZ1, hc1, hh1⟩ := box_facts WA #[.slice a l.length c] 117
  obtain ⟨W2, hW2, hB2, hz2', HZ2, hc2, hh2⟩ := box_facts W1 #[.slice a l.length c] 117
  obtain ⟨W3, hW3, hB3, hz3', HZ3, hc3, hh3⟩ := box_facts W2 #[.slice ka key.length kc] 46
  have hB01 : Below W.heap.size W W1 := hBA.trans (hB1.mono (by omega))
  have hB02 : Below W.heap.size W W2 := hB01.trans (hB2.mono (by omega))
  have hB03 : Below W.heap.size W W3 := hB02.trans (hB3.mono (by omega))
  rw [HZA.out] at hc1
  have hcl : W3.cell? ⟨W.heap.size + 1, 0, none⟩ = some (.slice a l.length c) := by
    have := HZA.out
    rw [(bcell hB3).1 _ _ (by omega), (bcell hB2).1 _ _ (by omega), hc1]; rfl
  have h3 := h.below hB03
  have hk3 := hk.below hB03
  have hV3 : V3 (fun _ => True) W3 (.slice (some ⟨W1.heap.size, 0, none⟩) 1 1) [l] := V3.one (heap_below hh2 hB3 (by omega)) h3.any trivial
  have hV2 : V2 (fun _ => True) W3 (.slice (some ⟨W2.heap.size, 0, none⟩) 1 1) [key] := V2.one hh3 hk3.any trivial
  have hwc := wearCode_any m hm _ _ [l] key wear tol W3 hV3 (fun k hk => by
    obtain rfl : k = 0 := by simp at hk; exact hk
    exact hl) hV2
  rw [if_pos (by rw [hw, ht, hkey]; rfl)] at hwc
  rw [HZ2.out, HZ1.out, HZA.out] at hwc
  have Hl := Lib.hid (And.intro hwc (And.intro hrg (And.intro hs HZ1.out))); clear hwc hrg hs hl hhA hh1 hh2 hh3 hc1 hc2 hc3 hcA hV3 hV2 hki hkey hw ht
  go_enter Tryz.func127, Tryz.ntmps127
  go_wp2_with fail
  rw [← hWA, ← hW1, ← hW2, ← hW3]
  have HW := Lib.hid (And.intro hWA (And.intro hW1 (And.intro hW2 hW3))); clear hWA hW1 hW2 hW3
  refine Hl.out.1.mono ?_
  rintro e' w2 ⟨rfl, hb2⟩
  have hz3 := hb2.size
  have hclw := cell_keep hcl (hb2.block _ (lt_of_cell hcl))
  go_wp2_with fail
  go_loopw [13, 14, 28] (fun _ _ i wr => ∃ k : Nat, k ≤ key.length ∧ i = .int .i64 (k : Int) ∧ mayTo wear tol l key k = true ∧ Below W3.heap.size W3 wr) (fun _ _ i _ => (key.length - (intOf i).toNat))
  case atStart => exact ⟨0, Nat.zero_le _, rfl, rfl, hb2⟩
  case round =>
    obtain ⟨k, hk, rfl, hmt, hB⟩ := hrel
    have hzr := hB.size
    by_cases hkk : k < key.length
    · obtain ⟨b1, off1, rfl, _, hck⟩ := (hk3.below hB).cell hkk
      obtain ⟨b2, off2, a2, c2, rfl, _, hc2, hr2⟩ := (h3.below hB).cell (k := k) (by omega)
      have hclr := cell_keep hcl (hB.block _ (lt_of_cell hcl))
      have hx := Hl.out.2.1 k hkk
      have hst : mayTo wear tol l key (k + 1) = (mayTo wear tol l key k && someTo tol (10 * geti key k) (getl l k) (wear.toNat + 1)) := rfl
      rw [hmt, Bool.true_and] at hst
      have hfp := freePlaces_any _ (getl l k) (geti key k) wear tol wr hr2 (Hl.out.2.2.1 k) hx hw9
      have hcs := cntFr_some tol (10 * geti key k) (getl l k) (wear.toNat + 1)
      obtain ⟨x, hxe⟩ : ∃ x, geti key k = x := ⟨_, rfl⟩
      rw [hxe] at hfp hck hst hcs
      obtain ⟨n, hn⟩ : ∃ n, cntFr tol (10 * x) (getl l k) (wear.toNat + 1) = n := ⟨_, rfl⟩
      rw [hn] at hfp hcs
      have hk0 : (0 : Int) ≤ (k : Int) := by omega
      have hkl : (k : Int) < (l.length : Int) := by omega
      have hkk2 : (k : Int) < (key.length : Int) := by omega
      by_cases hn0 : n = 0
      · subst hn0
        have hfin : mayTo wear tol l key key.length = false := mayTo_false (k := k) (by rw [hst, ← hcs]) hkk
        have Hst := Lib.hid (And.intro hfp (And.intro hfin (And.intro hst hcs))); clear hfp hfin hst hcs hn hxe hmt
        have hrf : r = false := by rw [← Hr.out]; exact Hst.out.2.1
        subst hrf
        go_wp2_with fail
        refine Hst.out.1.mono ?_
        rintro e' w5 ⟨rfl, hb5⟩
        clear hc2 hr2
        go_wp2_with fail
        go_ret2
        exact ⟨rfl, hB03.trans ((hB.trans (hb5.mono hzr)).mono (by omega))⟩
      · have hne : ((n : Int) == 0) = false := by simp [hn0]
        have hmt2 : mayTo wear tol l key (k + 1) = true := by
          rw [hst]
          cases hs : someTo tol (10 * x) (getl l k) (wear.toNat + 1)
          · exact absurd (hcs.2 hs) hn0
          · rfl
        have Hst := Lib.hid (And.intro hfp (And.intro hmt2 (And.intro hst hcs))); clear hfp hmt2 hst hcs hn hxe hmt
        go_wp2_with fail
        refine Hst.out.1.mono ?_
        rintro e' w5 ⟨rfl, hb5⟩
        clear hc2 hr2
        go_wp2_with fail
        go_roundw
        case rel => exact ⟨k + 1, by omega, by go_num, Hst.out.2.1, hB.trans (hb5.mono hzr)⟩
        case measure => simp [intOf]; omega
    · obtain rfl : k = key.length := by omega
      have hrt : r = true := by rw [← Hr.out]; exact hmt
      subst hrt
      clear hmt
      go_wp2_with fail
      go_ret2
      exact ⟨rfl, hB03.trans (hB.mono (by omega))⟩
end Go.Proofs.YtmfgdoflddhngaaGreat

namespace Go.Proofs.YtmfgdoflddhngaaGreat
open Go.RowKit
set_option linter.unusedVariables false
set_option linter.unusedSimpArgs false

theorem lock_ok {m : Mk} {t cuts : List (List Int)} {d : Nat} (hp : designC m t cuts = 0) (hd : d < (getl t 0).length) : LockOk m (lockR m.c.toNat t cuts d) := by
  have hf := (design_fits hp).1
  have hct := (design_fits hp).2
  have hmc := mc_nat hf.ok
  have hs := lock_sets (n := m.c.toNat) (d := d) hf hmc
  have hlen : (lockR m.c.toNat t cuts d).length = m.c.toNat := by rw [lockR, hullR_len]
  have hsys := (cutC_ok.1 (designC_ok hp).1).1
  have hopen := upAll_iff.1 (isSys_parts hsys).2.2 d hd
  obtain ⟨i0, hi0, hg⟩ := doorTo_iff.1 hopen
  have hmem : getl cuts i0 ∈ doorCuts t cuts d cuts.length := by
    rw [doorCuts_map, List.mem_map]
    exact ⟨(i0 : Int), mem_rowsF.2 ⟨i0, by omega, rfl, hg⟩, by simp⟩
  refine ⟨by omega, fun i hi => ?_, fun i hi => riseTo_set (hs i).1 (hs i).2 _ (Nat.le_refl _)⟩
  intro e
  have h0 : geti (getl cuts i0) i ∈ getl (lockR m.c.toNat t cuts d) i := by
    rw [lockR, hullR_get (by omega), (diffI_sort _).2, colOf, List.mem_map]
    exact ⟨_, hmem, rfl⟩
  rw [List.eq_nil_of_length_eq_zero e] at h0
  cases h0
/-- The doors among the first k that a worn key may open. -/
def wornTo (wear tol : Int) (locks : List (List (List Int))) (key : List Int) : Nat → List Int
  | 0 => []
  | k + 1 => if mayTo wear tol (getll locks k) key key.length = true then wornTo wear tol locks key k ++ [(k : Int)] else wornTo wear tol locks key k
theorem wornTo_len (wear tol : Int) (locks : List (List (List Int))) (key : List Int) : ∀ k, (wornTo wear tol locks key k).length ≤ k
  | 0 => Nat.le_refl _
  | k + 1 => by have := wornTo_len wear tol locks key k; unfold wornTo; split <;> simp <;> omega
def wornOk (m : Mk) (key : List Int) (wear tol : Int) : Bool := inB wear 0 19 && inB tol 0 4 && isKeyB m key
def wornAns (m : Mk) (t cuts : List (List Int)) (key : List Int) (wear tol : Int) : List Int × Int :=
  if designC m t cuts ≠ 0 then ([], designC m t cuts) else if wornOk m key wear tol = false then ([], 2) else (wornTo wear tol (locksTo m.c.toNat t cuts (getl t 0).length) key (getl t 0).length, 0)
theorem wornAns_len (m : Mk) (t cuts : List (List Int)) (key : List Int) (wear tol : Int) : (wornAns m t cuts key wear tol).1.length ≤ 1048576 := by
  unfold wornAns
  split
  · simp
  · rename_i hp
    have := (design_fits (Classical.not_not.1 hp)).1.doors
    split
    · simp
    · have h2 := wornTo_len wear tol (locksTo m.c.toNat t cuts (getl t 0).length) key (getl t 0).length
      show (wornTo _ _ _ _ _).length ≤ _
      omega
theorem F1.nil3 {B : Nat} {w : World} : F1 B w (.slice none 0 0) [] := ⟨0, ⟨none, 0, rfl, Nat.le_refl _, Nat.zero_le _, fun hn => absurd rfl hn⟩, fun hn => absurd rfl hn⟩
set_option maxRecDepth 100000 in
set_option maxHeartbeats 2000000 in
theorem WornDoors_any {S S' S2 : Nat → Prop} (m : Mk) (u v kv : Value) (t cuts : List (List Int)) (key : List Int) (wear tol : Int) (W : World) (h : V2 S W u t) (hc : V2 S' W v cuts) (hk : V1 S2 W kv key) :
    Calls Tryz.prog 29 #[.agg #[.int .i64 m.c, .int .i64 m.d, .int .i64 m.s, .int .i64 m.e, .int .i64 m.l, u], v, kv, .int .i64 wear, .int .i64 tol] W fun e' w' => ∃ v', e' = .returned (.tuple #[v', .int .i64 (wornAns m t cuts key wear tol).2]) ∧ F1 W.heap.size w' v' (wornAns m t cuts key wear tol).1 ∧ Below W.heap.size W w' := by
  obtain ⟨ka, kc, rfl, hkx⟩ := hk.form
  obtain ⟨a, c, rfl, hmx⟩ := h.form
  obtain ⟨a', c', rfl, hmx'⟩ := hc.form
  obtain ⟨W1, hW1, hB01, hz01, HZ01, hc01, hh01⟩ := box_facts W #[.int .i64 m.c, .int .i64 m.d, .int .i64 m.s, .int .i64 m.e, .int .i64 m.l, .slice a t.length c] 28
  have hV1 := (h.below hB01).any
  have hC1 := (hc.below hB01).any
  have hcode := designCode_any m _ _ t cuts W1 hV1 hC1
  by_cases hp : designC m t cuts = 0
  · rw [hp] at hcode
    have hf := (design_fits hp).1
    have hmc := mc_nat hf.ok
    have hdoors := hf.doors
    have hkl := keysOf_length hf.ok
    have hol := outsOf_length cuts (keysOf m)
    obtain ⟨locks, hlocks⟩ : ∃ x, x = locksTo m.c.toNat t cuts (getl t 0).length := ⟨_, rfl⟩
    obtain ⟨D, hD⟩ : ∃ D, (getl t 0).length = D := ⟨_, rfl⟩
    have hll : locks.length = D := by rw [hlocks, locksTo_len, hD]
    have hK1 := (hk.below hB01).any
    have hlok : ∀ k, k < locks.length → LockOk m (getll locks k) := fun k hk => by
      rw [hlocks, locksTo_get (by rw [hll] at hk; omega)]; exact lock_ok hp (by rw [hll] at hk; omega)
    have hsm : ∀ k, k < locks.length → ∀ i, Small (getl (getll locks k) i) := fun k hk i x hx => by
      rw [hlocks, locksTo_get (by rw [hll] at hk; omega)] at hx
      have := (lock_sets (n := m.c.toNat) (d := k) hf hmc i).2 x hx
      have := (Mk.ok_iff.1 hf.ok).2.1
      omega
    have hpl := partLocks_any (S := fun _ => True) (S' := fun _ => True) m (.slice a t.length c) (.slice a' cuts.length c') t cuts m.c.toNat
    rw [← hlocks] at hpl
    rw [hD] at hdoors
    have Hcode := Lib.hid hcode; clear hcode
    cases hok : wornOk m key wear tol
    · have hfin : wornAns m t cuts key wear tol = ([], 2) := by unfold wornAns; rw [if_neg (by rw [hp]; decide), if_pos hok]
      rw [hfin]
      have Hf := Lib.hid (And.intro hf (And.intro hmc (And.intro hpl (And.intro hlok (And.intro hsm hok))))); clear hf hmc hpl hlok hsm hok hfin
      have Hp := Lib.hid (And.intro hp (And.intro hlocks (And.intro hD hll))); clear hp hlocks hD hll hol hkl
      go_enter Tryz.func29, Tryz.ntmps29
      go_wp2_with fail
      rw [← hW1]
      refine Hcode.out.mono ?_
      rintro e' w2 ⟨rfl, hb2⟩
      have hz2 : W.heap.size < w2.heap.size := by have := hb2.size; omega
      have hx2 : ∀ o, w2.cell? ⟨W.heap.size, o, none⟩ = (#[.int .i64 m.c, .int .i64 m.d, .int .i64 m.s, .int .i64 m.e, .int .i64 m.l, .slice a t.length c] : Array Value)[o]? := fun o => by rw [(bcell hb2).1 _ _ hz01, hc01]
      have Hc01 := Lib.hid (And.intro hc01 hW1); clear hc01 hW1 hh01
      obtain ⟨w3, hw3, hb23, hz23, HZ23, hc23, hh23⟩ := box_facts w2 #[.slice ka key.length kc] 46
      have hb13 := hb2.trans (hb23.mono hb2.size)
      have hV2 : V2 (fun _ => True) w3 (.slice (some ⟨w2.heap.size, 0, none⟩) 1 1) [key] := V2.one hh23 (hK1.below hb13) trivial
      have hwc := wearCode_any m Hf.out.1.ok _ _ [] key wear tol w3 (⟨none, 0, rfl, Nat.le_refl _, Nat.zero_le _, fun k hk => by simp at hk⟩ : V3 (fun _ => True) w3 (.slice none 0 0) []) (fun k hk => by simp at hk) hV2
      have Hwc := Lib.hid hwc; clear hwc hV2 hc23 hh23
      go_wp2_with fail
      rw [← hw3]
      have hx3 : ∀ o, w3.cell? ⟨W.heap.size, o, none⟩ = (#[.int .i64 m.c, .int .i64 m.d, .int .i64 m.s, .int .i64 m.e, .int .i64 m.l, .slice a t.length c] : Array Value)[o]? := fun o => by rw [(bcell hb23).1 _ _ hz2, hx2]
      have Hw3 := Lib.hid (And.intro hw3 hx2); clear hw3 hx2
      refine Hwc.out.mono ?_
      rintro e' w4 ⟨rfl, hb34⟩
      rw [if_neg (by have := Hf.out.2.2.2.2.2; unfold wornOk at this; rw [this]; decide)]
      clear hx3
      go_wp2_with fail
      go_ret2
      exact ⟨_, rfl, F1.nil3, hB01.trans ((hb13.trans (hb34.mono hb13.size)).mono (by omega))⟩
    · have hfin : wornAns m t cuts key wear tol = (wornTo wear tol locks key D, 0) := by unfold wornAns; rw [if_neg (by rw [hp]; decide), if_neg (by rw [hok]; decide), ← hlocks, hD]
      rw [hfin]
      have hok3 := hok
      unfold wornOk at hok3
      rw [Bool.and_eq_true, Bool.and_eq_true] at hok3
      have Hf := Lib.hid (And.intro hf (And.intro hmc (And.intro hpl (And.intro hlok (And.intro hsm (And.intro hok hok3)))))); clear hf hmc hpl hlok hsm hok hok3 hfin
      have hl12 : locks.length ≤ 12 := by omega
      rw [← hll]
      have Hp := Lib.hid (And.intro hp (And.intro hlocks (And.intro hD hll))); clear hp hlocks hD hll hol hkl hdoors
      go_enter Tryz.func29, Tryz.ntmps29
      go_wp2_with fail
      rw [← hW1]
      refine Hcode.out.mono ?_
      rintro e' w2 ⟨rfl, hb2⟩
      have hz2 : W.heap.size < w2.heap.size := by have := hb2.size; omega
      have hx2 : ∀ o, w2.cell? ⟨W.heap.size, o, none⟩ = (#[.int .i64 m.c, .int .i64 m.d, .int .i64 m.s, .int .i64 m.e, .int .i64 m.l, .slice a t.length c] : Array Value)[o]? := fun o => by rw [(bcell hb2).1 _ _ hz01, hc01]
      have Hc01 := Lib.hid (And.intro hc01 hW1); clear hc01 hW1 hh01
      obtain ⟨w3, hw3, hb23, hz23, HZ23, hc23, hh23⟩ := box_facts w2 #[.slice ka key.length kc] 46
      have hb13 := hb2.trans (hb23.mono hb2.size)
      have hV2 : V2 (fun _ => True) w3 (.slice (some ⟨w2.heap.size, 0, none⟩) 1 1) [key] := V2.one hh23 (hK1.below hb13) trivial
      have hwc := wearCode_any m Hf.out.1.ok _ _ [] key wear tol w3 (⟨none, 0, rfl, Nat.le_refl _, Nat.zero_le _, fun k hk => by simp at hk⟩ : V3 (fun _ => True) w3 (.slice none 0 0) []) (fun k hk => by simp at hk) hV2
      have Hwc := Lib.hid hwc; clear hwc hV2 hc23 hh23
      go_wp2_with fail
      rw [← hw3]
      have hx3 : ∀ o, w3.cell? ⟨W.heap.size, o, none⟩ = (#[.int .i64 m.c, .int .i64 m.d, .int .i64 m.s, .int .i64 m.e, .int .i64 m.l, .slice a t.length c] : Array Value)[o]? := fun o => by rw [(bcell hb23).1 _ _ hz2, hx2]
      have Hw3 := Lib.hid (And.intro hw3 hx2); clear hw3 hx2
      refine Hwc.out.mono ?_
      rintro e' w4 ⟨rfl, hb34⟩
      rw [if_pos (by have := Hf.out.2.2.2.2.2.1; unfold wornOk at this; exact this)]
      have hb14 := hb13.trans (hb34.mono hb13.size)
      have hz4 := hb34.size
      have hz14 := hb14.size
      have hx4 : ∀ o o1, (w4.alloc o1).cell? ⟨W.heap.size, o, none⟩ = (#[.int .i64 m.c, .int .i64 m.d, .int .i64 m.s, .int .i64 m.e, .int .i64 m.l, .slice a t.length c] : Array Value)[o]? := fun o o1 => by
        rw [(bcell ((Below.refl w4.heap.size w4).alloc (Nat.le_refl _) o1)).1 _ _ (by omega), (bcell hb34).1 _ _ (by omega), hx3]
      have hown0 := own_lit0 w4 w4.heap.size 2 1 (Nat.le_refl _)
      have hbA : Below w4.heap.size w4 (w4.alloc (.cells #[] 2)) := (Below.refl _ _).alloc (Nat.le_refl _) _
      have hb1A := hb14.trans (hbA.mono hz14)
      have hpc := Hf.out.2.2.1 _ Hf.out.1 Hf.out.2.1 (hV1.below hb1A) (hC1.below hb1A)
      have Hpc := Lib.hid hpc; clear hpc hx3
      go_wp2_with fail
      refine Hpc.out.mono ?_
      rintro e' wL ⟨lv, rfl, hLk0, hbL⟩
      have hLk1 : LkAt w4.heap.size wL.heap.size (.slice (some ⟨w4.heap.size, 0, none⟩) 0 0) wL lv locks := ⟨hLk0.mono (fun b h1 h2 => ⟨by simp at h1; omega, h2⟩) (fun _ _ _ => rfl), fun g hg => .inl (by cases hg; rfl), Nat.le_refl _⟩
      obtain ⟨la, lc, rfl, hlm⟩ := hLk0.form
      have hBL : Below w4.heap.size w4 wL := hbA.trans (hbL.mono (by simp))
      have hownL := own_chg hown0 (Chg.of_below (F := fun _ => False) hbL) (fun _ _ h => h)
      have HL := Lib.hid (And.intro hLk1 hownL); clear hLk1 hownL hown0 hLk0 hx4
      go_wp2_with fail
      go_loopw [14, 15, 16, 17, 18, 40] (fun ou _ _ _ _ i wr => ∃ k : Nat, k ≤ locks.length ∧ i = .int .i64 (k : Int) ∧ wr.ownsRow w4.heap.size 2 1 ou (wornTo wear tol locks key k).length ((wornTo wear tol locks key k).map (Value.int .i64)) ∧ LkAt w4.heap.size wL.heap.size ou wr (.slice la locks.length lc) locks ∧ Below w4.heap.size w4 wr) (fun _ _ _ _ _ i _ => locks.length - (intOf i).toNat)
      case atStart => exact ⟨0, Nat.zero_le _, rfl, HL.out.2, HL.out.1, hBL⟩
      case round =>
        obtain ⟨k, hkl, rfl, hown, hLk, hB⟩ := hrel
        have hdl := wornTo_len wear tol locks key k
        have hzW := hB.size
        by_cases hkk : k < locks.length
        · obtain ⟨b1, off1, a1, c1, rfl, _, hc1, hr1⟩ := hLk.1.cell hkk
          have hbB : Below wr.heap.size wr (wr.alloc (.cells #[.slice a1 (getll locks k).length c1] 117)) := (Below.refl _ _).alloc (Nat.le_refl _) _
          have hb1r := hb14.trans (hB.mono hz14)
          have hxr : ∀ o o1, (wr.alloc o1).cell? ⟨W.heap.size, o, none⟩ = (#[.int .i64 m.c, .int .i64 m.d, .int .i64 m.s, .int .i64 m.e, .int .i64 m.l, .slice a t.length c] : Array Value)[o]? := fun o o1 => by
            rw [(bcell ((Below.refl wr.heap.size wr).alloc (Nat.le_refl _) o1)).1 _ _ (by omega), (bcell hb1r).1 _ _ hz01, Hc01.out.1]
          have hmo := MayOpen_any m Hf.out.1.ok _ _ (getll locks k) key wear tol _ (hr1.below hbB) ((hK1.below hb1r).below hbB) (Hf.out.2.2.2.1 k hkk) (Hf.out.2.2.2.2.1 k hkk) Hf.out.2.2.2.2.2.2.2 Hf.out.2.2.2.2.2.2.1.1 Hf.out.2.2.2.2.2.2.1.2
          cases ho : mayTo wear tol (getll locks k) key key.length
          · have hst : wornTo wear tol locks key (k + 1) = wornTo wear tol locks key k := by rw [wornTo, ho]; rfl
            rw [ho] at hmo
            have Hst := Lib.hid (And.intro hst (And.intro hmo ho)); clear hst hmo ho
            go_wp2_with fail
            refine Hst.out.2.1.mono ?_
            rintro e' w5 ⟨rfl, hb5⟩
            have hb05 := hbB.trans (hb5.mono (by simp))
            have hown5 := own_chg hown (Chg.of_below (F := fun _ => False) hb05) (fun _ _ h => h)
            have Hfin := Lib.hid (And.intro hown5 (hLk.below hb05)); clear hown5 hLk hc1 hr1 hbB hown hxr
            go_wp2_with fail
            go_roundw
            case rel => exact ⟨k + 1, by omega, by go_num, by rw [Hst.out.1]; exact Hfin.out.1, Hfin.out.2, hB.trans (hb05.mono hzW)⟩
            case measure => simp [intOf]; omega
          · have hst : wornTo wear tol locks key (k + 1) = wornTo wear tol locks key k ++ [(k : Int)] := by rw [wornTo, ho]; rfl
            rw [ho] at hmo
            have Hst := Lib.hid (And.intro hst (And.intro hmo ho)); clear hst hmo ho
            go_wp2_with fail
            refine Hst.out.2.1.mono ?_
            rintro e' w5 ⟨rfl, hb5⟩
            have hb05 := hbB.trans (hb5.mono (by simp))
            have hz5 := hb05.size
            have hown5 := own_chg hown (Chg.of_below (F := fun _ => False) hb05) (fun _ _ h => h)
            have hLk5 := hLk.below hb05
            clear hc1 hr1 hbB hown hxr hLk
            go_wp2_with (at_builtin; refine wp_app1 _ rfl _ _ 46 rfl w4.heap.size 2 (.int .i64 0) 8 Tryz.underlying46 inf_int rfl _ _ _ rfl hown5 (.int .i64 k) _ rfl rfl (by omega) (by omega) (by omega) ?_; intro v1 w1 hown1 hgrow1 hblk1 hB1)
            have Hfin := Lib.hid (And.intro hown1 (hLk5.grown hgrow1 hblk1)); clear hown1 hLk5 hgrow1 hblk1
            go_roundw
            case rel => exact ⟨k + 1, by omega, by go_num, by rw [Hst.out.1, List.map_append, List.length_append]; exact Hfin.out.1, Hfin.out.2, (hB.trans (hb05.mono hzW)).trans hB1⟩
            case measure => simp [intOf]; omega
        · obtain rfl : k = locks.length := by omega
          have hfx := own_F1 (own_base (B' := W.heap.size) hown (by omega))
          have Hfx := Lib.hid hfx; clear hfx hown hLk
          go_wp2_with fail
          go_ret2
          exact ⟨_, rfl, Hfx.out, hB01.trans ((hb14.trans (hB.mono hz14)).mono (by omega))⟩
  · have hfin : wornAns m t cuts key wear tol = ([], designC m t cuts) := by unfold wornAns; rw [if_pos hp]; (try rfl)
    have e1 : (designC m t cuts != 0) = true := by simp [hp]
    rw [hfin]
    have Hp := Lib.hid (And.intro hp hfin); clear hp hfin
    generalize designC m t cuts = pc at *
    go_enter Tryz.func29, Tryz.ntmps29
    go_wp2_with fail
    rw [← hW1]
    refine hcode.mono ?_
    rintro e' w2 ⟨rfl, hb2⟩
    clear hc01 hh01
    go_wp2_with fail
    go_ret2
    exact ⟨_, rfl, F1.nil3, hB01.trans (hb2.mono (by omega))⟩
end Go.Proofs.YtmfgdoflddhngaaGreat
