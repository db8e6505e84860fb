/- Worn keys: whether a place is free, how many places a worn cut frees. No conditions. -/
import Derived.Test.YtbckginfipeibaaDoors
import Derived.Test.YtbckginfipeibaaMFault
import Derived.Test.YtbckginfipeibaaRise
namespace Go.Proofs.Ytbckginfipeibaa
open Go.RowKit
set_option linter.unusedVariables false
set_option linter.unusedSimpArgs false

/-- A place is free for a set. -/
def freeB (tol p : Int) (set : List Int) : Bool := set.any fun d => decide (absI (p - 10 * d) ≤ tol)
/-- One of the first n places from p on is free, and how many are. -/
def someTo (tol p : Int) (set : List Int) : Nat → Bool
  | 0 => false
  | n + 1 => someTo tol p set n || freeB tol (p + n) set
def cntFr (tol p : Int) (set : List Int) : Nat → Nat
  | 0 => 0
  | n + 1 => if freeB tol (p + n) set = true then cntFr tol p set n + 1 else cntFr tol p set n
theorem cntFr_le (tol p : Int) (set : List Int) : ∀ n, cntFr tol p set n ≤ n
  | 0 => Nat.le_refl _
  | n + 1 => by have := cntFr_le tol p set n; unfold cntFr; split <;> omega
theorem cntFr_some (tol p : Int) (set : List Int) : ∀ n, (cntFr tol p set n = 0) ↔ someTo tol p set n = false
  | 0 => by simp [cntFr, someTo]
  | n + 1 => by
    unfold cntFr someTo
    have ih := cntFr_some tol p set n
    cases h : freeB tol (p + n) set
    · simp [ih]
    · simp
theorem absI_bd {x : Int} (h : -1000 ≤ x ∧ x ≤ 1000) : 0 ≤ absI x ∧ absI x ≤ 1000 := by unfold absI; omega
/-- A set of small depths. -/
def Small (set : List Int) : Prop := ∀ d ∈ set, 0 ≤ d ∧ d ≤ 7

theorem idxR_step1 {g : Int → Bool} {l : List Int} {k : Nat} (h : k < l.length) : idxR g (l.drop k) k = if g (geti l k) then (k : Int) else idxR g (l.drop (k + 1)) (k + 1) := by
  rw [List.drop_eq_getElem_cons h, idxR, geti_eq h]
/-- A function value that answers g of a number, and makes at most new memory. -/
def PredN (f : FuncId) (caps : Array Value) (W : World) (g : Int → Bool) (l : List Int) : Prop :=
  ∀ (w : World) (x : Int), Below W.heap.size W w → x ∈ l → Calls Try.prog f (#[.int .i64 x] ++ caps) w fun e w' => e = .returned (.bool (g x)) ∧ Below w.heap.size w w'
theorem indexFuncN_any {S : Nat → Prop} (v : Value) (l : List Int) (f : FuncId) (caps : Array Value) (g : Int → Bool) (W : World) (h : V1 S W v l) (hf : Enters f) (hp : PredN f caps W g l) :
    Calls Try.prog 141 #[v, .func (.func f) #[] caps] W fun e' w' => e' = .returned (.int .i64 (idxR g l 0)) ∧ Below W.heap.size W w' := by
  have hV := h
  obtain ⟨a, c, rfl, hm⟩ := h.form
  have Hp := Lib.hid hp; clear hp
  go_enter Try.func141, Try.ntmps141
  go_wp2_with fail
  go_loopw [5, 8] (fun _ i wr => ∃ k : Nat, k ≤ l.length ∧ i = .int .i64 k ∧ idxR g l 0 = idxR g (l.drop k) k ∧ Below W.heap.size W wr) (fun _ i _ => l.length - (intOf i).toNat)
  case atStart => exact ⟨0, Nat.zero_le _, rfl, rfl, Below.refl _ _⟩
  case round =>
    obtain ⟨k, hk, rfl, hrem, hB⟩ := hrel
    have Hr := Lib.hid hrem; clear hrem
    by_cases hkk : k < l.length
    · obtain ⟨b1, off1, rfl, _, hc1⟩ := (hV.below hB).cell hkk
      have hf' := hf
      unfold Enters at hf'
      cases hg : g (geti l k)
      · have HG := Lib.hid hg; clear hg
        go_wp2_with fail
        have hcl := Hp.out _ _ hB (geti_mem hkk)
        rw [HG.out] at hcl
        refine hcl.mono ?_
        rintro e' w' ⟨rfl, hb⟩
        have hzB := hb.size
        have hzW := hB.size
        go_wp2_with fail
        go_roundw
        case rel => exact ⟨k + 1, by omega, by go_num, by rw [Hr.out, idxR_step1 hkk, HG.out]; rfl, hB.trans (hb.mono hzW)⟩
        case measure => simp [intOf]; omega
      · have HG := Lib.hid hg; clear hg
        go_wp2_with fail
        have hcl := Hp.out _ _ hB (geti_mem hkk)
        rw [HG.out] at hcl
        refine hcl.mono ?_
        rintro e' w' ⟨rfl, hb⟩
        have hzB := hb.size
        have hzW := hB.size
        go_wp2_with fail
        go_ret
        exact ⟨ret_int (by rw [Hr.out, idxR_step1 hkk, HG.out]; rfl), hB.trans (hb.mono hzW)⟩
    · have hd : l.drop k = [] := List.drop_of_length_le (by omega)
      have Hd := Lib.hid hd; clear hd
      go_wp2_with fail
      go_ret
      exact ⟨ret_int (by rw [Hr.out, Hd.out]; rfl), hB⟩
theorem containsFuncN_any {S : Nat → Prop} (v : Value) (l : List Int) (f : FuncId) (caps : Array Value) (g : Int → Bool) (W : World) (h : V1 S W v l) (hf : Enters f) (hp : PredN f caps W g l) :
    Calls Try.prog 92 #[v, .func (.func f) #[] caps] W fun e' w' => e' = .returned (.bool (l.any g)) ∧ Below W.heap.size W w' := by
  have hfin := (idxR_any g l 0).1
  have Hfin := Lib.hid hfin; clear hfin
  go_enter Try.func92, Try.ntmps92
  go_wp2_with fail
  refine (indexFuncN_any _ _ _ _ _ _ h hf hp).mono ?_
  rintro e' w' ⟨rfl, hb⟩
  go_wp2_with fail
  go_ret
  exact ⟨ret_bool (by rw [← Hfin.out]), hb⟩

theorem enters_free : Enters 175 := fun args w => by kernel_rfl
theorem free1_any (d p tol : Int) (PB TB : Nat) (w : World) (hd : 0 ≤ d ∧ d ≤ 7) (hp : 0 ≤ p ∧ p ≤ 100) (h1 : w.cell? ⟨PB, 0, none⟩ = some (.int .i64 p)) (h2 : w.cell? ⟨TB, 0, none⟩ = some (.int .i64 tol)) :
    Calls Try.prog 175 #[.int .i64 d, .pointer (some ⟨PB, 0, none⟩), .pointer (some ⟨TB, 0, none⟩)] w fun e w' => e = .returned (.bool (decide (absI (p - 10 * d) ≤ tol))) ∧ Below w.heap.size w w' := by
  have hw1 : IntKind.i64.wrap (10 * d) = 10 * d := IntWalk.i64_in _ (by omega)
  have hw2 : IntKind.i64.wrap (p - 10 * d) = p - 10 * d := IntWalk.i64_in _ (by omega)
  obtain ⟨q, hq⟩ : ∃ q, absI (p - 10 * d) = q := ⟨_, rfl⟩
  rw [hq]
  have Hq := Lib.hid hq; clear hq
  go_enter Try.func175, Try.ntmps175
  go_wp2_with fail
  go_quiet ((go_at_call 115; first | exact quiet_same (absolute_b _ _ _ Hq.out (by omega)) | exact quiet_same0 (absolute_b _ _ _ Hq.out (by omega))))
  go_wp2_with fail
  go_ret
  exact ⟨rfl, by repeat' first | refine below_drewN ?_ _ | exact Below.refl _ _⟩
set_option maxRecDepth 100000 in
theorem isFree_any {S : Nat → Prop} (v : Value) (set : List Int) (p tol : Int) (W : World) (h : V1 S W v set) (hs : Small set) (hp : 0 ≤ p ∧ p ≤ 100) :
    Calls Try.prog 165 #[v, .int .i64 p, .int .i64 tol] W fun e w' => e = .returned (.bool (freeB tol p set)) ∧ Below W.heap.size W w' := by
  obtain ⟨a, c, rfl, hm⟩ := h.form
  obtain ⟨WA, hWA, hBA, hzA, HZA, hcA, hhA⟩ := box_facts W #[.int .i64 p] 2
  obtain ⟨W1, hW1, hB1, hz1', HZ1, hc1, hh1⟩ := box_facts WA #[.int .i64 tol] 2
  have hB01 : Below W.heap.size W W1 := hBA.trans (hB1.mono (by omega))
  rw [HZA.out] at hc1
  have hcp : W1.cell? ⟨W.heap.size, 0, none⟩ = some (.int .i64 p) := by rw [(bcell hB1).1 _ _ hzA, hcA]; rfl
  have hct : W1.cell? ⟨W.heap.size + 1, 0, none⟩ = some (.int .i64 tol) := by rw [hc1]; rfl
  have hpr : PredN 175 #[.pointer (some ⟨W.heap.size, 0, none⟩), .pointer (some ⟨W.heap.size + 1, 0, none⟩)] W1 (fun d => decide (absI (p - 10 * d) ≤ tol)) set := fun w x hb hx => free1_any x p tol _ _ w (hs x hx) hp (cell_keep hcp (hb.block _ (lt_of_cell hcp))) (cell_keep hct (hb.block _ (lt_of_cell hct)))
  have hcl := containsFuncN_any _ set _ _ _ W1 (h.below hB01) enters_free hpr
  have Hcl := Lib.hid hcl; clear hcl hpr hcp hct hc1 hcA hhA hh1
  go_enter Try.func165, Try.ntmps165
  go_wp2_with fail
  rw [← hWA, ← hW1]
  refine Hcl.out.mono ?_
  rintro e' w2 ⟨rfl, hb2⟩
  go_wp2_with fail
  go_ret
  exact ⟨rfl, hB01.trans (hb2.mono hB01.size)⟩
set_option maxRecDepth 100000 in
theorem freePlaces_any {S : Nat → Prop} (v : Value) (set : List Int) (cut wear tol : Int) (W : World) (h : V1 S W v set) (hs : Small set) (hc : 0 ≤ cut ∧ cut ≤ 7) (hw : 0 ≤ wear ∧ wear ≤ 19) :
    Calls Try.prog 130 #[v, .int .i64 cut, .int .i64 wear, .int .i64 tol] W fun e w' => e = .returned (.int .i64 (cntFr tol (10 * cut) set (wear.toNat + 1) : Nat)) ∧ Below W.heap.size W w' := by
  have hV := h
  obtain ⟨a, c, rfl, hm⟩ := h.form
  obtain ⟨n, rfl⟩ : ∃ n : Nat, wear = (n : Int) := ⟨wear.toNat, by omega⟩
  rw [Int.toNat_natCast]
  have hw1 : IntKind.i64.wrap (10 * cut) = 10 * cut := IntWalk.i64_in _ (by omega)
  obtain ⟨P, hP⟩ : ∃ P, 10 * cut = P := ⟨_, rfl⟩
  rw [hP] at hw1 ⊢
  have hP7 : 0 ≤ P ∧ P ≤ 70 := by omega
  have hw2 : IntKind.i64.wrap (P + (n : Int)) = P + (n : Int) := IntWalk.i64_in _ (by omega)
  have Hs := Lib.hid hs; clear hs
  go_enter Try.func130, Try.ntmps130
  go_wp2_with fail
  go_loopw [9, 10] (fun s i wr => ∃ k : Nat, k ≤ n + 1 ∧ i = .int .i64 (P + (k : Int)) ∧ s = .int .i64 (cntFr tol P set k : Nat) ∧ Below W.heap.size W wr) (fun _ i _ => (P + n + 1 - intOf i).toNat)
  case atStart => exact ⟨0, Nat.zero_le _, by simp [hw1], rfl, Below.refl _ _⟩
  case round =>
    obtain ⟨k, hk, rfl, rfl, hB⟩ := hrel
    have hzB := hB.size
    have hcf := cntFr_le tol P set k
    by_cases hkk : k < n + 1
    · have hst : cntFr tol P set (k + 1) = if freeB tol (P + k) set = true then cntFr tol P set k + 1 else cntFr tol P set k := rfl
      have hle : (P + (k : Int) ≤ P + (n : Int)) := by omega
      have hcl := isFree_any _ set (P + (k : Int)) tol wr (hV.below hB) Hs.out (by omega)
      have hw3 : IntKind.i64.wrap (P + (k : Int) + 1) = P + (k : Int) + 1 := IntWalk.i64_in _ (by omega)
      obtain ⟨cf, hcfe⟩ : ∃ cf, cntFr tol P set k = cf := ⟨_, rfl⟩
      rw [hcfe] at hst hcf ⊢
      have hw4 : IntKind.i64.wrap ((cf : Int) + 1) = (cf : Int) + 1 := IntWalk.i64_in _ (by omega)
      cases hf : freeB tol (P + (k : Int)) set
      · rw [hf] at hcl
        rw [if_neg (by rw [hf]; decide)] at hst
        have Hst := Lib.hid (And.intro hst (And.intro hcl hf)); clear hst hcl hf hcfe
        go_wp2_with fail
        refine Hst.out.2.1.mono ?_
        rintro e' w5 ⟨rfl, hb5⟩
        go_wp2_with fail
        go_roundw
        case rel => exact ⟨k + 1, by omega, by go_num, by rw [Hst.out.1], hB.trans (hb5.mono hzB)⟩
        case measure => simp [intOf]; omega
      · rw [hf] at hcl
        rw [if_pos hf] at hst
        have Hst := Lib.hid (And.intro hst (And.intro hcl hf)); clear hst hcl hf hcfe
        go_wp2_with fail
        refine Hst.out.2.1.mono ?_
        rintro e' w5 ⟨rfl, hb5⟩
        go_wp2_with fail
        go_roundw
        case rel => exact ⟨k + 1, by omega, by go_num, by rw [Hst.out.1]; go_num, hB.trans (hb5.mono hzB)⟩
        case measure => simp [intOf]; omega
    · obtain rfl : k = n + 1 := by omega
      have hle : ¬ (P + ((n + 1 : Nat) : Int) ≤ P + (n : Int)) := by omega
      go_wp2_with fail
      go_ret
      exact ⟨rfl, hB⟩
end Go.Proofs.Ytbckginfipeibaa
