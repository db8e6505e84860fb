/- What slices.ContainsFunc, slices.IndexFunc and the program's contains answer. No conditions. -/
import Derived.Test.YtikdbjaimcciiaaGreatTable
namespace Go.Proofs.YtikdbjaimcciiaaGreat
open Go.RowKit
set_option linter.unusedVariables false
set_option linter.unusedSimpArgs false

/-- The function f may be entered. -/
def Enters (f : FuncId) : Prop := ∀ (args : Array Value) (w : World), Sem.run Tryz.prog (callFunc f args) w = .ok (.enter f args) w
/-- A function value that answers g of a list, and makes at most new memory. -/
def PredL (f : FuncId) (caps : Array Value) (W : World) (g : List Int → Bool) : Prop :=
  ∀ (S : Nat → Prop) (w : World) (v : Value) (l : List Int), Below W.heap.size W w → V1 S w v l → Calls Tryz.prog f (#[v] ++ caps) w fun e w' => e = .returned (.bool (g l)) ∧ Below w.heap.size w w'
def idxR {α : Type} (g : α → Bool) : List α → Nat → Int
  | [], _ => -1
  | x :: xs, k => if g x then k else idxR g xs (k + 1)
theorem idxR_step {g : List Int → Bool} {ls : List (List Int)} {k : Nat} (h : k < ls.length) : idxR g (ls.drop k) k = if g (getl ls k) then (k : Int) else idxR g (ls.drop (k + 1)) (k + 1) := by
  rw [List.drop_eq_getElem_cons h, idxR, getl_eq h]
theorem idxR_any {α : Type} (g : α → Bool) : ∀ (l : List α) (k : Nat), decide (0 ≤ idxR g l k) = l.any g ∧ (idxR g l k = -1 ∨ (k : Int) ≤ idxR g l k)
  | [], k => ⟨by simp [idxR], .inl rfl⟩
  | x :: xs, k => by
    have ih := idxR_any g xs (k + 1)
    unfold idxR
    by_cases hx : g x = true
    · simp [hx]
    · simp only [hx, if_false, List.any_cons]
      exact ⟨by simpa using ih.1, by rcases ih.2 with h | h; exact .inl h; right; omega⟩

theorem indexFunc_any {S : Nat → Prop} (v : Value) (ls : List (List Int)) (f : FuncId) (caps : Array Value) (g : List Int → Bool) (W : World) (h : V2 S W v ls) (hf : Enters f) (hp : PredL f caps W g) :
    Calls Tryz.prog 235 #[v, .func (.func f) #[] caps] W fun e' w' => e' = .returned (.int .i64 (idxR g ls 0)) ∧ Below W.heap.size W w' := by
  have hV := h
  obtain ⟨a, c, rfl, hm⟩ := h.form
  have Hp := Lib.hid hp; clear hp
  go_enter Tryz.func235, Tryz.ntmps235
  go_wp2_with fail
  go_loopw [5, 8] (fun _ i wr => ∃ k : Nat, k ≤ ls.length ∧ i = .int .i64 k ∧ idxR g ls 0 = idxR g (ls.drop k) k ∧ Below W.heap.size W wr) (fun _ i _ => ls.length - (intOf i).toNat)
  case atStart => exact ⟨0, Nat.zero_le _, rfl, rfl, Below.refl _ _⟩
  case round =>
    obtain ⟨k, hk, rfl, hrem, hB⟩ := hrel
    have Hr := Lib.hid hrem; clear hrem
    by_cases hkk : k < ls.length
    · obtain ⟨b1, off1, a1, c1, rfl, _, hc1, hr1⟩ := (hV.below hB).cell hkk
      have hf' := hf
      unfold Enters at hf'
      cases hg : g (getl ls k)
      · have HG := Lib.hid hg; clear hg
        go_wp2_with fail
        have hcl := Hp.out _ _ _ _ hB hr1
        rw [HG.out] at hcl
        refine hcl.mono ?_
        rintro e' w' ⟨rfl, hb⟩
        have hzB := hb.size
        have hzW := hB.size
        go_wp2_with fail
        go_roundw
        case rel => exact ⟨k + 1, by omega, by go_num, by rw [Hr.out, idxR_step hkk, HG.out]; rfl, hB.trans (hb.mono hzW)⟩
        case measure => simp [intOf]; omega
      · have HG := Lib.hid hg; clear hg
        go_wp2_with fail
        have hcl := Hp.out _ _ _ _ hB hr1
        rw [HG.out] at hcl
        refine hcl.mono ?_
        rintro e' w' ⟨rfl, hb⟩
        have hzB := hb.size
        have hzW := hB.size
        go_wp2_with fail
        go_ret
        exact ⟨ret_int (by rw [Hr.out, idxR_step hkk, HG.out]; rfl), hB.trans (hb.mono hzW)⟩
    · have hd : ls.drop k = [] := List.drop_of_length_le (by omega)
      have Hd := Lib.hid hd; clear hd
      go_wp2_with fail
      go_ret
      exact ⟨ret_int (by rw [Hr.out, Hd.out]; rfl), hB⟩

theorem containsFunc_any {S : Nat → Prop} (v : Value) (ls : List (List Int)) (f : FuncId) (caps : Array Value) (g : List Int → Bool) (W : World) (h : V2 S W v ls) (hf : Enters f) (hp : PredL f caps W g) :
    Calls Tryz.prog 214 #[v, .func (.func f) #[] caps] W fun e' w' => e' = .returned (.bool (ls.any g)) ∧ Below W.heap.size W w' := by
  have hfin := (idxR_any g ls 0).1
  have Hfin := Lib.hid hfin; clear hfin
  go_enter Tryz.func214, Tryz.ntmps214
  go_wp2_with fail
  refine (indexFunc_any _ _ _ _ _ _ h hf hp).mono ?_
  rintro e' w' ⟨rfl, hb⟩
  go_wp2_with fail
  go_ret
  exact ⟨ret_bool (by rw [← Hfin.out]), hb⟩

theorem enters_contains : Enters 223 := fun args w => by kernel_rfl
theorem contains1_any {S S' : Nat → Prop} (v u : Value) (l key : List Int) (b : Nat) (W : World) (h : V1 S W v l) (hc : W.cell? ⟨b, 0, none⟩ = some u) (hu : V1 S' W u key) :
    Calls Tryz.prog 223 #[v, .pointer (some ⟨b, 0, none⟩)] W fun e' w' => e' = .returned (.bool (decide (l = key))) ∧ ∃ n, w' = W.drewN n := by
  go_enter Tryz.func223, Tryz.ntmps223
  go_wp2_with fail
  refine (slEqual_q _ _ _ _ _ h hu).mono ?_
  rintro e' w' ⟨rfl, n, rfl⟩
  go_wp2_with fail
  go_ret
  exact ⟨rfl, _, rfl⟩

theorem contains_any {S S' : Nat → Prop} (v u : Value) (ls : List (List Int)) (key : List Int) (W : World) (h : V2 S W v ls) (hu : V1 S' W u key) :
    Calls Tryz.prog 182 #[v, u] W fun e' w' => e' = .returned (.bool (hasL ls key)) ∧ Below W.heap.size W w' := by
  have hU := hu
  obtain ⟨a2, c2, rfl, _⟩ := hu.form
  go_enter Tryz.func182, Tryz.ntmps182
  go_wp2_with fail
  have hb0 : Below W.heap.size W (W.alloc (.cells #[.slice a2 key.length c2] 35)) := (Below.refl _ _).alloc (Nat.le_refl _) _
  refine (containsFunc_any (S := S) _ ls _ _ (fun o => decide (o = key)) _ (h.below hb0) enters_contains ?_).mono ?_
  · intro S2 w v2 l hb hv
    have hc : w.cell? ⟨W.heap.size, 0, none⟩ = some (.slice a2 key.length c2) := by
      rw [(bcell hb).1 _ _ (by simp), cell_of_block (heap_alloc_self _ _)]; rfl
    refine (contains1_any v2 _ l key W.heap.size w hv hc ((hU.below hb0).below hb)).mono ?_
    rintro e' w' ⟨rfl, n, rfl⟩
    exact ⟨rfl, below_drewN (Below.refl _ _) _⟩
  · rintro e' w' ⟨rfl, hb⟩
    go_wp2_with fail
    go_ret
    exact ⟨rfl, by (repeat (first | (with_reducible refine Below.setCell ?_ ?_ _) | (with_reducible refine Below.alloc ?_ ?_ _) | (with_reducible refine Below.drew ?_) | (with_reducible refine below_drewN ?_ _) | (with_reducible exact Below.refl _ _) | (with_reducible assumption) | (with_reducible refine Below.trans ?_ (Below.mono (by with_reducible assumption) ?_)) | go_size))⟩

theorem contains_b {S S' : Nat → Prop} (v u : Value) (ls : List (List Int)) (key : List Int) (W : World) (r : Bool) (hr : hasL ls key = r) (h : V2 S W v ls) (hu : V1 S' W u key) :
    Calls Tryz.prog 182 #[v, u] W fun e' w' => e' = .returned (.bool r) ∧ Below W.heap.size W w' := by subst hr; exact contains_any v u ls key W h hu

def diffAns (t : List (List Int)) : Int × Int := if isTab t = true then (((diffR t : Nat) : Int), 0) else (0, 1)
end Go.Proofs.YtikdbjaimcciiaaGreat
