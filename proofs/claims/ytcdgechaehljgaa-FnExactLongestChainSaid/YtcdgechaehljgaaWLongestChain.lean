/- The walk of 'laws.FnExactLongestChain'. No conditions. -/
import Derived.Test.YtcdgechaehljgaaOpen
import Derived.Test.YtcdgechaehljgaaChainI
namespace Go.Proofs.Ytcdgechaehljgaa
open Go.RowKit
set_option linter.unusedVariables false
set_option linter.unusedSimpArgs false

set_option maxRecDepth 100000 in
theorem fnExactLongestChain_walk (W : World) (v : Value) (l : List (List Int)) (hl : V2 (Old W) W v l) (hkl : ∀ r ∈ l, ∀ n ∈ r, i64ok n) :
    Calls Try.prog 11 #[v] W fun e' w' => e' = .returned (.bool true) ∧ Below W.heap.size W w' := by
  clear hkl
  have hL := hl
  obtain ⟨la, lc, rfl, hml⟩ := hl.form
  by_cases hs : szL l 1048576 < 0
  · go_enter Try.func11, Try.ntmps11
    go_wp2_with fail
    refine (szInt64SS_any _ l _ _ hL (by omega) (by omega)).mono ?_
    rintro e' w3 ⟨rfl, rfl⟩
    go_wp2_with fail
    go_ret
    exact ⟨rfl, Below.refl _ _⟩
  · have hok := szL_ok (ls := l) (left := 1048576) (by omega) (by omega)
    have hlenl : l.length ≤ 1048576 := by omega
    have hrowl : ∀ r ∈ l, r.length ≤ 1048576 := fun r hr => by have := hok.2 r hr; omega
    have Hrowl := Lib.hid hrowl; clear hrowl hok
    obtain ⟨ans, hLA⟩ : ∃ r, longAns l = r := ⟨_, rfl⟩
    have HLA := Lib.hid hLA; clear hLA
    go_enter Try.func11, Try.ntmps11
    go_wp2_with fail
    refine (szInt64SS_any _ l _ _ hL (by omega) (by omega)).mono ?_
    rintro e' w1 ⟨rfl, rfl⟩
    go_wp2_with fail
    refine (toInt64SS_any _ l _ hL hlenl Hrowl.out).mono ?_
    rintro e' w2 ⟨v2, bk2, rfl, hX2, _, _, hB2⟩
    go_wp2_with fail
    refine (LongestChainR_any _ l _ (hX2.v2 (S := fun _ => True) (fun _ => trivial) (fun _ _ _ => trivial))).mono ?_
    rintro e' w3 ⟨rfl, nq, hw3⟩
    have hb3 : Below w2.heap.size w2 w3 := by rw [hw3]; exact below_drewN (Below.refl _ _) _
    rw [HLA.out]
    have hB3 := hB2.trans (hb3.mono hB2.size)
    clear hw3 hX2
    go_wp2_with fail
    refine (toInt64SS_any _ l _ (hL.below hB3) hlenl Hrowl.out).mono ?_
    rintro e' w4 ⟨v4, bk4, rfl, hX4, _, _, hb4⟩
    have hV4 := hX4.v2 (S := fun _ => True) (fun _ => trivial) (fun _ _ _ => trivial)
    obtain ⟨a4, c4, rfl, _⟩ := hV4.form
    have hB4 := hB3.trans (hb4.mono hB3.size)
    go_wp2_with fail
    refine (LongestChain_any _ l _ hV4).mono ?_
    rintro e' w5 ⟨rfl, hb5⟩
    rw [HLA.out]
    have hB5 := hB4.trans (hb5.mono hB4.size)
    have hV5 := hV4.below hb5
    clear hX4 hV4
    go_wp2_with fail
    refine (toInt64SS_any _ l _ (hL.below hB5) hlenl Hrowl.out).mono ?_
    rintro e' w6 ⟨v6, bk6, rfl, hX6, _, _, hb6⟩
    go_wp2_with fail
    refine (eqInt64SS_b _ _ l l _ true (by simp) (hV5.below hb6) (hX6.v2 (S := fun _ => True) (fun _ => trivial) (fun _ _ _ => trivial))).mono ?_
    rintro e' w7 ⟨rfl, nq2, rfl⟩
    go_wp2_with fail
    go_ret
    exact ⟨rfl, below_drewN (hB5.trans (hb6.mono hB5.size)) _⟩
end Go.Proofs.Ytcdgechaehljgaa
