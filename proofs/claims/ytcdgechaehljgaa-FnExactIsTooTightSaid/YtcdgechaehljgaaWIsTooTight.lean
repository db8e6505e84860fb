/- The walk of 'laws.FnExactIsTooTight'. No conditions. -/
import Derived.Test.YtcdgechaehljgaaOpen
import Derived.Test.YtcdgechaehljgaaTight
import Derived.Test.YtcdgechaehljgaaHeld
namespace Go.Proofs.Ytcdgechaehljgaa
open Go.RowKit
set_option linter.unusedVariables false
set_option linter.unusedSimpArgs false

set_option maxRecDepth 100000 in
theorem fnExactIsTooTight_walk (W : World) (a b c d e : Int) (u : Value) (t : List (List Int)) (hk5 : i64ok a ∧ i64ok b ∧ i64ok c ∧ i64ok d ∧ i64ok e) (h : V2 (Old W) W u t) (hk : ∀ r ∈ t, ∀ n ∈ r, i64ok n) :
    Calls Try.prog 5 #[.agg #[.int .i64 a, .int .i64 b, .int .i64 c, .int .i64 d, .int .i64 e, u]] W fun e' w' => e' = .returned (.bool true) ∧ Below W.heap.size W w' := by
  clear hk hk5
  have hV := h
  obtain ⟨ua, uc, rfl, hm⟩ := h.form
  obtain ⟨W1, hW1, hB01, hz01, HZ01, hc01, hh01⟩ := box_facts W #[.int .i64 a, .int .i64 b, .int .i64 c, .int .i64 d, .int .i64 e, .slice ua t.length uc] 26
  have hV1 := hV.below hB01
  by_cases hs : szL t 1048576 < 0
  · go_enter Try.func5, Try.ntmps5
    go_wp2_with fail
    rw [← hW1]
    refine (szSystem_any ⟨a, b, c, d, e⟩ _ t _ _ hV1 (by omega) (by omega)).mono ?_
    rintro e' w2 ⟨rfl, hb2⟩
    clear hc01 hh01
    go_wp2_with fail
    go_ret
    exact ⟨rfl, hB01.trans (hb2.mono (by omega))⟩
  · have hok := szL_ok (ls := t) (left := 1048576) (by omega) (by omega)
    have h0 : 0 ≤ szL t 1048576 := by omega
    have hlen : t.length ≤ 1048576 := by omega
    have hrow : ∀ r ∈ t, r.length ≤ 1048576 := fun r hr => by have := hok.2 r hr; omega
    have Hrow := Lib.hid hrow; clear hrow hok
    go_enter Try.func5, Try.ntmps5
    go_wp2_with fail
    rw [← hW1]
    refine (szSystem_any ⟨a, b, c, d, e⟩ _ t _ _ hV1 (by omega) (by omega)).mono ?_
    rintro e' w2 ⟨rfl, hB2⟩
    have hx2 : ∀ o, (w2).cell? ⟨W.heap.size, o, none⟩ = (#[.int .i64 a, .int .i64 b, .int .i64 c, .int .i64 d, .int .i64 e, .slice ua t.length uc] : Array Value)[o]? := fun o => by rw [(bcell hB2).1 _ _ hz01, hc01]
    have Hc01 := Lib.hid hc01; clear hc01
    have HW1 := Lib.hid hW1; clear hW1
    clear hh01
    go_wp2_with fail
    refine (toSystem_any ⟨a, b, c, d, e⟩ _ t _ (hV1.below hB2) hlen Hrow.out).mono ?_
    rintro e' w3 ⟨v3, rfl, hF3, hb3⟩
    clear hx2
    go_wp2_with fail
    refine (IsTooTightR_any ⟨a, b, c, d, e⟩ _ t _ hF3.v2).mono ?_
    rintro e' w4 ⟨rfl, hb4⟩
    have hB4 := (hB2.trans (hb3.mono hB2.size)).trans (hb4.mono (by have := hB2.size; have := hb3.size; omega))
    have hx4 : ∀ o, w4.cell? ⟨W.heap.size, o, none⟩ = (#[.int .i64 a, .int .i64 b, .int .i64 c, .int .i64 d, .int .i64 e, .slice ua t.length uc] : Array Value)[o]? := fun o => by rw [(bcell hB4).1 _ _ hz01, Hc01.out]
    clear hF3 hb3 hb4
    generalize hLA : tightAns ⟨a, b, c, d, e⟩ t = la at *
    have HLA := Lib.hid hLA; clear hLA
    go_wp2_with fail
    refine (toSystem_any ⟨a, b, c, d, e⟩ _ t _ (hV1.below hB4) hlen Hrow.out).mono ?_
    rintro e' w5 ⟨v5, rfl, hF5, hb5⟩
    have hB5 := hB4.trans (hb5.mono hB4.size)
    have hx5 : ∀ o, w5.cell? ⟨W.heap.size, o, none⟩ = (#[.int .i64 a, .int .i64 b, .int .i64 c, .int .i64 d, .int .i64 e, .slice ua t.length uc] : Array Value)[o]? := fun o => by rw [(bcell hB5).1 _ _ hz01, Hc01.out]
    clear hx4
    obtain ⟨a5, c5, rfl, hl5⟩ := hF5.v2.form
    go_wp2_with fail
    obtain ⟨w6, hW6, hB6, hz6, HZ6, hc6, _⟩ := box_facts w5 #[.int .i64 a, .int .i64 b, .int .i64 c, .int .i64 d, .int .i64 e, .slice a5 t.length c5] 32
    rw [← hW6]
    clear hW6
    refine (IsTooTight_any ⟨a, b, c, d, e⟩ _ t _ (hF5.v2.below hB6)).mono ?_
    rintro e' w7 ⟨rfl, hb7⟩
    rw [HLA.out]
    have hB7' := hB6.trans (hb7.mono hB6.size)
    have hB7 := hB5.trans (hB7'.mono hB5.size)
    have hV7 := (hF5.v2.below hB7').mono (fun _ _ _ => trivial) (S' := fun _ => True) (fun _ _ _ => rfl)
    have hx7 : ∀ o, w7.cell? ⟨W.heap.size, o, none⟩ = (#[.int .i64 a, .int .i64 b, .int .i64 c, .int .i64 d, .int .i64 e, .slice ua t.length uc] : Array Value)[o]? := fun o => by rw [(bcell hB7).1 _ _ hz01, Hc01.out]
    have hy7 : ∀ o, w7.cell? ⟨w5.heap.size, o, none⟩ = (#[.int .i64 a, .int .i64 b, .int .i64 c, .int .i64 d, .int .i64 e, .slice a5 t.length c5] : Array Value)[o]? := fun o => by rw [(bcell hb7).1 _ _ hz6, hc6]
    have hV7' := hV1.below hB7
    have hzz : W.heap.size < w7.heap.size ∧ w5.heap.size < w7.heap.size := by have := hB7.size; have := hb7.size; omega
    clear hx5 hc6 hF5
    go_wp2_with fail
    go_region_held3 (fun w' => (∀ o, w'.cell? ⟨W.heap.size, o, none⟩ = (#[.int .i64 a, .int .i64 b, .int .i64 c, .int .i64 d, .int .i64 e, .slice ua t.length uc] : Array Value)[o]?) ∧ (∀ o, w'.cell? ⟨w5.heap.size, o, none⟩ = (#[.int .i64 a, .int .i64 b, .int .i64 c, .int .i64 d, .int .i64 e, .slice a5 t.length c5] : Array Value)[o]?) ∧ Below w7.heap.size w7 w')
      (first | exact two_keep (by assumption) (by assumption) (by assumption) | exact ⟨hx7, hy7, (Below.refl _ _).drew⟩)
      (first | (go_at_call 17; refine (toSystem_any ⟨a, b, c, d, e⟩ _ t _ (hV7'.below (two_below (by assumption))) hlen Hrow.out).mono ?_; rintro e' w8 ⟨v8, rfl, hF8, hb⟩) | (go_at_call 19; refine (eqSystem_b ⟨a, b, c, d, e⟩ ⟨a, b, c, d, e⟩ _ _ t t _ true (by simp [eqMk_self]) (hV7.below (two_below (by assumption))) (F2.v2 (by assumption))).mono ?_; rintro e' w9 ⟨rfl, hb⟩))
    have hBw := two_below (w0 := w7) (by assumption)
    go_wp2_with fail
    go_ret
    exact ⟨rfl, hB01.trans ((hB7.trans (hBw.mono hB7.size)).mono (by omega))⟩
end Go.Proofs.Ytcdgechaehljgaa
