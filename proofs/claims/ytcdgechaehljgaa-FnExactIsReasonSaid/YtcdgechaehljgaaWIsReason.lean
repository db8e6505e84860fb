/- The walk of 'laws.FnExactIsReason'. No conditions. -/
import Derived.Test.YtcdgechaehljgaaOpen
import Derived.Test.YtcdgechaehljgaaReasE
import Derived.Test.YtcdgechaehljgaaHeld
namespace Go.Proofs.Ytcdgechaehljgaa
open Go.RowKit
set_option linter.unusedVariables false
set_option linter.unusedSimpArgs false

set_option maxRecDepth 100000 in
theorem fnExactIsReason_walk (W : World) (a b c d e : Int) (u : Value) (t : List (List Int)) (hk5 : i64ok a ∧ i64ok b ∧ i64ok c ∧ i64ok d ∧ i64ok e) (h : V2 (Old W) W u t) (hk : ∀ r ∈ t, ∀ n ∈ r, i64ok n)
    (v : Value) (l : List (List Int)) (hl : V2 (Old W) W v l) (hkl : ∀ r ∈ l, ∀ n ∈ r, i64ok n) (key : Int) (hkk : i64ok key) (door : Int) (hkd : i64ok door) (x : Value) (rs : List Int) (hr : V1 (Old W) W x rs) (hkr : ∀ n ∈ rs, i64ok n) :
    Calls Try.prog 7 #[.agg #[.int .i64 a, .int .i64 b, .int .i64 c, .int .i64 d, .int .i64 e, u], v, .int .i64 key, .int .i64 door, x] W fun e' w' => e' = .returned (.bool true) ∧ Below W.heap.size W w' := by
  clear hk hk5 hkl hkk hkd hkr
  have hV := h
  obtain ⟨ua, uc, rfl, hm⟩ := h.form
  have hL := hl
  obtain ⟨la, lc, rfl, hml⟩ := hl.form
  have hR := hr
  obtain ⟨ra, rc, rfl, hmr⟩ := hr.form
  obtain ⟨W1, hW1, hB01, hz01, HZ01, hc01, hh01⟩ := box_facts W #[.int .i64 a, .int .i64 b, .int .i64 c, .int .i64 d, .int .i64 e, .slice ua t.length uc] 26
  have hV1 := hV.below hB01
  have hL1 := hL.below hB01
  have hR1 := hR.below hB01
  by_cases hbig : rs.length > 1048576
  · go_enter Try.func7, Try.ntmps7
    go_wp2_with fail
    rw [← hW1]
    go_ret
    exact ⟨rfl, hB01⟩
  have hlenr : rs.length ≤ 1048576 := by omega
  have hle := szL_le (ls := t) (left := 1048576) (by omega)
  by_cases hs : szL t 1048576 < 0
  · go_enter Try.func7, Try.ntmps7
    go_wp2_with fail
    rw [← hW1]
    refine (szSystem_any ⟨a, b, c, d, e⟩ _ t _ _ hV1 (by omega) (by omega)).mono ?_
    rintro e' w2 ⟨rfl, hb2⟩
    clear hc01 hh01
    go_wp2_with fail
    go_ret
    exact ⟨rfl, hB01.trans (hb2.mono (by omega))⟩
  · have hok := szL_ok (ls := t) (left := 1048576) (by omega) (by omega)
    have h0 : 0 ≤ szL t 1048576 := by omega
    have hlen : t.length ≤ 1048576 := by omega
    have hrow : ∀ r ∈ t, r.length ≤ 1048576 := fun r hr => by have := hok.2 r hr; omega
    have Hrow := Lib.hid hrow; clear hrow hok
    obtain ⟨left, hleft⟩ : ∃ x, szL t 1048576 = x := ⟨_, rfl⟩
    rw [hleft] at hs h0 hle
    by_cases hs2 : szL l left < 0
    · go_enter Try.func7, Try.ntmps7
      go_wp2_with fail
      rw [← hW1]
      refine (szSystem_any ⟨a, b, c, d, e⟩ _ t _ _ hV1 (by omega) (by omega)).mono ?_
      rintro e' w2 ⟨rfl, hB2⟩
      clear hc01 hh01
      go_wp2_with fail
      refine (szInt64SS_any _ l _ _ (hL1.below hB2) (by omega) (by omega)).mono ?_
      rintro e' w3 ⟨rfl, rfl⟩
      go_wp2_with fail
      go_ret
      exact ⟨rfl, hB01.trans (hB2.mono (by omega))⟩
    · have hok := szL_ok (ls := l) (left := left) (by omega) (by omega)
      have hlenl : l.length ≤ 1048576 := by omega
      have hrowl : ∀ r ∈ l, r.length ≤ 1048576 := fun r hr => by have := hok.2 r hr; omega
      have Hrowl := Lib.hid hrowl; clear hrowl hok
      go_enter Try.func7, Try.ntmps7
      go_wp2_with fail
      rw [← hW1]
      refine (szSystem_any ⟨a, b, c, d, e⟩ _ t _ _ hV1 (by omega) (by omega)).mono ?_
      rintro e' w2 ⟨rfl, hB2⟩
      have hx2 : ∀ o, (w2).cell? ⟨W.heap.size, o, none⟩ = (#[.int .i64 a, .int .i64 b, .int .i64 c, .int .i64 d, .int .i64 e, .slice ua t.length uc] : Array Value)[o]? := fun o => by rw [(bcell hB2).1 _ _ hz01, hc01]
      have Hc01 := Lib.hid hc01; clear hc01
      have HW1 := Lib.hid hW1; clear hW1
      clear hh01
      go_wp2_with fail
      refine (szInt64SS_any _ l _ _ (hL1.below hB2) (by omega) (by omega)).mono ?_
      rintro e' w2' ⟨rfl, rfl⟩
      go_wp2_with fail
      refine (toSystem_any ⟨a, b, c, d, e⟩ _ t _ (hV1.below hB2) hlen Hrow.out).mono ?_
      rintro e' w3 ⟨v3, rfl, hF3, hb3⟩
      have hB3 := hB2.trans (hb3.mono hB2.size)
      clear hx2
      go_wp2_with fail
      refine (toInt64SS_any _ l _ (hL1.below hB3) hlenl Hrowl.out).mono ?_
      rintro e' w4 ⟨v4, bk4, rfl, hX4, _, _, hb4⟩
      have hB4 := hB3.trans (hb4.mono hB3.size)
      go_wp2_with fail
      have hL4 := hX4.v2 (S := fun _ => True) (fun _ => trivial) (fun _ _ _ => trivial)
      have hS4 := hF3.v2.below hb4
      refine (toInt64S_any _ rs _ (hR1.below hB4) hlenr).mono ?_
      rintro e' w4' ⟨v4', rfl, hX4', _, hb4'⟩
      have hB4' := hB4.trans (hb4'.mono hB4.size)
      go_wp2_with fail
      refine (IsReasonR_any ⟨a, b, c, d, e⟩ _ _ _ t l rs key door _ (hS4.below hb4') (hL4.below hb4') (hX4'.v1 (S := fun _ => True) (fun _ => trivial))).mono ?_
      rintro e' w5 ⟨rfl, hb5⟩
      have hB5 := hB4'.trans (hb5.mono hB4'.size)
      have hx5 : ∀ o, w5.cell? ⟨W.heap.size, o, none⟩ = (#[.int .i64 a, .int .i64 b, .int .i64 c, .int .i64 d, .int .i64 e, .slice ua t.length uc] : Array Value)[o]? := fun o => by rw [(bcell hB5).1 _ _ hz01, Hc01.out]
      clear hF3 hb3 hb4 hX4 hb5 hb4' hX4' hL4 hS4
      generalize hLA : isReasAns ⟨a, b, c, d, e⟩ t l key door rs = ans at *
      have HLA := Lib.hid hLA; clear hLA
      go_wp2_with fail
      refine (toSystem_any ⟨a, b, c, d, e⟩ _ t _ (hV1.below hB5) hlen Hrow.out).mono ?_
      rintro e' w6 ⟨v6, rfl, hF6, hb6⟩
      have hB6 := hB5.trans (hb6.mono hB5.size)
      obtain ⟨a6, c6, rfl, hl6⟩ := hF6.v2.form
      clear hx5
      go_wp2_with fail
      obtain ⟨w7, hW7, hb7, hz7, HZ7, hc7, _⟩ := box_facts w6 #[.int .i64 a, .int .i64 b, .int .i64 c, .int .i64 d, .int .i64 e, .slice a6 t.length c6] 32
      rw [← hW7]
      have HW7 := Lib.hid hW7; clear hW7
      have hB7 := hB6.trans (hb7.mono hB6.size)
      refine (toInt64SS_any _ l _ (hL1.below hB7) hlenl Hrowl.out).mono ?_
      rintro e' w8 ⟨v8, bk8, rfl, hX8, _, _, hb8⟩
      have hB8 := hB7.trans (hb8.mono hB7.size)
      have hb8' := hb7.trans (hb8.mono hb7.size)
      have hx8 : ∀ o, w8.cell? ⟨w6.heap.size, o, none⟩ = (#[.int .i64 a, .int .i64 b, .int .i64 c, .int .i64 d, .int .i64 e, .slice a6 t.length c6] : Array Value)[o]? := fun o => by rw [(bcell hb8).1 _ _ hz7, hc7]
      have Hc7 := Lib.hid hc7; clear hc7
      have hL8 := (hX8.v2 (S := fun _ => True) (fun _ => trivial) (fun _ _ _ => trivial))
      have hS8 := hF6.v2.below hb8'
      obtain ⟨a8, c8, rfl, hl8⟩ := hL8.form
      go_wp2_with fail
      refine (toInt64S_any _ rs _ (hR1.below hB8) hlenr).mono ?_
      rintro e' wr ⟨vr, rfl, hXr, _, hbr⟩
      have hBr := hB8.trans (hbr.mono hB8.size)
      have hbr' := hb8'.trans (hbr.mono hb8'.size)
      have hxr : ∀ o, wr.cell? ⟨w6.heap.size, o, none⟩ = (#[.int .i64 a, .int .i64 b, .int .i64 c, .int .i64 d, .int .i64 e, .slice a6 t.length c6] : Array Value)[o]? := fun o => by rw [(bcell (hb8.trans (hbr.mono hb8.size))).1 _ _ hz7, Hc7.out]
      have hRr := (hXr.v1 (S := fun _ => True) (fun _ => trivial))
      obtain ⟨ar, cr, rfl, hlr⟩ := hRr.form
      clear hx8
      go_wp2_with fail
      refine (IsReason_any ⟨a, b, c, d, e⟩ _ _ _ t l rs key door _ (hS8.below hbr) (hL8.below hbr) hRr).mono ?_
      rintro e' w9 ⟨rfl, hb9⟩
      rw [HLA.out]
      have hB9 := hBr.trans (hb9.mono hBr.size)
      have hb9' := hbr.trans (hb9.mono hbr.size)
      have hV9 := (hS8.below hb9').mono (fun _ _ _ => trivial) (S' := fun _ => True) (fun _ _ _ => rfl)
      have hX9 := (hL8.below hb9').mono (fun _ _ _ => trivial) (S' := fun _ => True) (fun _ _ _ => rfl)
      have hR9 := hRr.below hb9
      have hx9 : ∀ o, w9.cell? ⟨W.heap.size, o, none⟩ = (#[.int .i64 a, .int .i64 b, .int .i64 c, .int .i64 d, .int .i64 e, .slice ua t.length uc] : Array Value)[o]? := fun o => by rw [(bcell hB9).1 _ _ hz01, Hc01.out]
      have hy9 : ∀ o, w9.cell? ⟨w6.heap.size, o, none⟩ = (#[.int .i64 a, .int .i64 b, .int .i64 c, .int .i64 d, .int .i64 e, .slice a6 t.length c6] : Array Value)[o]? := fun o => by rw [(bcell (hb8.trans (hb9'.mono hb8.size))).1 _ _ hz7, Hc7.out]
      have hV9' := hV1.below hB9
      have hL9' := hL1.below hB9
      have hR9' := hR1.below hB9
      have hzz : W.heap.size < w9.heap.size ∧ w6.heap.size < w9.heap.size := by have := hB9.size; have := hb8.size; have := hb9'.size; omega
      clear hxr hF6 hX8
      go_wp2_with fail
      go_region_held3 (fun w' => (∀ o, w'.cell? ⟨W.heap.size, o, none⟩ = (#[.int .i64 a, .int .i64 b, .int .i64 c, .int .i64 d, .int .i64 e, .slice ua t.length uc] : Array Value)[o]?) ∧ (∀ o, w'.cell? ⟨w6.heap.size, o, none⟩ = (#[.int .i64 a, .int .i64 b, .int .i64 c, .int .i64 d, .int .i64 e, .slice a6 t.length c6] : Array Value)[o]?) ∧ Below w9.heap.size w9 w')
        (first | exact two_keep (by assumption) (by assumption) (by assumption) | exact ⟨hx9, hy9, (Below.refl _ _).drew⟩)
        (first | (go_at_call 17; refine (toSystem_any ⟨a, b, c, d, e⟩ _ t _ (hV9'.below (two_below (by assumption))) hlen Hrow.out).mono ?_; rintro e' wp ⟨vp, rfl, hFp, hb⟩) | (go_at_call 19; refine (eqSystem_b ⟨a, b, c, d, e⟩ ⟨a, b, c, d, e⟩ _ _ t t _ true (by simp [eqMk_self]) (hV9.below (two_below (by assumption))) (F2.v2 (by assumption))).mono ?_; rintro e' wq ⟨rfl, hb⟩))
      have hBw := two_below (w0 := w9) (by assumption)
      go_wp2_with fail
      refine (toInt64SS_any _ l _ (hL9'.below hBw) hlenl Hrowl.out).mono ?_
      rintro e' w10 ⟨v10, bk10, rfl, hX10, _, _, hb10⟩
      have hBw' := hBw.trans (hb10.mono hBw.size)
      go_wp2_with fail
      refine (eqInt64SS_b _ _ l l _ true (by simp) (hX9.below hBw') (hX10.v2 (S := fun _ => True) (fun _ => trivial) (fun _ _ _ => trivial))).mono ?_
      rintro e' w11 ⟨rfl, nq, rfl⟩
      have hBx := below_drewN hBw' nq
      go_wp2_with fail
      refine (toInt64S_any _ rs _ (hR9'.below hBx) hlenr).mono ?_
      rintro e' w12 ⟨v12, rfl, hX12, _, hb12⟩
      have hBy := hBx.trans (hb12.mono hBx.size)
      go_wp2_with fail
      refine (eqInt64S_b _ _ rs rs _ true (by simp) (hR9.below hBy) (hX12.v1 (S := fun _ => True) (fun _ => trivial))).mono ?_
      rintro e' w13 ⟨rfl, nq2, rfl⟩
      go_wp2_with fail
      go_ret
      exact ⟨rfl, below_drewN (hB01.trans ((hB9.trans (hBy.mono hB9.size)).mono (by omega))) _⟩
end Go.Proofs.Ytcdgechaehljgaa
