/- The walk of 'laws.FnExactFirstReason'. No conditions. -/
import Derived.Test.YtcdgechaehljgaaOpen
import Derived.Test.YtcdgechaehljgaaFirst
import Derived.Test.YtcdgechaehljgaaHeld
import Derived.Test.YtcdgechaehljgaaMark
namespace Go.Proofs.Ytcdgechaehljgaa
open Go.RowKit
set_option linter.unusedVariables false
set_option linter.unusedSimpArgs false

theorem firstReasAns_len (m : Mk) (t cuts : List (List Int)) (key door : Int) : (firstReasAns m t cuts key door).1.length ≤ 1048576 := by
  unfold firstReasAns
  split
  · simp
  · rename_i hp
    have hp : reasC m t cuts key door = 0 := by omega
    obtain ⟨hpc, _⟩ := reasC_ok hp
    have hmk := Mk.ok_iff.1 (fits_of hpc).ok
    have hl := reasRows_len t cuts key.toNat door.toNat m.c.toNat
    unfold firstReas
    split
    · simp
    · simp [hl]; omega
theorem tot_small {ls : List (List Int)} (h1 : ls.length ≤ 1048576) (h : ∀ r ∈ ls, r.length ≤ 1048576) : ∀ j, j ≤ ls.length → totTo ls j ≤ 1099511627776 := fun j hj => by
  have := totTo_le (n := 1048576) (fun i hi => h _ (getl_mem hi)) j hj
  have : j * 1048576 ≤ 1048576 * 1048576 := Nat.mul_le_mul_right _ (by omega)
  omega

set_option maxHeartbeats 1000000 in
set_option maxRecDepth 100000 in
theorem fnExactFirstReason_walk (W : World) (a b c d e : Int) (u : Value) (t : List (List Int)) (hk5 : i64ok a ∧ i64ok b ∧ i64ok c ∧ i64ok d ∧ i64ok e) (h : V2 (Old W) W u t) (hk : ∀ r ∈ t, ∀ n ∈ r, i64ok n)
    (v : Value) (l : List (List Int)) (hl : V2 (Old W) W v l) (hkl : ∀ r ∈ l, ∀ n ∈ r, i64ok n) (key : Int) (hkk : i64ok key) (door : Int) (hkd : i64ok door) :
    Calls Try.prog 10 #[.agg #[.int .i64 a, .int .i64 b, .int .i64 c, .int .i64 d, .int .i64 e, u], v, .int .i64 key, .int .i64 door] W fun e' w' => e' = .returned (.bool true) ∧ Below W.heap.size W w' := by
  clear hk hk5 hkl hkk hkd
  have hV := h
  obtain ⟨ua, uc, rfl, hm⟩ := h.form
  have hL := hl
  obtain ⟨la, lc, rfl, hml⟩ := hl.form
  obtain ⟨W1, hW1, hB01, hz01, HZ01, hc01, hh01⟩ := box_facts W #[.int .i64 a, .int .i64 b, .int .i64 c, .int .i64 d, .int .i64 e, .slice ua t.length uc] 26
  have hV1 := hV.below hB01
  have hL1 := hL.below hB01
  have hle := szL_le (ls := t) (left := 1048576) (by omega)
  by_cases hs : szL t 1048576 < 0
  · go_enter Try.func10, Try.ntmps10
    go_wp2_with fail
    rw [← hW1]
    refine (szSystem_any ⟨a, b, c, d, e⟩ _ t _ _ hV1 (by omega) (by omega)).mono ?_
    rintro e' w2 ⟨rfl, hb2⟩
    clear hc01 hh01
    go_wp2_with fail
    go_ret
    exact ⟨rfl, hB01.trans (hb2.mono (by omega))⟩
  · have hok := szL_ok (ls := t) (left := 1048576) (by omega) (by omega)
    have h0 : 0 ≤ szL t 1048576 := by omega
    have hlen : t.length ≤ 1048576 := by omega
    have hrow : ∀ r ∈ t, r.length ≤ 1048576 := fun r hr => by have := hok.2 r hr; omega
    have Hrow := Lib.hid hrow; clear hrow hok
    obtain ⟨left, hleft⟩ : ∃ x, szL t 1048576 = x := ⟨_, rfl⟩
    rw [hleft] at hs h0 hle
    by_cases hs2 : szL l left < 0
    · go_enter Try.func10, Try.ntmps10
      go_wp2_with fail
      rw [← hW1]
      refine (szSystem_any ⟨a, b, c, d, e⟩ _ t _ _ hV1 (by omega) (by omega)).mono ?_
      rintro e' w2 ⟨rfl, hB2⟩
      clear hc01 hh01
      go_wp2_with fail
      refine (szInt64SS_any _ l _ _ (hL1.below hB2) (by omega) (by omega)).mono ?_
      rintro e' w3 ⟨rfl, rfl⟩
      go_wp2_with fail
      go_ret
      exact ⟨rfl, hB01.trans (hB2.mono (by omega))⟩
    · have hok := szL_ok (ls := l) (left := left) (by omega) (by omega)
      have hlenl : l.length ≤ 1048576 := by omega
      have hrowl : ∀ r ∈ l, r.length ≤ 1048576 := fun r hr => by have := hok.2 r hr; omega
      have Hrowl := Lib.hid hrowl; clear hrowl hok
      have hal := firstReasAns_len ⟨a, b, c, d, e⟩ t l key door
      obtain ⟨ans, hLA⟩ : ∃ r, firstReasAns ⟨a, b, c, d, e⟩ t l key door = r := ⟨_, rfl⟩
      rw [hLA] at hal
      have HLA := Lib.hid hLA; clear hLA
      go_enter Try.func10, Try.ntmps10
      go_wp2_with fail
      rw [← hW1]
      refine (szSystem_any ⟨a, b, c, d, e⟩ _ t _ _ hV1 (by omega) (by omega)).mono ?_
      rintro e' w2 ⟨rfl, hB2⟩
      have hx2 : ∀ o, (w2).cell? ⟨W.heap.size, o, none⟩ = (#[.int .i64 a, .int .i64 b, .int .i64 c, .int .i64 d, .int .i64 e, .slice ua t.length uc] : Array Value)[o]? := fun o => by rw [(bcell hB2).1 _ _ hz01, hc01]
      have Hc01 := Lib.hid hc01; clear hc01
      have HW1 := Lib.hid hW1; clear hW1
      clear hh01
      go_wp2_with fail
      refine (szInt64SS_any _ l _ _ (hL1.below hB2) (by omega) (by omega)).mono ?_
      rintro e' w2' ⟨rfl, rfl⟩
      clear hleft hle
      go_wp2_with fail
      refine (toSystem_any ⟨a, b, c, d, e⟩ _ t _ (hV1.below hB2) hlen Hrow.out).mono ?_
      rintro e' w3 ⟨v3, rfl, hF3, hb3⟩
      have hB3 := hB2.trans (hb3.mono hB2.size)
      clear hx2 hs hs2 h0
      go_wp2_with fail
      refine (toInt64SS_any _ l _ (hL1.below hB3) hlenl Hrowl.out).mono ?_
      rintro e' w4 ⟨v4, bk4, rfl, hX4, _, _, hb4⟩
      have hB4 := hB3.trans (hb4.mono hB3.size)
      go_wp2_with fail
      refine (FirstReasonR_any ⟨a, b, c, d, e⟩ _ _ t l key door _ (hF3.v2.below hb4) (hX4.v2 (S := fun _ => True) (fun _ => trivial) (fun _ _ _ => trivial))).mono ?_
      rintro e' w5 ⟨v5, rfl, hF5, hb5⟩
      rw [HLA.out] at hF5 ⊢
      have hB5 := hB4.trans (hb5.mono hB4.size)
      have hW5 : V1 (fun b => b < w5.heap.size) w5 v5 ans.1 := by
        obtain ⟨b5, hx5, _⟩ := hF5
        exact hx5.v1 (fun hn => hx5.lt hn)
      have hx5 : ∀ o, w5.cell? ⟨W.heap.size, o, none⟩ = (#[.int .i64 a, .int .i64 b, .int .i64 c, .int .i64 d, .int .i64 e, .slice ua t.length uc] : Array Value)[o]? := fun o => by rw [(bcell hB5).1 _ _ hz01, Hc01.out]
      clear hF3 hb3 hb4 hX4 hb5 hF5
      go_wp2_with fail
      refine (toSystem_any ⟨a, b, c, d, e⟩ _ t _ (hV1.below hB5) hlen Hrow.out).mono ?_
      rintro e' w6 ⟨v6, rfl, hF6, hb6⟩
      have hB6 := hB5.trans (hb6.mono hB5.size)
      obtain ⟨ob6, bk6, hX6, _, hge6⟩ := hF6
      obtain ⟨a6, c6, rfl, _⟩ := id hX6
      clear hx5
      go_wp2_with fail
      obtain ⟨w7, hW7, hb7, hz7, HZ7, hc7, _⟩ := box_facts w6 #[.int .i64 a, .int .i64 b, .int .i64 c, .int .i64 d, .int .i64 e, .slice a6 t.length c6] 32
      rw [← hW7]
      have HW7 := Lib.hid hW7; clear hW7
      have hB7 := hB6.trans (hb7.mono hB6.size)
      refine (toInt64SS_any _ l _ (hL1.below hB7) hlenl Hrowl.out).mono ?_
      rintro e' w8 ⟨v8, bk8, rfl, hX8, hge8, _, hb8⟩
      have hB8 := hB7.trans (hb8.mono hB7.size)
      have hb8' := hb7.trans (hb8.mono hb7.size)
      have hx8 : ∀ o, w8.cell? ⟨w6.heap.size, o, none⟩ = (#[.int .i64 a, .int .i64 b, .int .i64 c, .int .i64 d, .int .i64 e, .slice a6 t.length c6] : Array Value)[o]? := fun o => by rw [(bcell hb8).1 _ _ hz7, hc7]
      have Hc7 := Lib.hid hc7; clear hc7
      have hX68 : X2 w8 (.slice a6 t.length c6) t ob6 bk6 := hX6.keep (fun hn => hb8'.block _ (hX6.lt hn).1) (fun k hk hn => hb8'.block _ ((hX6.lt (rows_ne hk)).2 k hk hn))
      have hlt6 : ∀ k, k < t.length → getl t k ≠ [] → w5.heap.size ≤ bk6 k ∧ bk6 k < w7.heap.size := fun k hk hn => ⟨hge6 k hk hn, by have := (hX6.lt (rows_ne hk)).2 k hk hn; have := hb7.size; omega⟩
      have hlt8 : ∀ k, k < l.length → getl l k ≠ [] → w7.heap.size ≤ bk8 k ∧ bk8 k < w8.heap.size := fun k hk hn => ⟨by have := hge8 k hk; omega, (hX8.lt (rows_ne hk)).2 k hk hn⟩
      have Hlt6 := Lib.hid hlt6; clear hlt6 hge6
      have Hlt8 := Lib.hid hlt8; clear hlt8 hge8
      obtain ⟨a8, c8, rfl, _⟩ := id hX8
      go_wp2_with fail
      refine (FirstReason_any ⟨a, b, c, d, e⟩ _ _ t l key door _ (hX68.v2 (S := fun _ => True) (fun _ => trivial) (fun _ _ _ => trivial)) (hX8.v2 (S := fun _ => True) (fun _ => trivial) (fun _ _ _ => trivial))).mono ?_
      rintro e' w9 ⟨v9, rfl, hF9, hb9⟩
      rw [HLA.out] at hF9 ⊢
      obtain ⟨b9, hX9, hge9⟩ := hF9
      have hB9 := hB8.trans (hb9.mono hB8.size)
      have hz58 : w5.heap.size ≤ w8.heap.size := by have := hb6.size; have := hb8'.size; omega
      have hb59 : Below w5.heap.size w5 w9 := (hb6.trans (hb8'.mono hb6.size)).trans (hb9.mono hz58)
      obtain ⟨a9, c9, rfl, _⟩ := id hX9
      clear hX6 hx8
      go_wp2_with fail
      refine (eqInt64S_b _ _ ans.1 ans.1 _ true (by simp) (hX9.v1 (S := fun _ => True) (fun _ => trivial)) (hW5.below hb59)).mono ?_
      rintro e' wx ⟨rfl, nq, hwx⟩
      have hbq : Below w9.heap.size w9 wx := by rw [hwx]; exact below_drewN (Below.refl _ _) _
      clear hwx
      have hBx := hB9.trans (hbq.mono hB9.size)
      have hb8x := hb9.trans (hbq.mono hb9.size)
      have hxx : ∀ o, wx.cell? ⟨W.heap.size, o, none⟩ = (#[.int .i64 a, .int .i64 b, .int .i64 c, .int .i64 d, .int .i64 e, .slice ua t.length uc] : Array Value)[o]? := fun o => by rw [(bcell hBx).1 _ _ hz01, Hc01.out]
      have hyx : ∀ o, wx.cell? ⟨w6.heap.size, o, none⟩ = (#[.int .i64 a, .int .i64 b, .int .i64 c, .int .i64 d, .int .i64 e, .slice a6 t.length c6] : Array Value)[o]? := fun o => by rw [(bcell (hb8.trans (hb8x.mono hb8.size))).1 _ _ hz7, Hc7.out]
      have hX6x : X2 wx (.slice a6 t.length c6) t ob6 bk6 := hX68.keep (fun hn => hb8x.block _ (hX68.lt hn).1) (fun k hk hn => hb8x.block _ ((hX68.lt (rows_ne hk)).2 k hk hn))
      have hX8x : X2 wx (.slice a8 l.length c8) l w7.heap.size bk8 := hX8.keep (fun hn => hb8x.block _ (hX8.lt hn).1) (fun k hk hn => hb8x.block _ ((hX8.lt (rows_ne hk)).2 k hk hn))
      have hX9x : X1 wx (.slice a9 ans.1.length c9) ans.1 b9 := hX9.keep (fun hn => hbq.block _ (hX9.lt hn))
      have hV6x := hX6x.v2 (S := fun _ => True) (fun _ => trivial) (fun _ _ _ => trivial)
      have hV1x := hV1.below hBx
      have hL1x := hL1.below hBx
      have hb5x := hb59.trans (hbq.mono (by have := hb59.size; omega))
      have hzz : W.heap.size < wx.heap.size ∧ w6.heap.size < wx.heap.size := by have := hBx.size; have := hb8.size; have := hb8x.size; omega
      have hz5x := hb5x.size
      have hz8x := hb8x.size
      have Hk6 := Lib.hid (And.intro hX6x (And.intro hX8x hX9x)); clear hX6x hX8x hX9x hX8 hX68 hX9
      go_wp2_with fail
      go_region_held3 (fun w' => (∀ o, w'.cell? ⟨W.heap.size, o, none⟩ = (#[.int .i64 a, .int .i64 b, .int .i64 c, .int .i64 d, .int .i64 e, .slice ua t.length uc] : Array Value)[o]?) ∧ (∀ o, w'.cell? ⟨w6.heap.size, o, none⟩ = (#[.int .i64 a, .int .i64 b, .int .i64 c, .int .i64 d, .int .i64 e, .slice a6 t.length c6] : Array Value)[o]?) ∧ Below wx.heap.size wx w')
        (first | exact two_keep (by assumption) (by assumption) (by assumption) | exact ⟨hxx, hyx, (Below.refl _ _).drew⟩)
        (first | (go_at_call 17; refine (toSystem_any ⟨a, b, c, d, e⟩ _ t _ (hV1x.below (two_below (by assumption))) hlen Hrow.out).mono ?_; rintro e' wp ⟨vp, rfl, hFp, hb⟩) | (go_at_call 19; refine (eqSystem_b ⟨a, b, c, d, e⟩ ⟨a, b, c, d, e⟩ _ _ t t _ true (by simp [eqMk_self]) (hV6x.below (two_below (by assumption))) (F2.v2 (by assumption))).mono ?_; rintro e' wq ⟨rfl, hb⟩))
      have hBw := two_below (w0 := wx) (by assumption)
      go_wp2_with fail
      refine (toInt64SS_any _ l _ (hL1x.below hBw) hlenl Hrowl.out).mono ?_
      rintro e' wA ⟨vA, bkA, rfl, hXA, _, _, hbA⟩
      have hBwA := hBw.trans (hbA.mono hBw.size)
      obtain ⟨hX6x, hX8x, hX9x⟩ := Hk6.out
      have hX8A : X2 wA (.slice a8 l.length c8) l w7.heap.size bk8 := hX8x.keep (fun hn => hBwA.block _ (hX8x.lt hn).1) (fun k hk hn => hBwA.block _ ((hX8x.lt (rows_ne hk)).2 k hk hn))
      go_wp2_with fail
      refine (eqInt64SS_b _ _ l l _ true (by simp) (hX8A.v2 (S := fun _ => True) (fun _ => trivial) (fun _ _ _ => trivial)) (hXA.v2 (S := fun _ => True) (fun _ => trivial) (fun _ _ _ => trivial))).mono ?_
      rintro e' wB ⟨rfl, nq2, hwB⟩
      have hbB : Below wA.heap.size wA wB := by rw [hwB]; exact below_drewN (Below.refl _ _) _
      clear hwB
      have hBxB := hBwA.trans (hbB.mono hBwA.size)
      have hyB : ∀ o, wB.cell? ⟨w6.heap.size, o, none⟩ = (#[.int .i64 a, .int .i64 b, .int .i64 c, .int .i64 d, .int .i64 e, .slice a6 t.length c6] : Array Value)[o]? := fun o => by rw [(bcell hBxB).1 _ _ hzz.2, hyx]
      have hX6B : X2 wB (.slice a6 t.length c6) t ob6 bk6 := hX6x.keep (fun hn => hBxB.block _ (hX6x.lt hn).1) (fun k hk hn => hBxB.block _ ((hX6x.lt (rows_ne hk)).2 k hk hn))
      have hX8B : X2 wB (.slice a8 l.length c8) l w7.heap.size bk8 := hX8x.keep (fun hn => hBxB.block _ (hX8x.lt hn).1) (fun k hk hn => hBxB.block _ ((hX8x.lt (rows_ne hk)).2 k hk hn))
      have hX9B : X1 wB (.slice a9 ans.1.length c9) ans.1 b9 := hX9x.keep (fun hn => hBxB.block _ (hX9x.lt hn))
      have hW5B := hW5.below (hb5x.trans (hBxB.mono hz5x))
      have hBB := hBx.trans (hBxB.mono hBx.size)
      clear hX6x hX8x hX9x hX8A hXA hyx hxx
      have hzB := hBxB.size
      have hz15 := hB5.size
      have Hk8 := Lib.hid (And.intro hX8B hX9B); clear hX8B hX9B
      have ht1 := tot_small hlen Hrow.out
      have ht2 := tot_small hlenl Hrowl.out
      have ht1l := ht1 t.length (Nat.le_refl _)
      have ht2l := ht2 l.length (Nat.le_refl _)
      have Ht := Lib.hid (And.intro ht1 ht2); clear ht1 ht2
      go_wp2_with fail
      refine (markSystem_any (fun b => w5.heap.size ≤ b ∧ b < w7.heap.size) ⟨a, b, c, d, e⟩ _ t _ _ 1 _ hX6B Hlt6.out (by omega) (fun j hj => by have := Ht.out.1 j hj; omega)).mono ?_
      rintro e' wC ⟨rfl, _, hcC⟩
      obtain ⟨hX8B, hX9B⟩ := Hk8.out
      have hz57 : w5.heap.size ≤ w7.heap.size := by have := hb6.size; have := hb7.size; omega
      have hz78 := hb8.size
      have hX8C : X2 wC (.slice a8 l.length c8) l w7.heap.size bk8 := hX8B.keep (fun hn => hcC.block _ (hX8B.lt hn).1 (by omega)) (fun k hk hn => hcC.block _ ((hX8B.lt (rows_ne hk)).2 k hk hn) (by have := Hlt8.out k hk hn; omega))
      obtain ⟨q1, hq1⟩ : ∃ q, (1 + (totTo t t.length : Int)) = q := ⟨_, rfl⟩
      rw [hq1]
      have hq1b : 1 ≤ q1 ∧ q1 ≤ 1099511627777 := by omega
      clear hyB hq1
      go_wp2_with fail
      refine (markInt64SS_any (fun b => w7.heap.size ≤ b ∧ b < w8.heap.size) _ l _ _ q1 _ hX8C Hlt8.out (by omega) (fun j hj => by have := Ht.out.2 j hj; omega)).mono ?_
      rintro e' wD ⟨rfl, _, hcD'⟩
      have hcD : Chg (fun b => w5.heap.size ≤ b ∧ b < w8.heap.size) wB wD := (hcC.mono (fun i hi => ⟨hi.1, by omega⟩)).trans (hcD'.mono (G := fun b => w5.heap.size ≤ b ∧ b < w8.heap.size) (fun i hi => ⟨by omega, hi.2⟩)) (fun i hi => .inl hi)
      have hq2p : 0 ≤ q1 + (totTo l l.length : Int) := by omega
      generalize q1 + (totTo l l.length : Int) = q2 at *
      have hW5D : V1 (fun b => b < w5.heap.size) wD v5 ans.1 := hW5B.mono (fun _ h _ => h) (hcD.keep (fun b hb hf => by omega))
      have hX9D : X1 wD (.slice a9 ans.1.length c9) ans.1 b9 := hX9B.keep (fun hn => hcD.block _ (hX9B.lt hn) (by have := hge9 hn; omega))
      have hBD := hBB.trans (hcD.to_below (B := W1.heap.size) (fun i hi => by omega) hBB.size)
      clear hcC hcD' hcD hX8C hX8B hX9B hX6B hq1b
      go_wp2_with fail
      refine (eqInt64S_b _ _ ans.1 ans.1 _ true (by simp) (hX9D.v1 (S := fun _ => True) (fun _ => trivial)) hW5D).mono ?_
      rintro e' wE ⟨rfl, nq3, hwE⟩
      have hbE : Below wD.heap.size wD wE := by rw [hwE]; exact below_drewN (Below.refl _ _) _
      clear hwE
      have hBE := hBD.trans (hbE.mono hBD.size)
      have hX9E := hX9D.keep (fun hn => hbE.block _ (hX9D.lt hn))
      have hW5E := hW5D.below hbE
      have hb9lt : ans.1 ≠ [] → w5.heap.size ≤ b9 := fun hn => by have := hge9 hn; omega
      have Hb9 := Lib.hid hb9lt; clear hb9lt hge9
      clear hX9D hW5D hbE
      go_wp2_with fail
      refine (markInt64S_any (fun x => ans.1 ≠ [] ∧ x = b9) _ ans.1 b9 1 _ hX9E (fun hn => ⟨hn, rfl⟩) (by omega) (by omega)).mono ?_
      rintro e' wF ⟨rfl, hX9F, hcF⟩
      have hW5F : V1 (fun b => b < w5.heap.size) wF v5 ans.1 := hW5E.mono (fun _ h _ => h) (hcF.keep (fun b hb hf => by have := Hb9.out hf.1; omega))
      have hBF := hBE.trans (hcF.to_below (B := W1.heap.size) (fun i hi => by have := Hb9.out hi.1; omega) hBE.size)
      have hxF : ∀ o, wF.cell? ⟨W.heap.size, o, none⟩ = (#[.int .i64 a, .int .i64 b, .int .i64 c, .int .i64 d, .int .i64 e, .slice ua t.length uc] : Array Value)[o]? := fun o => by rw [(bcell hBF).1 _ _ hz01, Hc01.out]
      clear hcF hX9E hW5E
      go_wp2_with fail
      refine (heldInt64S_any _ ans.1.length 1 _ (hX9F.v1 (S := fun _ => True) (fun _ => trivial)) (by omega) (by omega)).mono ?_
      rintro e' wF' ⟨rfl, rfl⟩
      obtain ⟨q3, hq3⟩ : ∃ q, (1 + (ans.1.length : Int)) = q := ⟨_, rfl⟩
      have hq3p : 0 ≤ q3 := by omega
      rw [hq3]
      have Hq3 := Lib.hid hq3; clear hq3
      go_wp2_with fail
      refine (toSystem_any ⟨a, b, c, d, e⟩ _ t _ (hV1.below hBF) hlen Hrow.out).mono ?_
      rintro e' wG ⟨vG, rfl, hFG, hbG⟩
      have hBG := hBF.trans (hbG.mono hBF.size)
      clear hxF
      go_wp2_with fail
      refine (toInt64SS_any _ l _ (hL1.below hBG) hlenl Hrowl.out).mono ?_
      rintro e' wH ⟨vH, bkH, rfl, hXH, _, _, hbH⟩
      have hbFH := hbG.trans (hbH.mono hbG.size)
      go_wp2_with fail
      refine (FirstReason_any ⟨a, b, c, d, e⟩ _ _ t l key door _ (hFG.v2.below hbH) (hXH.v2 (S := fun _ => True) (fun _ => trivial) (fun _ _ _ => trivial))).mono ?_
      rintro e' wI ⟨vI, rfl, hFI, hbI⟩
      rw [HLA.out] at hFI ⊢
      have hbFI := hbFH.trans (hbI.mono hbFH.size)
      have hX9I := hX9F.keep (fun hn => hbFI.block _ (hX9F.lt hn))
      have hVI := hFI.v1
      clear hFG hXH hbH hFI hX9F
      go_wp2_with fail
      refine (eqInt64S_b _ _ ans.1 ans.1 _ true (by simp) hVI (hW5F.below hbFI)).mono ?_
      rintro e' wJ ⟨rfl, nq4, hwJ⟩
      have hbJ : Below wI.heap.size wI wJ := by rw [hwJ]; exact below_drewN (Below.refl _ _) _
      clear hwJ hVI
      have hbFJ := hbFI.trans (hbJ.mono hbFI.size)
      have hX9J := hX9I.keep (fun hn => hbJ.block _ (hX9I.lt hn))
      clear hX9I
      go_wp2_with fail
      refine (heldInt64S_any _ ans.1.length 1 _ (hX9J.v1 (S := fun _ => True) (fun _ => trivial)) (by omega) (by omega)).mono ?_
      rintro e' wK ⟨rfl, rfl⟩
      rw [Hq3.out]
      go_wp2_with fail
      go_ret
      exact ⟨rfl, hB01.trans ((hBF.trans (hbFJ.mono hBF.size)).mono (by omega))⟩
end Go.Proofs.Ytcdgechaehljgaa
