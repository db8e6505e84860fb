/- The walk of 'laws.FnExactRowsOf'. No conditions. -/
import Derived.Test.YtcdgechaehljgaaOpen
import Derived.Test.YtcdgechaehljgaaRowsR
import Derived.Test.YtcdgechaehljgaaMark
namespace Go.Proofs.Ytcdgechaehljgaa
open Go.RowKit
set_option linter.unusedVariables false
set_option linter.unusedSimpArgs false

set_option maxHeartbeats 1000000 in
set_option maxRecDepth 100000 in
theorem fnExactRowsOf_walk (W : World) (v : Value) (l : List Int) (h : V1 (Old W) W v l) (hk : ∀ n ∈ l, i64ok n) :
    Calls Try.prog 9 #[v] W fun e' w' => e' = .returned (.bool true) ∧ Below W.heap.size W w' := by
  clear hk
  have hV := h
  obtain ⟨a, c, rfl, hm⟩ := h.form
  by_cases hbig : l.length > 1048576
  · go_enter Try.func9, Try.ntmps9
    go_wp2_with fail
    go_ret
    exact ⟨rfl, Below.refl _ _⟩
  have hlen : l.length ≤ 1048576 := by omega
  have hal := rowsAns_len l
  obtain ⟨ans, hLA⟩ : ∃ r, rowsAns l = r := ⟨_, rfl⟩
  rw [hLA] at hal
  have HLA := Lib.hid hLA; clear hLA
  go_enter Try.func9, Try.ntmps9
  go_wp2_with fail
  refine (toInt64S_any _ l _ hV hlen).mono ?_
  rintro e' w1 ⟨v1, rfl, hx1, _, hB1⟩
  go_wp2_with fail
  refine (RowsOfR_any _ l _ (hx1.v1 (S := fun _ => True) (fun _ => trivial))).mono ?_
  rintro e' w2 ⟨v2, rfl, hF2, hb2⟩
  rw [HLA.out] at hF2 ⊢
  have hB2 := hB1.trans (hb2.mono hB1.size)
  have hW2 : V1 (fun b => b < w2.heap.size) w2 v2 ans.1 := by
    obtain ⟨b2, hx2, _⟩ := hF2
    exact hx2.v1 (fun hn => hx2.lt hn)
  clear hF2 hx1
  go_wp2_with fail
  refine (toInt64S_any _ l _ (hV.below hB2) hlen).mono ?_
  rintro e' w3 ⟨v3, rfl, hx3, hz3, hB3'⟩
  have hB3 := hB2.trans (hB3'.mono hB2.size)
  obtain ⟨a3, c3, rfl, _⟩ := id hx3
  go_wp2_with fail
  refine (RowsOf_any _ l _ (hx3.v1 (S := fun _ => True) (fun _ => trivial))).mono ?_
  rintro e' w4 ⟨v4, rfl, hF4, hb4⟩
  rw [HLA.out] at hF4 ⊢
  obtain ⟨b4, hx4, hge4⟩ := hF4
  obtain ⟨a4, c4, rfl, _⟩ := id hx4
  have hB4 := hB3.trans (hb4.mono hB3.size)
  have hx34 := hx3.keep (fun hn => hb4.block _ (hx3.lt hn))
  have hW4 := hW2.below (hB3'.trans (hb4.mono hB3'.size))
  clear hx3 hW2
  go_wp2_with fail
  refine (eqInt64S_b _ _ ans.1 ans.1 _ true (by simp) (hx4.v1 (S := fun _ => True) (fun _ => trivial)) hW4).mono ?_
  rintro e' w5 ⟨rfl, nq, hw5⟩
  have hb5 : Below w4.heap.size w4 w5 := by rw [hw5]; exact below_drewN (Below.refl _ _) _
  clear hw5
  have hB5 := hB4.trans (hb5.mono hB4.size)
  have hx35 := hx34.keep (fun hn => hb5.block _ (hx34.lt hn))
  have hx45 := hx4.keep (fun hn => hb5.block _ (hx4.lt hn))
  have hW5 := hW4.below hb5
  clear hx34 hx4 hW4
  go_wp2_with fail
  refine (toInt64S_any _ l _ (hV.below hB5) hlen).mono ?_
  rintro e' w6 ⟨v6, rfl, hx6, _, hb6⟩
  have hx36 := hx35.keep (fun hn => hb6.block _ (hx35.lt hn))
  go_wp2_with fail
  refine (eqInt64S_b _ _ l l _ true (by simp) (hx36.v1 (S := fun _ => True) (fun _ => trivial)) (hx6.v1 (S := fun _ => True) (fun _ => trivial))).mono ?_
  rintro e' w7 ⟨rfl, nq2, hw7⟩
  have hb7 : Below w6.heap.size w6 w7 := by rw [hw7]; exact below_drewN (Below.refl _ _) _
  clear hw7
  have hb57 := hb6.trans (hb7.mono hb6.size)
  have hB7 := hB5.trans (hb57.mono hB5.size)
  have hx37 := hx36.keep (fun hn => hb7.block _ (hx36.lt hn))
  have hx47 := hx45.keep (fun hn => hb57.block _ (hx45.lt hn))
  have hW7 := hW5.below hb57
  have hz23 := hB3'.size
  have hz1 := hB1.size
  have hz2 := hB2.size
  clear hx35 hx36 hx45 hx6 hW5
  go_wp2_with fail
  refine (markInt64S_any (fun x => l ≠ [] ∧ x = w2.heap.size) _ l w2.heap.size 1 _ hx37 (fun hn => ⟨hn, rfl⟩) (by omega) (by omega)).mono ?_
  rintro e' w8 ⟨rfl, _, hc8⟩
  have hx48 := hx47.keep (fun hn => hc8.block _ (hx47.lt hn) (fun hf => by have := hge4 hn; omega))
  have hW8 : V1 (fun b => b < w2.heap.size) w8 v2 ans.1 := hW7.mono (fun _ h _ => h) (hc8.keep (fun b hb hf => by omega))
  have hB8 := hB7.trans (hc8.to_below (B := W.heap.size) (fun i hi => by omega) hB7.size)
  have hkp : 0 ≤ 1 + (l.length : Int) := by omega
  clear hc8 hx37 hx47 hW7
  go_wp2_with fail
  refine (eqInt64S_b _ _ ans.1 ans.1 _ true (by simp) (hx48.v1 (S := fun _ => True) (fun _ => trivial)) hW8).mono ?_
  rintro e' w9 ⟨rfl, nq3, hw9⟩
  have hb9 : Below w8.heap.size w8 w9 := by rw [hw9]; exact below_drewN (Below.refl _ _) _
  clear hw9
  have hB9 := hB8.trans (hb9.mono hB8.size)
  have hx49 := hx48.keep (fun hn => hb9.block _ (hx48.lt hn))
  have hW9 := hW8.below hb9
  have Hge := Lib.hid hge4; clear hge4 hx48 hW8
  go_wp2_with fail
  refine (markInt64S_any (fun x => ans.1 ≠ [] ∧ x = b4) _ ans.1 b4 1 _ hx49 (fun hn => ⟨hn, rfl⟩) (by omega) (by omega)).mono ?_
  rintro e' wF ⟨rfl, hX9F, hcF⟩
  have hW5F : V1 (fun b => b < w2.heap.size) wF v2 ans.1 := hW9.mono (fun _ h _ => h) (hcF.keep (fun b hb hf => by have := Hge.out hf.1; omega))
  have hBF := hB9.trans (hcF.to_below (B := W.heap.size) (fun i hi => by have := Hge.out hi.1; omega) hB9.size)
  clear hcF hx49 hW9
  go_wp2_with fail
  refine (heldInt64S_any _ ans.1.length 1 _ (hX9F.v1 (S := fun _ => True) (fun _ => trivial)) (by omega) (by omega)).mono ?_
  rintro e' wF' ⟨rfl, rfl⟩
  obtain ⟨q3, hq3⟩ : ∃ q, (1 + (ans.1.length : Int)) = q := ⟨_, rfl⟩
  have hq3p : 0 ≤ q3 := by omega
  rw [hq3]
  have Hq3 := Lib.hid hq3; clear hq3
  go_wp2_with fail
  refine (toInt64S_any _ l _ (hV.below hBF) hlen).mono ?_
  rintro e' wG ⟨vG, rfl, hxG, _, hbG⟩
  go_wp2_with fail
  refine (RowsOf_any _ l _ (hxG.v1 (S := fun _ => True) (fun _ => trivial))).mono ?_
  rintro e' wI ⟨vI, rfl, hFI, hbI⟩
  rw [HLA.out] at hFI ⊢
  have hbFI := hbG.trans (hbI.mono hbG.size)
  have hX9I := hX9F.keep (fun hn => hbFI.block _ (hX9F.lt hn))
  have hVI := hFI.v1
  clear hxG hFI hX9F
  go_wp2_with fail
  refine (eqInt64S_b _ _ ans.1 ans.1 _ true (by simp) hVI (hW5F.below hbFI)).mono ?_
  rintro e' wJ ⟨rfl, nq4, hwJ⟩
  have hbJ : Below wI.heap.size wI wJ := by rw [hwJ]; exact below_drewN (Below.refl _ _) _
  clear hwJ hVI
  have hbFJ := hbFI.trans (hbJ.mono hbFI.size)
  have hX9J := hX9I.keep (fun hn => hbJ.block _ (hX9I.lt hn))
  clear hX9I
  go_wp2_with fail
  refine (heldInt64S_any _ ans.1.length 1 _ (hX9J.v1 (S := fun _ => True) (fun _ => trivial)) (by omega) (by omega)).mono ?_
  rintro e' wK ⟨rfl, rfl⟩
  rw [Hq3.out]
  go_wp2_with fail
  go_ret
  exact ⟨rfl, hBF.trans (hbFJ.mono hBF.size)⟩
end Go.Proofs.Ytcdgechaehljgaa
