/- Copies of lists: the program's and the reference's. No conditions. -/
import Derived.Test.YtikdbjaimcciiaaGreatClone2
import Derived.Test.YtikdbjaimcciiaaGreatSort
import Derived.Test.YtikdbjaimcciiaaGreatOut
namespace Go.Proofs.YtikdbjaimcciiaaGreat
open Go.RowKit
set_option linter.unusedVariables false
set_option linter.unusedSimpArgs false

set_option maxRecDepth 100000 in
set_option maxHeartbeats 1000000 in
theorem copyLists_any {S : Nat → Prop} (v : Value) (ls : List (List Int)) (W : World) (h : V2 S W v ls) (hl : ls.length ≤ 1000) (hr : ∀ k, k < ls.length → (getl ls k).length ≤ 1000) :
    Calls Tryz.prog 125 #[v] W fun e' w' => ∃ v', e' = .returned v' ∧ F2 W.heap.size w' v' ls ∧ Below W.heap.size W w' := by
  have hV := h
  obtain ⟨a, c, rfl, hm⟩ := h.form
  have hO0 := Out2.start W W.heap.size (Nat.le_refl _)
  have HO0 := Lib.hid hO0; clear hO0
  have Hr := Lib.hid hr; clear hr h
  go_enter Tryz.func125, Tryz.ntmps125
  go_wp2_with fail
  go_loopw [3, 5, 9] (fun ou _ i wr => ∃ k : Nat, k ≤ ls.length ∧ i = .int .i64 (k : Int) ∧ Out2 W.heap.size wr ou (ls.take k) ∧ Below W.heap.size W wr) (fun _ _ i _ => ls.length - (intOf i).toNat)
  case atStart => exact ⟨0, Nat.zero_le _, rfl, HO0.out, (Below.refl _ _).alloc (Nat.le_refl _) _⟩
  case round =>
    obtain ⟨k, hk, rfl, hO, hB⟩ := hrel
    have hzr := hB.size
    by_cases hkk : k < ls.length
    · obtain ⟨b1, off1, a1, c1, rfl, _, hc1, hr1⟩ := (hV.below hB).cell hkk
      have hlk := Hr.out k hkk
      have hlt : (ls.take k).length ≤ 1000 := by rw [List.length_take]; omega
      have hst : ls.take (k + 1) = ls.take k ++ [getl ls k] := take_getl hkk
      obtain ⟨pre, hpre⟩ : ∃ p, ls.take k = p := ⟨_, rfl⟩
      rw [hpre] at hO hst hlt
      have Hst := Lib.hid (And.intro hst hpre); clear hst hpre
      obtain ⟨vs, bk, g1, g2, g3⟩ := hO
      have G := Lib.hid (And.intro g1 (And.intro g2 g3)); clear g1 g2 g3
      go_wp2_with fail
      refine (slClone_any _ (getl ls k) _ hr1 (by omega)).mono ?_
      rintro e' w2 ⟨rv, rfl, ⟨bx, hx, hbx⟩, hb2⟩
      obtain ⟨ra, rc, rfl, hrc1, hrc2, _⟩ := id hx
      have hO2 := own_keep G.out.1 hb2
      have hz2 := hb2.size
      have Hx := Lib.hid (And.intro hx hbx); clear hx hbx
      go_wp2_with (at_builtin; refine wp_app1 _ rfl _ _ 26 rfl W.heap.size 35 (.slice none 0 0) 24 Tryz.underlying26 inf_ints rfl _ _ _ rfl hO2 (.slice ra (getl ls k).length rc) _ rfl rfl (by omega) (by omega) (by omega) ?_; intro v1 w1 hown1 hgrow1 hblk1 hB1)
      go_roundw
      case rel => exact ⟨k + 1, by omega, by go_num, by rw [Hst.out.1]; exact Out2.push G.out.1 G.out.2.1 G.out.2.2 hzr hb2 Hx.out.1 (fun hn => Hx.out.2 hn) hown1 hgrow1 hblk1, (hB.trans (hb2.mono hzr)).trans hB1⟩
      case measure => simp [intOf]; omega
    · obtain rfl : k = ls.length := by omega
      rw [List.take_length] at hO
      obtain ⟨oa, oc, rfl, _, _⟩ := hO.form
      have HO := Lib.hid hO.f2; clear hO
      go_wp2_with fail
      go_ret
      exact ⟨_, rfl, HO.out, hB⟩
set_option maxRecDepth 100000 in
set_option maxHeartbeats 1000000 in
theorem l15Lists_any {S : Nat → Prop} (v : Value) (ls : List (List Int)) (W : World) (h : V2 S W v ls) (hl : ls.length ≤ 1000) (hr : ∀ k, k < ls.length → (getl ls k).length ≤ 1000 ∧ getl ls k ≠ []) :
    Calls Tryz.prog 117 #[v] W fun e' w' => ∃ v', e' = .returned v' ∧ (F2 W.heap.size w' v' ls ∧ PV v') ∧ Below W.heap.size W w' := by
  have hV := h
  obtain ⟨a, c, rfl, hm⟩ := h.form
  have hO0 := Out2.start W W.heap.size (Nat.le_refl _)
  have HO0 := Lib.hid hO0; clear hO0
  have Hr := Lib.hid hr; clear hr h
  go_enter Tryz.func117, Tryz.ntmps117
  go_wp2_with fail
  go_loopw [3, 4] (fun ou i wr => ∃ k : Nat, k ≤ ls.length ∧ i = .int .i64 (k : Int) ∧ Out2 W.heap.size wr ou (ls.take k) ∧ Below W.heap.size W wr) (fun _ i _ => ls.length - (intOf i).toNat)
  case atStart => exact ⟨0, Nat.zero_le _, rfl, HO0.out, (Below.refl _ _).alloc (Nat.le_refl _) _⟩
  case round =>
    obtain ⟨k, hk, rfl, hO, hB⟩ := hrel
    have hzr := hB.size
    by_cases hkk : k < ls.length
    · obtain ⟨b1, off1, a1, c1, rfl, _, hc1, hr1⟩ := (hV.below hB).cell hkk
      have hlk := Hr.out k hkk
      have hlt : (ls.take k).length ≤ 1000 := by rw [List.length_take]; omega
      have hst : ls.take (k + 1) = ls.take k ++ [getl ls k] := take_getl hkk
      obtain ⟨pre, hpre⟩ : ∃ p, ls.take k = p := ⟨_, rfl⟩
      rw [hpre] at hO hst hlt
      have Hst := Lib.hid (And.intro hst hpre); clear hst hpre
      obtain ⟨vs, bk, g1, g2, g3⟩ := hO
      have G := Lib.hid (And.intro g1 (And.intro g2 g3)); clear g1 g2 g3
      have Hlk := Lib.hid hlk.2
      have hlk1 := hlk.1
      clear hlk
      go_wp2_with fail
      refine (l01Own_any _ (getl ls k) _ hr1 (fun e => absurd e Hlk.out) (by omega)).mono ?_
      rintro e' w2 ⟨rv, rfl, hown, hb2⟩
      obtain ⟨bx, hx, hbx⟩ := own_F1 hown
      obtain ⟨ra, rc, rfl, hrc1, hrc2, _⟩ := id hx
      have hO2 := own_keep G.out.1 hb2
      have hz2 := hb2.size
      have Hx := Lib.hid (And.intro hx hbx); clear hx hbx hown
      go_wp2_with (at_builtin; refine wp_app1 _ rfl _ _ 26 rfl W.heap.size 35 (.slice none 0 0) 24 Tryz.underlying26 inf_ints rfl _ _ _ rfl hO2 (.slice ra (getl ls k).length rc) _ rfl rfl (by omega) (by omega) (by omega) ?_; intro v1 w1 hown1 hgrow1 hblk1 hB1)
      go_roundw
      case rel => exact ⟨k + 1, by omega, by go_num, by rw [Hst.out.1]; exact Out2.push G.out.1 G.out.2.1 G.out.2.2 hzr hb2 Hx.out.1 (fun hn => Hx.out.2 hn) hown1 hgrow1 hblk1, (hB.trans (hb2.mono hzr)).trans hB1⟩
      case measure => simp [intOf]; omega
    · obtain rfl : k = ls.length := by omega
      rw [List.take_length] at hO
      have hpv : PV _ := own_pv hO.own.choose_spec
      obtain ⟨oa, oc, rfl, _, _⟩ := hO.form
      have HO := Lib.hid (And.intro hO.f2 hpv); clear hO hpv
      go_wp2_with fail
      go_ret
      exact ⟨_, rfl, HO.out, hB⟩
end Go.Proofs.YtikdbjaimcciiaaGreat
