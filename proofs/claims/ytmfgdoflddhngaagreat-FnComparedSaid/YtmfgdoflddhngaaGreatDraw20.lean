/- The draw of the law that compares designs: mirrored cuts, the next design. No conditions. -/
import Derived.Deep.AppendLies
import Derived.Test.YtmfgdoflddhngaaGreatDraw19
import Derived.Test.YtmfgdoflddhngaaGreatMGoT
namespace Go.Proofs.YtmfgdoflddhngaaGreat
open Go.RowKit
set_option linter.unusedVariables false
set_option linter.unusedSimpArgs false

set_option maxRecDepth 100000 in
theorem l02Code_ok {S : Nat → Prop} (m : Mk) (hm : m.ok = true) (v : Value) (key : List Int) (hk : isKeyB m key = true) (W : World) (h : V1 S W v key) :
    Calls Tryz.prog 287 #[.agg #[.int .i64 m.c, .int .i64 m.d, .int .i64 m.s, .int .i64 m.e, .int .i64 m.l], v] W fun e w' => e = .returned (.int .i64 0) ∧ Below W.heap.size W w' := by
  obtain ⟨a, c, rfl, hmx⟩ := h.form
  have hf0 : fault m key = 0 := of_decide_eq_true hk
  obtain ⟨W1, hW1, hB01, hz01, HZ01, hc01, hh01⟩ := box_facts W #[.int .i64 m.c, .int .i64 m.d, .int .i64 m.s, .int .i64 m.e, .int .i64 m.l] 25
  have HL := Lib.hid (And.intro hm (And.intro hf0 (h.below hB01))); clear hm hf0 hk h hh01
  go_enter Tryz.func287, Tryz.ntmps287
  go_wp2_with fail
  rw [← hW1]
  refine (isMakerR_b m _ true HL.out.1).mono ?_
  rintro e' w2 ⟨rfl, hb2⟩
  have hc2 : ∀ o, w2.cell? ⟨W.heap.size, o, none⟩ = (#[.int .i64 m.c, .int .i64 m.d, .int .i64 m.s, .int .i64 m.e, .int .i64 m.l] : Array Value)[o]? := fun o => by rw [(bcell hb2).1 _ _ hz01, hc01]
  clear hc01
  go_wp2_with fail
  refine (l02Fault_any m _ key _ HL.out.1 (HL.out.2.2.below hb2)).mono ?_
  rintro e' w3 ⟨rfl, hb3⟩
  rw [HL.out.2.1]
  clear hc2
  go_wp2_with fail
  go_ret
  exact ⟨rfl, hB01.trans ((hb2.trans (hb3.mono hb2.size)).mono (by omega))⟩
set_option maxRecDepth 100000 in
set_option maxHeartbeats 2000000 in
theorem MirrorKey_any {S : Nat → Prop} (m : Mk) (hm : m.ok = true) (v : Value) (key : List Int) (hk : isKeyB m key = true) (W : World) (h : V1 S W v key) :
    Calls Tryz.prog 229 #[.agg #[.int .i64 m.c, .int .i64 m.d, .int .i64 m.s, .int .i64 m.e, .int .i64 m.l], v] W fun e w' => ∃ v' l, e = .returned (.tuple #[v', .int .i64 0]) ∧ V1 (fun b => W.heap.size ≤ b) w' v' l ∧ Below W.heap.size W w' := by
  obtain ⟨i0, gi, gz0, gz1, gz2⟩ := info_parts inf_int
  obtain ⟨a, c, rfl, hmx⟩ := h.form
  have hki := isKey_iff.1 hk
  have hmo := Mk.ok_iff.1 hm
  have hkl : key.length ≤ 6 := by omega
  have hkr : ∀ i, i < key.length → 0 ≤ geti key i ∧ geti key i ≤ 7 := fun i hi => by have := hki.2.1 _ (geti_mem hi); omega
  have hmd : 2 ≤ m.d ∧ m.d ≤ 8 := hmo.2.1
  obtain ⟨W1, hW1, hB01, hz01, HZ01, hc01, hh01⟩ := box_facts W #[.int .i64 m.c, .int .i64 m.d, .int .i64 m.s, .int .i64 m.e, .int .i64 m.l] 25
  have HL := Lib.hid (And.intro (l02Code_ok m hm _ key hk W1 (h.below hB01)) (And.intro hkr (And.intro hB01 (h.old.below hB01)))); clear hm hk hki hmo hkr h hh01
  go_enter Tryz.func229, Tryz.ntmps229
  go_wp2_with fail
  rw [← hW1]
  refine HL.out.1.mono ?_
  rintro e' w2 ⟨rfl, hb2⟩
  have hz2 := hb2.size
  have hc2 : ∀ o, w2.cell? ⟨W.heap.size, o, none⟩ = (#[.int .i64 m.c, .int .i64 m.d, .int .i64 m.s, .int .i64 m.e, .int .i64 m.l] : Array Value)[o]? := fun o => by rw [(bcell hb2).1 _ _ hz01, hc01]
  have hown0 := own_lit0 w2 w2.heap.size 2 1 (Nat.le_refl _)
  have hbl : Below w2.heap.size w2 (w2.alloc (.cells #[] 2)) := (Below.refl _ _).alloc (Nat.le_refl _) _
  have H2 := Lib.hid (And.intro hown0 (And.intro hbl (And.intro (HL.out.2.2.1.trans (hb2.mono (by omega))) (And.intro (HL.out.2.2.2.below hb2) hc2)))); clear hown0 hbl hb2 hc01 hW1 hB01 hc2
  go_wp2_with fail
  go_loopw [7, 8] (fun ov iv wr => ∃ (k : Nat) (l : List Int), k ≤ key.length ∧ iv = .int .i64 (k : Int) ∧ l.length = k ∧ wr.ownsRow w2.heap.size 2 1 ov l.length (l.map (Value.int .i64)) ∧ Below w2.heap.size w2 wr) (fun _ iv _ => key.length - (intOf iv).toNat)
  case atStart => exact ⟨0, [], Nat.zero_le _, rfl, rfl, H2.out.1, H2.out.2.1⟩
  case round =>
    obtain ⟨k, l, hkk0, rfl, hlk, hown, hB⟩ := hrel
    have hzr := hB.size
    obtain ⟨oa, oc, rfl, _, _⟩ := own_form hown
    have hcr : ∀ o, wr.cell? ⟨W.heap.size, o, none⟩ = (#[.int .i64 m.c, .int .i64 m.d, .int .i64 m.s, .int .i64 m.e, .int .i64 m.l] : Array Value)[o]? := fun o => by rw [(bcell hB).1 _ _ (by omega), H2.out.2.2.2.2]
    by_cases hkk : k < key.length
    · have hkd : decide (k < key.length) = true := decide_eq_true hkk
      have hkd2 : decide ((k : Int) < (key.length : Int)) = true := decide_eq_true (by omega)
      have hkn : ¬ key.length ≤ k := by omega
      have hx := HL.out.2.1 k hkk
      obtain ⟨bk, ok, rfl, hbk, hck⟩ := (H2.out.2.2.2.1.below hB).cell hkk
      have hbk : bk < W.heap.size := hbk
      obtain ⟨x, hxe⟩ : ∃ x, geti key k = x := ⟨_, rfl⟩
      rw [hxe] at hx hck
      have hw1 : IntKind.i64.wrap (m.d - 1) = m.d - 1 := IntWalk.i64_in _ (by omega)
      have hw2 : IntKind.i64.wrap (m.d - 1 - x) = m.d - 1 - x := IntWalk.i64_in _ (by omega)
      have hcd : wr.cell? ⟨W.heap.size, 1, none⟩ = some (.int .i64 m.d) := hcr 1
      have hll : l.length ≤ 1000 := by omega
      have Hx := Lib.hid (And.intro hxe hlk); clear hxe hlk
      have HO := Lib.hid (And.intro hown hB); clear hown hB hcr
      obtain ⟨wo, rfl⟩ : ∃ q, q = wr := ⟨_, rfl⟩
      go_wp2_with fail
      refine wp_region_noPanic ?_
      refine wp_region_held_drew (S := fun w' => w'.cell? ⟨W.heap.size, 1, none⟩ = some (.int .i64 m.d) ∧ w'.cell? ⟨bk, ok + k, none⟩ = some (.int .i64 x)) (by kernel_rfl) ⟨hcd, hck⟩ (fun hHeld => ?_)
      (refine wpAnyH_take (i := 0) (v := .slice oa l.length oc) rfl (by kernel_rfl) (by kernel_rfl) (by kernel_rfl) (fun _ _ _ h => h) (Or.inl ⟨by kernel_rfl, fun w hSw => by (try dsimp only at hSw); go_split_ands; go_simp⟩) (by assumption) ?_; simp only [Act.put, List.setIfInBounds_toArray, List.set_cons_zero, List.set_cons_succ])
      (refine wpAnyH_take (i := 1) (v := .pointer (some ⟨W.heap.size, 1, none⟩)) rfl (by kernel_rfl) (by kernel_rfl) (by kernel_rfl) (fun _ _ _ h => h) (Or.inl ⟨by kernel_rfl, fun w hSw => by (try dsimp only at hSw); go_split_ands; go_simp⟩) (by assumption) ?_; simp only [Act.put, List.setIfInBounds_toArray, List.set_cons_zero, List.set_cons_succ])
      (refine wpAnyH_take (i := 2) (v := .int .i64 m.d) rfl (by kernel_rfl) (by kernel_rfl) (by kernel_rfl) (fun _ _ _ h => h) (Or.inl ⟨by kernel_rfl, fun w hSw => by (try dsimp only at hSw); go_split_ands; go_simp⟩) (by assumption) ?_; simp only [Act.put, List.setIfInBounds_toArray, List.set_cons_zero, List.set_cons_succ])
      (refine wpAnyH_take (i := 3) (v := .int .i64 (m.d - 1)) rfl (by kernel_rfl) (by kernel_rfl) (by kernel_rfl) (fun _ _ _ h => h) (Or.inl ⟨by kernel_rfl, fun w hSw => by (try dsimp only at hSw); go_split_ands; go_simp⟩) (by assumption) ?_; simp only [Act.put, List.setIfInBounds_toArray, List.set_cons_zero, List.set_cons_succ])
      (refine wpAnyH_take (i := 4) (v := .slice (some ⟨bk, ok, none⟩) key.length c) rfl (by kernel_rfl) (by kernel_rfl) (by kernel_rfl) (fun _ _ _ h => h) (Or.inl ⟨by kernel_rfl, fun w hSw => by (try dsimp only at hSw); go_split_ands; go_simp⟩) (by assumption) ?_; simp only [Act.put, List.setIfInBounds_toArray, List.set_cons_zero, List.set_cons_succ])
      (refine wpAnyH_take (i := 5) (v := .int .i64 (k : Int)) rfl (by kernel_rfl) (by kernel_rfl) (by kernel_rfl) (fun _ _ _ h => h) (Or.inl ⟨by kernel_rfl, fun w hSw => by (try dsimp only at hSw); go_split_ands; go_simp⟩) (by assumption) ?_; simp only [Act.put, List.setIfInBounds_toArray, List.set_cons_zero, List.set_cons_succ])
      (refine wpAnyH_take (i := 6) (v := .pointer (some ⟨bk, ok + k, none⟩)) rfl (by kernel_rfl) (by kernel_rfl) (by kernel_rfl) (fun _ _ _ h => h) (Or.inl ⟨by kernel_rfl, fun w hSw => by (try dsimp only at hSw); go_split_ands; go_simp⟩) (by assumption) ?_; simp only [Act.put, List.setIfInBounds_toArray, List.set_cons_zero, List.set_cons_succ])
      (refine wpAnyH_take (i := 7) (v := .int .i64 x) rfl (by kernel_rfl) (by kernel_rfl) (by kernel_rfl) (fun _ _ _ h => h) (Or.inl ⟨by kernel_rfl, fun w hSw => by (try dsimp only at hSw); go_split_ands; go_simp⟩) (by assumption) ?_; simp only [Act.put, List.setIfInBounds_toArray, List.set_cons_zero, List.set_cons_succ])
      (refine wpAnyH_take (i := 8) (v := .int .i64 (m.d - 1 - x)) rfl (by kernel_rfl) (by kernel_rfl) (by kernel_rfl) (fun _ _ _ h => h) (Or.inl ⟨by kernel_rfl, fun w hSw => by (try dsimp only at hSw); go_split_ands; go_simp⟩) (by assumption) ?_; simp only [Act.put, List.setIfInBounds_toArray, List.set_cons_zero, List.set_cons_succ])
      (refine wpAnyH_ready (rs := [9]) (by kernel_rfl) (by simp) (AllReadyH.cons rfl (fun K hK => ?_) AllReadyH.nil); go_simp)
      have hba : Below wo.heap.size wo (wo.alloc (.cells #[.int .i64 (m.d - 1 - x)] 2)) := (Below.refl _ _).alloc (Nat.le_refl _) _
      have hSa : (wo.alloc (.cells #[.int .i64 (m.d - 1 - x)] 2)).drew.cell? ⟨W.heap.size, 1, none⟩ = some (.int .i64 m.d) ∧ (wo.alloc (.cells #[.int .i64 (m.d - 1 - x)] 2)).drew.cell? ⟨bk, ok + k, none⟩ = some (.int .i64 x) := ⟨cell_keep hcd (hba.block _ (lt_of_cell hcd)), cell_keep hck (hba.block _ (lt_of_cell hck))⟩
      (refine hK.out _ _ hSa (fun hHeld => ?_); clear hK K; (try simp only [Act.put, List.setIfInBounds_toArray, List.set_cons_zero, List.set_cons_succ]))
      refine wpAnyH_ready (rs := [10]) (by kernel_rfl) (by simp) (AllReadyH.cons rfl (fun K hK => ?_) AllReadyH.nil)
      refine step_append_lies _ (by rfl) _ _ _ (by rfl) w2.heap.size 2 i0 _ 1 8 Tryz.underlying46 gi gz0 gz1 gz2 rfl (by omega) _ l.length _ (by rfl) (HO.out.1.alloc _) ⟨_, 0, none⟩ 1 1 [.int .i64 (m.d - 1 - x)] (by rfl) (by rfl) (World.news_of_block (heap_alloc_new _ _)) (by simp [Value.oneCell']) (by omega) (by unfold maxLen; omega) (by omega) (by simp; omega) _ rfl ?_
      intro gg cap w8 hown8 hgrow8 hat8 hlt8
      have hobl : ∀ g, Value.ownBlock (.slice oa l.length oc) = some g → w2.heap.size ≤ g := fun g hg => (HO.out.1.lt g hg).1
      have hB8 : Below w2.heap.size w2 w8 := ((HO.out.2.alloc (by omega) _).drew).grown hgrow8 (by simp; omega) hobl
      have hS8 : w8.cell? ⟨W.heap.size, 1, none⟩ = some (.int .i64 m.d) := cell_keep (H2.out.2.2.2.2 1) (hB8.block _ (by omega))
      have hck8 : w8.cell? ⟨bk, ok + k, none⟩ = some (.int .i64 x) := cell_keep hSa.2 (hgrow8.block _ (by simp; have := lt_of_cell hck; omega) (fun e => by
        have h1 := hobl bk e.symm
        omega))
      have hown9 : w8.ownsRow w2.heap.size 2 1 (.slice (some ⟨gg, 0, none⟩) (l ++ [m.d - 1 - x]).length cap) (l ++ [m.d - 1 - x]).length ((l ++ [m.d - 1 - x]).map (Value.int .i64)) := by simpa using hown8
      have H8 := Lib.hid (And.intro hown9 hB8); clear hown9 hown8 hB8 hgrow8 hat8 hlt8 hSa hba
      have hl9 : (l ++ [m.d - 1 - x]).length = l.length + 1 := by simp
      (refine hK.out _ _ (And.intro hS8 hck8) (fun hHeld => ?_); clear hK K; (try simp only [Act.put, List.setIfInBounds_toArray, List.set_cons_zero, List.set_cons_succ]))
      (refine wpAnyH_ready (rs := [11]) (by kernel_rfl) (by simp) (AllReadyH.cons rfl (fun K hK => ?_) AllReadyH.nil); go_simp)
      (refine hK.out _ _ (And.intro hS8 hck8) (fun hHeld => ?_); clear hK K; (try simp only [Act.put, List.setIfInBounds_toArray, List.set_cons_zero, List.set_cons_succ]))
      refine wpAnyH_done (by kernel_rfl) (NoPanic.normal ?_) _
      clear hl9
      go_wp2_with fail
      go_roundw
      case rel => exact ⟨k + 1, l ++ [m.d - 1 - x], by omega, by go_num, by have := Hx.out.2; simp; omega, by simpa using H8.out.1, H8.out.2⟩
      case measure => simp [intOf]; omega
    · have hkd : decide (k < key.length) = false := decide_eq_false hkk
      have hkd2 : decide ((k : Int) < (key.length : Int)) = false := decide_eq_false (by omega)
      have HZ := Lib.hid (And.intro ((own_F1 (own_base hown (show W.heap.size ≤ w2.heap.size by omega))).v1) (H2.out.2.2.1.trans (hB.mono (by omega)))); clear hown hB hcr
      go_wp2_with fail
      go_ret2
      exact ⟨_, l, rfl, HZ.out.1, HZ.out.2⟩
def MirPost (W : World) (e : Ending) (w' : World) : Prop := ∃ v' ls, e = .returned (.tuple #[v', .int .i64 0]) ∧ V2 (fun b => W.heap.size ≤ b) w' v' ls ∧ Below W.heap.size W w'
set_option maxRecDepth 100000 in
set_option maxHeartbeats 2000000 in
theorem MirrorCuts_any {S S' : Nat → Prop} (m : Mk) (u v : Value) (t cuts : List (List Int)) (hd : designC m t cuts = 0) (W : World) (h : V2 S W u t) (hc : V2 S' W v cuts) :
    Calls Tryz.prog 113 #[.agg #[.int .i64 m.c, .int .i64 m.d, .int .i64 m.s, .int .i64 m.e, .int .i64 m.l, u], v] W (MirPost W) := by
  obtain ⟨hf, hcl⟩ := design_fits hd
  have hcode := (designC_ok hd).1
  obtain ⟨a, c, rfl, hmx⟩ := h.form
  obtain ⟨a', c', rfl, hmx'⟩ := hc.form
  have hc9 : cuts.length ≤ 10 := by have := hf.rows; omega
  obtain ⟨W1, hW1, hB01, hz01, HZ01, hc01, hh01⟩ := box_facts W #[.int .i64 m.c, .int .i64 m.d, .int .i64 m.s, .int .i64 m.e, .int .i64 m.l, .slice a t.length c] 28
  have hl15 := l15Code_any m _ _ t cuts W1 (h.below hB01) (hc.below hB01)
  rw [hcode] at hl15
  have HL := Lib.hid (And.intro hl15 (And.intro hf (And.intro hB01 (hc.old.below hB01)))); clear hl15 hf hcode hcl hd h hc hh01
  go_enter Tryz.func113, Tryz.ntmps113
  go_wp2_with fail
  rw [← hW1]
  refine HL.out.1.mono ?_
  rintro e' w2 ⟨rfl, hb2⟩
  have hz2 := hb2.size
  have hc2 : ∀ o, w2.cell? ⟨W.heap.size, o, none⟩ = (#[.int .i64 m.c, .int .i64 m.d, .int .i64 m.s, .int .i64 m.e, .int .i64 m.l, .slice a t.length c] : Array Value)[o]? := fun o => by rw [(bcell hb2).1 _ _ hz01, hc01]
  have hO0 : OV w2.heap.size (w2.alloc (.cells #[] 46)) (.slice (some ⟨w2.heap.size, 0, none⟩) 0 0) [] := OV.nil (own_lit0 w2 w2.heap.size 46 1 (Nat.le_refl _))
  have hbl : Below w2.heap.size w2 (w2.alloc (.cells #[] 46)) := (Below.refl _ _).alloc (Nat.le_refl _) _
  have H2 := Lib.hid (And.intro hO0 (And.intro hbl (And.intro (HL.out.2.2.1.trans (hb2.mono (by omega))) (And.intro (HL.out.2.2.2.below hb2) hc2)))); clear hO0 hbl hb2 hc01 hW1 hB01 hc2
  go_wp2_with fail
  go_loopw [7, 8, 9, 10] (fun ov iv _ _ wr => ∃ (k : Nat) (ls : List (List Int)), k ≤ cuts.length ∧ iv = .int .i64 (k : Int) ∧ ls.length = k ∧ OV w2.heap.size wr ov ls ∧ Below w2.heap.size w2 wr) (fun _ iv _ _ _ => cuts.length - (intOf iv).toNat)
  case atStart => exact ⟨0, [], Nat.zero_le _, rfl, rfl, H2.out.1, H2.out.2.1⟩
  case round =>
    obtain ⟨k, ls, hkk0, rfl, hlk, hO, hB⟩ := hrel
    have hzr := hB.size
    obtain ⟨oa, oc, rfl, _, _⟩ := hO.form
    obtain ⟨wo, rfl⟩ : ∃ q, q = wr := ⟨_, rfl⟩
    by_cases hkk : k < cuts.length
    · have hkd : decide (k < cuts.length) = true := decide_eq_true hkk
      have hkd2 : decide ((k : Int) < (cuts.length : Int)) = true := decide_eq_true (by omega)
      have hkn : ¬ cuts.length ≤ k := by omega
      obtain ⟨bk, ok, ka, kc, rfl, hbk, hck, hrow⟩ := (H2.out.2.2.2.1.below hB).cell hkk
      have hbk : bk < W.heap.size := hbk
      have hkey := HL.out.2.1.keys k hkk
      obtain ⟨key, hke⟩ : ∃ q, getl cuts k = q := ⟨_, rfl⟩
      rw [hke] at hck hrow hkey
      have hll : ls.length ≤ 1000 := by omega
      have hS : ∀ w' : World, Below wo.heap.size wo w' → (w'.cell? ⟨W.heap.size, 0, none⟩ = some (.int .i64 m.c) ∧ w'.cell? ⟨W.heap.size, 1, none⟩ = some (.int .i64 m.d) ∧ w'.cell? ⟨W.heap.size, 2, none⟩ = some (.int .i64 m.s) ∧ w'.cell? ⟨W.heap.size, 3, none⟩ = some (.int .i64 m.e) ∧ w'.cell? ⟨W.heap.size, 4, none⟩ = some (.int .i64 m.l)) ∧ w'.cell? ⟨bk, ok + k, none⟩ = some (.slice ka key.length kc) := fun w' hb => by
        have hM : w'.heap[W.heap.size]? = w2.heap[W.heap.size]? := by rw [hb.block _ (by omega), hB.block _ (by omega)]
        exact ⟨⟨cell_keep (H2.out.2.2.2.2 _) hM, cell_keep (H2.out.2.2.2.2 _) hM, cell_keep (H2.out.2.2.2.2 _) hM, cell_keep (H2.out.2.2.2.2 _) hM, cell_keep (H2.out.2.2.2.2 _) hM⟩, cell_keep hck (hb.block _ (by omega))⟩
      have hbD : Below wo.heap.size wo wo.drew := (Below.refl _ _).drew
      have HO := Lib.hid (And.intro hO (And.intro hB (And.intro hrow (And.intro hkey (And.intro hke hlk))))); clear hO hB hrow hkey hke hlk
      go_wp2_with fail
      refine wp_region_noPanic ?_
      refine wp_region_held_drew (S := fun w' => (w'.cell? ⟨W.heap.size, 0, none⟩ = some (.int .i64 m.c) ∧ w'.cell? ⟨W.heap.size, 1, none⟩ = some (.int .i64 m.d) ∧ w'.cell? ⟨W.heap.size, 2, none⟩ = some (.int .i64 m.s) ∧ w'.cell? ⟨W.heap.size, 3, none⟩ = some (.int .i64 m.e) ∧ w'.cell? ⟨W.heap.size, 4, none⟩ = some (.int .i64 m.l)) ∧ w'.cell? ⟨bk, ok + k, none⟩ = some (.slice ka key.length kc)) (by kernel_rfl) (hS _ hbD) (fun hHeld => ?_)
      (refine wpAnyH_take (i := 0) (v := .pointer (some ⟨W.heap.size, 0, none⟩)) rfl (by kernel_rfl) (by kernel_rfl) (by kernel_rfl) (fun _ _ _ h => h) (Or.inl ⟨by kernel_rfl, fun w hSw => by (try dsimp only at hSw); go_split_ands; go_simp⟩) (by assumption) ?_; simp only [Act.put, List.setIfInBounds_toArray, List.set_cons_zero, List.set_cons_succ])
      (refine wpAnyH_take (i := 1) (v := .agg #[.int .i64 m.c, .int .i64 m.d, .int .i64 m.s, .int .i64 m.e, .int .i64 m.l]) rfl (by kernel_rfl) (by kernel_rfl) (by kernel_rfl) (fun _ _ _ h => h) (Or.inl ⟨by kernel_rfl, fun w hSw => by (try dsimp only at hSw); go_split_ands; go_simp⟩) (by assumption) ?_; simp only [Act.put, List.setIfInBounds_toArray, List.set_cons_zero, List.set_cons_succ])
      (refine wpAnyH_take (i := 2) (v := .slice (some ⟨bk, ok, none⟩) cuts.length c') rfl (by kernel_rfl) (by kernel_rfl) (by kernel_rfl) (fun _ _ _ h => h) (Or.inl ⟨by kernel_rfl, fun w hSw => by (try dsimp only at hSw); go_split_ands; go_simp⟩) (by assumption) ?_; simp only [Act.put, List.setIfInBounds_toArray, List.set_cons_zero, List.set_cons_succ])
      (refine wpAnyH_take (i := 3) (v := .int .i64 (k : Int)) rfl (by kernel_rfl) (by kernel_rfl) (by kernel_rfl) (fun _ _ _ h => h) (Or.inl ⟨by kernel_rfl, fun w hSw => by (try dsimp only at hSw); go_split_ands; go_simp⟩) (by assumption) ?_; simp only [Act.put, List.setIfInBounds_toArray, List.set_cons_zero, List.set_cons_succ])
      (refine wpAnyH_take (i := 4) (v := .pointer (some ⟨bk, ok + k, none⟩)) rfl (by kernel_rfl) (by kernel_rfl) (by kernel_rfl) (fun _ _ _ h => h) (Or.inl ⟨by kernel_rfl, fun w hSw => by (try dsimp only at hSw); go_split_ands; go_simp⟩) (by assumption) ?_; simp only [Act.put, List.setIfInBounds_toArray, List.set_cons_zero, List.set_cons_succ])
      (refine wpAnyH_take (i := 5) (v := .slice ka key.length kc) rfl (by kernel_rfl) (by kernel_rfl) (by kernel_rfl) (fun _ _ _ h => h) (Or.inl ⟨by kernel_rfl, fun w hSw => by (try dsimp only at hSw); go_split_ands; go_simp⟩) (by assumption) ?_; simp only [Act.put, List.setIfInBounds_toArray, List.set_cons_zero, List.set_cons_succ])
      refine wpAnyH_ready (rs := [6]) (by kernel_rfl) (by simp) (AllReadyH.cons rfl (fun K hK => ?_) AllReadyH.nil)
      go_simp
      go_at_call 229
      refine (MirrorKey_any m HL.out.2.1.ok _ key HO.out.2.2.2.1 _ (HO.out.2.2.1.below hbD)).mono ?_
      rintro e' w3 ⟨mv, ml, rfl, hV3, hb3⟩
      have hb : Below wo.heap.size wo w3 := hbD.trans (hb3.mono (Nat.le_refl _))
      obtain ⟨ma, mc, rfl, _⟩ := hV3.form
      have hSz := hS _ hb
      have hz3 := hb.size
      have hV3' : V1 (fun b => wo.heap.size ≤ b) w3 (.slice ma ml.length mc) ml := hV3
      obtain ⟨vs, hvs, hrv⟩ := HO.out.1
      have H3 := Lib.hid (And.intro hV3' (And.intro hb (And.intro hvs hrv))); clear hV3 hV3' hb3 hb hvs hrv
      dsimp only
      (refine hK.out _ _ hSz (fun hHeld => ?_); clear hK K; (try simp only [Act.put, List.setIfInBounds_toArray, List.set_cons_zero, List.set_cons_succ]))
      (refine wpAnyH_take (i := 7) (v := .tuple #[.slice ma ml.length mc, .int .i64 0]) rfl (by kernel_rfl) (by kernel_rfl) (by kernel_rfl) (fun _ _ _ h => h) (Or.inl ⟨by kernel_rfl, fun w hSw => by (try dsimp only at hSw); go_split_ands; go_simp⟩) (by assumption) ?_; simp only [Act.put, List.setIfInBounds_toArray, List.set_cons_zero, List.set_cons_succ])
      (refine wpAnyH_take (i := 8) (v := .slice ma ml.length mc) rfl (by kernel_rfl) (by kernel_rfl) (by kernel_rfl) (fun _ _ _ h => h) (Or.inl ⟨by kernel_rfl, fun w hSw => by (try dsimp only at hSw); go_split_ands; go_simp⟩) (by assumption) ?_; simp only [Act.put, List.setIfInBounds_toArray, List.set_cons_zero, List.set_cons_succ])
      (refine wpAnyH_take (i := 9) (v := .int .i64 0) rfl (by kernel_rfl) (by kernel_rfl) (by kernel_rfl) (fun _ _ _ h => h) (Or.inl ⟨by kernel_rfl, fun w hSw => by (try dsimp only at hSw); go_split_ands; go_simp⟩) (by assumption) ?_; simp only [Act.put, List.setIfInBounds_toArray, List.set_cons_zero, List.set_cons_succ])
      (refine wpAnyH_ready (rs := [10]) (by kernel_rfl) (by simp) (AllReadyH.cons rfl (fun K hK => ?_) AllReadyH.nil); go_simp)
      (refine hK.out _ _ hSz (fun hHeld => ?_); clear hK K; (try simp only [Act.put, List.setIfInBounds_toArray, List.set_cons_zero, List.set_cons_succ]))
      (refine wpAnyH_ready (rs := [11]) (by kernel_rfl) (by simp) (AllReadyH.cons rfl (fun K hK => ?_) AllReadyH.nil); go_simp)
      (refine hK.out _ _ hSz (fun hHeld => ?_); clear hK K; (try simp only [Act.put, List.setIfInBounds_toArray, List.set_cons_zero, List.set_cons_succ]))
      refine wpAnyH_done (by kernel_rfl) (NoPanic.normal ?_) _
      have hvs3 := own_keep H3.out.2.2.1 H3.out.2.1
      clear hSz hS hHeld hbD hck
      go_wp2_with ((at_builtin; refine wp_app1 _ rfl _ _ 26 rfl w2.heap.size 46 (.slice none 0 0) 24 Tryz.underlying26 inf_ints rfl _ _ _ rfl hvs3 (.slice ma ml.length mc) _ rfl rfl (by omega) (by omega) (by omega) ?_; intro v1 w1 hown1 hgrow1 hblk1 hB1); refine Hid.out ?_)
      refine Lib.hid ?_
      have hP := OV.push H3.out.2.2.1 H3.out.2.2.2 (by omega) hz3 (fun b h1 h2 => H3.out.2.1.block b h2) H3.out.1 hown1 hgrow1 hblk1
      have H4 := Lib.hid (And.intro hP (HO.out.2.1.trans ((H3.out.2.1.mono (by omega)).trans hB1))); clear hP hgrow1 hblk1 hB1
      obtain ⟨na, nc, rfl, _, _⟩ := own_form hown1
      clear hown1 hvs3
      go_wp2_with fail
      go_roundw
      case rel => exact ⟨k + 1, ls ++ [ml], by omega, by go_num, by have := HO.out.2.2.2.2.2; simp; omega, H4.out.1, H4.out.2⟩
      case measure => simp [intOf]; omega
    · have hkd : decide (k < cuts.length) = false := decide_eq_false hkk
      have hkd2 : decide ((k : Int) < (cuts.length : Int)) = false := decide_eq_false (by omega)
      have HZ := Lib.hid (And.intro ((hO.base (show W.heap.size ≤ w2.heap.size by omega)).v2) (H2.out.2.2.1.trans (hB.mono (by omega)))); clear hO hB
      go_wp2_with fail
      go_ret2
      exact ⟨_, ls, rfl, HZ.out.1, HZ.out.2⟩
def DrawCc (W : World) : Ending → World → Prop := DrawC W fun _ _ _ w' vs => ∃ dv dd, vs = [dv] ∧ V2 (fun b => W.heap.size ≤ b) w' dv dd
theorem DrawCc.open {W w' : World} {e : Ending} (h : DrawCc W e w') : ∃ (m : Mk) (u cv : Value) (T cuts : List (List Int)) (dv : Value) (dd : List (List Int)), e = .returned (.tuple #[.agg #[.int .i64 m.c, .int .i64 m.d, .int .i64 m.s, .int .i64 m.e, .int .i64 m.l, u], cv, dv]) ∧ V2 (fun b => W.heap.size ≤ b) w' dv dd ∧ V2 (fun b => W.heap.size ≤ b) w' u T ∧ V2 (fun b => W.heap.size ≤ b) w' cv cuts ∧ Below W.heap.size W w' := by
  obtain ⟨m, u, cv, T, cuts, vs, rfl, ⟨dv, dd, rfl, h0⟩, h1, h2, h3⟩ := h
  exact ⟨m, u, cv, T, cuts, dv, dd, rfl, h0, h1, h2, h3⟩
set_option maxRecDepth 100000 in
set_option maxHeartbeats 4000000 in
theorem DrawCompareDesigns_any {S : Nat → Prop} (v : Value) (l : List Int) (W : World) (h : VB S W v l) :
    Calls Tryz.prog 21 #[v] W (DrawCc W) := by
  obtain ⟨a, c, rfl, hm⟩ := h.form
  obtain ⟨W1, hW1, hB01, hz01, HZ01, _, hh01⟩ := box_facts W #[.int .i64 0, .int .i64 0, .int .i64 0, .int .i64 0, .int .i64 0, .slice none 0 0] 28
  have hz1e := HZ01.out
  have hz1l : W1.heap.size ≤ W.heap.size + 1 := by omega
  have HL := Lib.hid (And.intro (h.below hB01) (And.intro hB01 (And.intro hh01 hW1))); clear h hh01 hB01 hz1e
  go_enter Tryz.func21, Tryz.ntmps21
  go_wp2_with fail
  rw [← HL.out.2.2.2]
  clear hW1
  refine (l01From_any _ l W1 HL.out.1).mono ?_
  rintro e' w2 ⟨rfl, hs2, hb2⟩
  have hz2 := hb2.size
  have H2 := Lib.hid (And.intro hs2 (And.intro hb2 ((hb2.block _ hz01).trans HL.out.2.2.1))); clear hs2 hb2
  go_wp2_with fail
  refine (l21Draw_any W1.heap.size W1.heap.size w2 H2.out.1).mono ?_
  rintro e' w3 ⟨m, u, cv, T, cuts, rfl, hsm, hu, hcv, hs3, ho3⟩
  have hz3 := ho3.size
  have hz23 : W1.heap.size < w2.heap.size := H2.out.1.lt
  obtain ⟨ta, tc, rfl, _⟩ := hu.form
  obtain ⟨ca, cc, rfl, _⟩ := hcv.form
  have hRw := ho3.heap H2.out.2.2 (fun e => by omega)
  have hBw : Below W.heap.size W w3 := HL.out.2.1.trans ((H2.out.2.1.trans (ho3.to_below (Nat.le_refl _) (by omega))).mono (by omega))
  obtain ⟨w4, hw4⟩ : ∃ w4, w4 = w3.alloc (.cells #[.int .i64 m.c, .int .i64 m.d, .int .i64 m.s, .int .i64 m.e, .int .i64 m.l, .slice ta T.length tc] 28) := ⟨_, rfl⟩
  have hb34 : Below w3.heap.size w3 w4 := by rw [hw4]; exact (Below.refl _ _).alloc (Nat.le_refl _) _
  have hM4 : w4.heap[w3.heap.size]? = some (.cells #[.int .i64 m.c, .int .i64 m.d, .int .i64 m.s, .int .i64 m.e, .int .i64 m.l, .slice ta T.length tc] 28 (0, 0)) := by rw [hw4]; exact heap_alloc_self _ _
  have hz4 : w3.heap.size < w4.heap.size := lt_of_heap hM4
  have H4 := Lib.hid (And.intro (hs3.below hb34) (And.intro (hBw.trans (hb34.mono (by omega))) (And.intro hM4 (And.intro ((hb34.block _ (by omega)).trans hRw) (And.intro (hu.below hb34) (And.intro (hcv.below hb34) (And.intro hsm hw4))))))); clear hs3 ho3 hRw hBw hb34 hM4 hu hcv hsm hw4
  have hcM : ∀ o, w4.cell? ⟨w3.heap.size, o, none⟩ = (#[.int .i64 m.c, .int .i64 m.d, .int .i64 m.s, .int .i64 m.e, .int .i64 m.l, .slice ta T.length tc] : Array Value)[o]? := fun o => by rw [cell_of_block H4.out.2.2.1]
  have hSk : ∀ w' : World, w'.heap[w3.heap.size]? = w4.heap[w3.heap.size]? → w'.cell? ⟨w3.heap.size, 0, none⟩ = some (.int .i64 m.c) ∧ w'.cell? ⟨w3.heap.size, 1, none⟩ = some (.int .i64 m.d) ∧ w'.cell? ⟨w3.heap.size, 2, none⟩ = some (.int .i64 m.s) ∧ w'.cell? ⟨w3.heap.size, 3, none⟩ = some (.int .i64 m.e) ∧ w'.cell? ⟨w3.heap.size, 4, none⟩ = some (.int .i64 m.l) ∧ w'.cell? ⟨w3.heap.size, 5, none⟩ = some (.slice ta T.length tc) := fun w' hw => by
    refine ⟨?_, ?_, ?_, ?_, ?_, ?_⟩ <;> exact cell_keep (hcM _) hw
  go_wp2_with fail
  rw [← H4.out.2.2.2.2.2.2.2]
  obtain ⟨r, hr⟩ : ∃ r, designB m T cuts = r := ⟨_, rfl⟩
  refine (IsDesignR_b m _ _ T cuts _ r hr H4.out.2.2.2.2.1 H4.out.2.2.2.2.2.1).mono ?_
  rintro e' w5 ⟨rfl, hb5⟩
  have hz5 := hb5.size
  have ho5 : Only W1.heap.size w4 w5 := Only.of_below hb5
  have hM5 := hb5.block _ hz4
  have hcM5 : ∀ o, w5.cell? ⟨w3.heap.size, o, none⟩ = (#[.int .i64 m.c, .int .i64 m.d, .int .i64 m.s, .int .i64 m.e, .int .i64 m.l, .slice ta T.length tc] : Array Value)[o]? := fun o => by rw [World.cell?_of_block (w := w4) (a := ⟨w3.heap.size, o, none⟩) hM5]; exact hcM o
  have H5 := Lib.hid (And.intro (H4.out.1.below hb5) ho5); clear ho5 hM5 hb5 hcM hSk
  cases r
  · have Hr := Lib.hid hr; clear hr
    obtain ⟨wb, rfl⟩ : ∃ x, x = w5 := ⟨_, rfl⟩
    have hob4 : Only W1.heap.size w4 wb := H5.out.2
    clear hcM5
    -- returns, at world wb (hob4 : Only W1.heap.size w4 wb), with second cuts (.slice ca cuts.length cc) (list cuts, fact (H4.out.2.2.2.2.2.1.mono (S' := fun b => W1.heap.size ≤ b) (fun b hb _ => by have hb : w2.heap.size ≤ b := hb; omega) (hob4.keep fun b hb e => by have hb : w2.heap.size ≤ b := hb; omega)))
    have HBV := Lib.hid ((H4.out.2.2.2.2.2.1.mono (S' := fun b => W1.heap.size ≤ b) (fun b hb _ => by have hb : w2.heap.size ≤ b := hb; omega) (hob4.keep fun b hb e => by have hb : w2.heap.size ≤ b := hb; omega)))
    -- at world wb (Only the source since w4): facts behind the last call of a region that returns
    have hzb := hob4.size
    have hMb : wb.heap[w3.heap.size]? = w4.heap[w3.heap.size]? := hob4.block _ (by omega) (fun e => by omega)
    have hBb : Below W.heap.size W wb := H4.out.2.1.trans ((hob4.to_below (B := W1.heap.size) (Nat.le_refl _) (by omega)).mono (by omega))
    have hRb := hob4.heap H4.out.2.2.2.1 (fun e => by omega)
    have hub := H4.out.2.2.2.2.1.mono (S' := fun b => W1.heap.size ≤ b) (fun b hb _ => by have hb : w2.heap.size ≤ b := hb; omega) (hob4.keep fun b hb e => by have hb : w2.heap.size ≤ b := hb; omega)
    have hcb := H4.out.2.2.2.2.2.1.mono (S' := fun b => W1.heap.size ≤ b) (fun b hb _ => by have hb : w2.heap.size ≤ b := hb; omega) (hob4.keep fun b hb e => by have hb : w2.heap.size ≤ b := hb; omega)
    have hC := Lib.hid (And.intro hBb (And.intro hRb (And.intro hub (And.intro hcb hMb)))); clear hBb hRb hub hcb
    have hcMb : ∀ o, wb.cell? ⟨w3.heap.size, o, none⟩ = (#[.int .i64 m.c, .int .i64 m.d, .int .i64 m.s, .int .i64 m.e, .int .i64 m.l, .slice ta T.length tc] : Array Value)[o]? := fun o => by rw [World.cell?_of_block (w := w4) (a := ⟨w3.heap.size, o, none⟩) hMb]; rw [cell_of_block H4.out.2.2.1]
    have hcRz : ∀ o, wb.cell? ⟨W.heap.size, o, none⟩ = (#[.int .i64 0, .int .i64 0, .int .i64 0, .int .i64 0, .int .i64 0, .slice none 0 0] : Array Value)[o]? := fun o => by rw [cell_of_block hC.out.2.1]
    have hfRz := fun o => frozen_of_block hC.out.2.1 o
    clear hMb
    -- the system goes into the result's cell: from world wb to wz
    have hdone := putS_new hC.out.1 hC.out.2.1 (.int .i64 m.c) (.int .i64 m.d) (.int .i64 m.s) (.int .i64 m.e) (.int .i64 m.l) (.slice ta T.length tc)
    obtain ⟨wz, hwz⟩ : ∃ wz, wz = putS wb W.heap.size (.int .i64 m.c) (.int .i64 m.d) (.int .i64 m.s) (.int .i64 m.e) (.int .i64 m.l) (.slice ta T.length tc) := ⟨_, rfl⟩
    rw [← hwz] at hdone
    obtain ⟨hd2, hd3, hd4⟩ := hdone
    have hFz : V2 (fun b => W.heap.size ≤ b) wz (.slice ta T.length tc) T := V2.mono (S := fun b => W1.heap.size ≤ b) hC.out.2.2.1 (fun b hb _ => by have hb : W1.heap.size ≤ b := hb; omega) (fun b hb _ => hd4 b (by have hb : W1.heap.size ≤ b := hb; omega))
    have hcz : V2 (fun b => W.heap.size ≤ b) wz (.slice ca cuts.length cc) cuts := V2.mono (S := fun b => W1.heap.size ≤ b) hC.out.2.2.2.1 (fun b hb _ => by have hb : W1.heap.size ≤ b := hb; omega) (fun b hb _ => hd4 b (by have hb : W1.heap.size ≤ b := hb; omega))
    have hz0 : wz.cell? ⟨W.heap.size, 0, none⟩ = some (.int .i64 m.c) := by rw [cell_of_block hd3]; rfl
    have hz1 : wz.cell? ⟨W.heap.size, 1, none⟩ = some (.int .i64 m.d) := by rw [cell_of_block hd3]; rfl
    have hz2 : wz.cell? ⟨W.heap.size, 2, none⟩ = some (.int .i64 m.s) := by rw [cell_of_block hd3]; rfl
    have hz3 : wz.cell? ⟨W.heap.size, 3, none⟩ = some (.int .i64 m.e) := by rw [cell_of_block hd3]; rfl
    have hz4 : wz.cell? ⟨W.heap.size, 4, none⟩ = some (.int .i64 m.l) := by rw [cell_of_block hd3]; rfl
    have hz5 : wz.cell? ⟨W.heap.size, 5, none⟩ = some (.slice ta T.length tc) := by rw [cell_of_block hd3]; rfl
    have HZ := Lib.hid (And.intro hd2 (And.intro hFz (And.intro hcz (And.intro hwz (And.intro hz0 (And.intro hz1 (And.intro hz2 (And.intro hz3 (And.intro hz4 (And.intro hz5 hd4)))))))))); clear hd2 hd3 hd4 hFz hcz hwz hz0 hz1 hz2 hz3 hz4 hz5
    go_wp2_with fail
    have hwz := HZ.out.2.2.2.1
    unfold putS putR at hwz
    rw [← hwz]
    clear hwz
    obtain ⟨hd2, hFz, hcz, hwzz, hz0, hz1, hz2, hz3, hz4, hz5, hd4⟩ := HZ.out
    clear hwzz
    have hkz : V2 (fun b => W.heap.size ≤ b) wz (.slice ca cuts.length cc) cuts := V2.mono (S := fun b => W1.heap.size ≤ b) HBV.out (fun b hb _ => by have hb : W1.heap.size ≤ b := hb; omega) (fun b hb _ => hd4 b (by have hb : W1.heap.size ≤ b := hb; omega))
    exact bodyPost_ret (v := .tuple #[.agg #[.int .i64 m.c, .int .i64 m.d, .int .i64 m.s, .int .i64 m.e, .int .i64 m.l, .slice ta T.length tc], .slice ca cuts.length cc, (.slice ca cuts.length cc)]) (by simp [results, Tryz.results21, go_sem, hz0, hz1, hz2, hz3, hz4, hz5]) rfl ⟨m, _, _, T, cuts, [(.slice ca cuts.length cc)], rfl, ⟨_, _, rfl, hkz⟩, hFz, hcz, hd2⟩
  · have hdc : designC m T cuts = 0 := by unfold designC; rw [if_pos hr]
    obtain ⟨hf, hcl⟩ := design_fits hdc
    have hrows := hf.rows
    have HD := Lib.hid (And.intro hf.ok (And.intro (show 1 ≤ T.length ∧ T.length ≤ 900 by omega) (And.intro hdc (show cuts ≠ [] by intro e; rw [e] at hcl; simp at hcl; omega)))); clear hr hdc hf hcl hrows
    have hT5 := V2.mono (S' := fun b => w2.heap.size ≤ b) H4.out.2.2.2.2.1 (fun _ h _ => h) (H5.out.2.keep fun b hb e => by have hb : w2.heap.size ≤ b := hb; omega)
    have hC5 := V2.mono (S' := fun b => w2.heap.size ≤ b) H4.out.2.2.2.2.2.1 (fun _ h _ => h) (H5.out.2.keep fun b hb e => by have hb : w2.heap.size ≤ b := hb; omega)
    have HV := Lib.hid (And.intro hT5 hC5); clear hT5 hC5
    go_wp2_with fail
    refine (MirrorCuts_any m _ _ T cuts HD.out.2.2.1 _ HV.out.1 HV.out.2).mono ?_
    rintro e' w6 ⟨mv, ml, rfl, hmv, hb6⟩
    obtain ⟨ma, mc, rfl, _⟩ := hmv.form
    have hz6 := hb6.size
    have hM6 := hb6.block _ (show w3.heap.size < w5.heap.size by omega)
    have hcM6 : ∀ o, w6.cell? ⟨w3.heap.size, o, none⟩ = (#[.int .i64 m.c, .int .i64 m.d, .int .i64 m.s, .int .i64 m.e, .int .i64 m.l, .slice ta T.length tc] : Array Value)[o]? := fun o => by rw [World.cell?_of_block (w := w5) (a := ⟨w3.heap.size, o, none⟩) hM6]; exact hcM5 o
    have H6 := Lib.hid (And.intro (H5.out.1.below hb6) (And.intro (H5.out.2.then_below hb6) (And.intro (HV.out.1.below hb6) (And.intro (HV.out.2.below hb6) hmv)))); clear hb6 hM6 hcM5 hmv
    go_wp2_with fail
    refine (l01Next_any W1.heap.size W1.heap.size 2 _ H6.out.1).mono ?_
    rintro e' w7 ⟨q, rfl, _, hs7, ho7⟩
    have hz7 := ho7.size
    have hM7 := ho7.block _ (show w3.heap.size < w6.heap.size by omega) (fun e => by omega)
    have hcM7 : ∀ o, w7.cell? ⟨w3.heap.size, o, none⟩ = (#[.int .i64 m.c, .int .i64 m.d, .int .i64 m.s, .int .i64 m.e, .int .i64 m.l, .slice ta T.length tc] : Array Value)[o]? := fun o => by rw [World.cell?_of_block (w := w6) (a := ⟨w3.heap.size, o, none⟩) hM7]; exact hcM6 o
    have hkp : Keep (fun b => w2.heap.size ≤ b) w6 w7 := ho7.keep fun b hb e => by have hb : w2.heap.size ≤ b := hb; omega
    have hm7 : V2 (fun b => W1.heap.size ≤ b ∧ b ≠ W1.heap.size) w7 (.slice ma ml.length mc) ml := H6.out.2.2.2.2.mono (fun b hb _ => by have hb : w5.heap.size ≤ b := hb; omega) (ho7.keep fun b hb e => by have hb : w5.heap.size ≤ b := hb; omega)
    have H7 := Lib.hid (And.intro hs7 (And.intro (H6.out.2.1.trans ho7) (And.intro (H6.out.2.2.1.mono (fun _ h _ => h) hkp) (And.intro (H6.out.2.2.2.1.mono (fun _ h _ => h) hkp) hm7)))); clear hs7 ho7 hM7 hkp hm7 hcM6
    by_cases hq : q = 0
    · subst hq
      go_wp2_with fail
      refine (NextDesignRf_any m _ _ T cuts 300 _ H7.out.2.2.1 H7.out.2.2.2.1 (fun e => absurd e HD.out.2.2.2)).mono ?_
      rintro e' w8 ⟨nv, rfl, hF8, hb8⟩
      obtain ⟨nd, hnd⟩ : ∃ nd, nextDAns m T cuts 300 = nd := ⟨_, rfl⟩
      rw [hnd] at hF8 ⊢
      obtain ⟨na, nc, rfl, _⟩ := hF8.v2.form
      have hz8 := hb8.size
      have hv8 : V2 (fun b => W1.heap.size ≤ b ∧ b ≠ W1.heap.size) w8 (.slice na nd.1.length nc) nd.1 := hF8.v2.mono (fun b hb _ => by have hb : w7.heap.size ≤ b := hb; omega) (fun _ _ _ => rfl)
      have H8 := Lib.hid (And.intro (H7.out.1.below hb8) (And.intro (H7.out.2.1.then_below hb8) (And.intro hv8 (H7.out.2.2.2.2.below hb8)))); clear hb8 hF8 hv8 hnd hcM7
      by_cases hbad : nd.2 = 0
      · have hbd : (nd.2 == 0) = true := beq_iff_eq.2 hbad
        clear hbad
        -- behind the choice of the second cuts: (.slice na nd.1.length nc) at world w8 (source H8.out.1, change H8.out.2.1 : Only .. w4 w8, fact H8.out.2.2.1 : V2 (W1.heap.size ≤ b ∧ b ≠ W1.heap.size))
        have HV9 := Lib.hid (H8.out.2.2.1)
        have hO9 : Only W1.heap.size w4 w8 := H8.out.2.1
        have hz9 := hO9.size
        have HO9 := Lib.hid hO9; clear hO9
        go_wp2_with fail
        refine (l01Next_any W1.heap.size W1.heap.size 20 _ H8.out.1).mono ?_
        rintro e' we ⟨z, rfl, _, hse, hoe⟩
        have hze := hoe.size
        have hVe := V2.mono (S' := fun b => W1.heap.size ≤ b ∧ b ≠ W1.heap.size) HV9.out (fun _ h _ => h) (hoe.keep fun b hb e => hb.2 e)
        have hM4e : we.heap[w3.heap.size]? = w4.heap[w3.heap.size]? := (HO9.out.trans hoe).block _ (by omega) (fun e => by omega)
        have hcMe : ∀ o, we.cell? ⟨w3.heap.size, o, none⟩ = (#[.int .i64 m.c, .int .i64 m.d, .int .i64 m.s, .int .i64 m.e, .int .i64 m.l, .slice ta T.length tc] : Array Value)[o]? := fun o => by rw [World.cell?_of_block (w := w4) (a := ⟨w3.heap.size, o, none⟩) hM4e]; rw [cell_of_block H4.out.2.2.1]
        have HE := Lib.hid (And.intro hse (And.intro (HO9.out.trans hoe) hVe)); clear hse hoe hVe hM4e HV9 HO9 hbd
        by_cases hz : z = 0
        · subst hz
          go_wp2_with fail
          refine (l15DrawCuts_any W1.heap.size W1.heap.size m HD.out.1 _ _ _ HD.out.2.1 _ HE.out.1).mono ?_
          rintro e' wb ⟨bv, bl, rfl, ⟨hOb, _⟩, hsb, hob⟩
          obtain ⟨ba, bc, rfl, _, _⟩ := hOb.form
          have hob4 : Only W1.heap.size w4 wb := HE.out.2.1.trans hob
          clear hsb hob hcMe
          -- returns, at world wb (hob4 : Only W1.heap.size w4 wb), with second cuts (.slice ba bl.length bc) (list bl, fact ((hOb.base (show W1.heap.size ≤ we.heap.size by omega)).v2))
          have HBV := Lib.hid (((hOb.base (show W1.heap.size ≤ we.heap.size by omega)).v2))
          -- at world wb (Only the source since w4): facts behind the last call of a region that returns
          have hzb := hob4.size
          have hMb : wb.heap[w3.heap.size]? = w4.heap[w3.heap.size]? := hob4.block _ (by omega) (fun e => by omega)
          have hBb : Below W.heap.size W wb := H4.out.2.1.trans ((hob4.to_below (B := W1.heap.size) (Nat.le_refl _) (by omega)).mono (by omega))
          have hRb := hob4.heap H4.out.2.2.2.1 (fun e => by omega)
          have hub := H4.out.2.2.2.2.1.mono (S' := fun b => W1.heap.size ≤ b) (fun b hb _ => by have hb : w2.heap.size ≤ b := hb; omega) (hob4.keep fun b hb e => by have hb : w2.heap.size ≤ b := hb; omega)
          have hcb := H4.out.2.2.2.2.2.1.mono (S' := fun b => W1.heap.size ≤ b) (fun b hb _ => by have hb : w2.heap.size ≤ b := hb; omega) (hob4.keep fun b hb e => by have hb : w2.heap.size ≤ b := hb; omega)
          have hC := Lib.hid (And.intro hBb (And.intro hRb (And.intro hub (And.intro hcb hMb)))); clear hBb hRb hub hcb
          have hcMb : ∀ o, wb.cell? ⟨w3.heap.size, o, none⟩ = (#[.int .i64 m.c, .int .i64 m.d, .int .i64 m.s, .int .i64 m.e, .int .i64 m.l, .slice ta T.length tc] : Array Value)[o]? := fun o => by rw [World.cell?_of_block (w := w4) (a := ⟨w3.heap.size, o, none⟩) hMb]; rw [cell_of_block H4.out.2.2.1]
          have hcRz : ∀ o, wb.cell? ⟨W.heap.size, o, none⟩ = (#[.int .i64 0, .int .i64 0, .int .i64 0, .int .i64 0, .int .i64 0, .slice none 0 0] : Array Value)[o]? := fun o => by rw [cell_of_block hC.out.2.1]
          have hfRz := fun o => frozen_of_block hC.out.2.1 o
          clear hMb
          -- the system goes into the result's cell: from world wb to wz
          have hdone := putS_new hC.out.1 hC.out.2.1 (.int .i64 m.c) (.int .i64 m.d) (.int .i64 m.s) (.int .i64 m.e) (.int .i64 m.l) (.slice ta T.length tc)
          obtain ⟨wz, hwz⟩ : ∃ wz, wz = putS wb W.heap.size (.int .i64 m.c) (.int .i64 m.d) (.int .i64 m.s) (.int .i64 m.e) (.int .i64 m.l) (.slice ta T.length tc) := ⟨_, rfl⟩
          rw [← hwz] at hdone
          obtain ⟨hd2, hd3, hd4⟩ := hdone
          have hFz : V2 (fun b => W.heap.size ≤ b) wz (.slice ta T.length tc) T := V2.mono (S := fun b => W1.heap.size ≤ b) hC.out.2.2.1 (fun b hb _ => by have hb : W1.heap.size ≤ b := hb; omega) (fun b hb _ => hd4 b (by have hb : W1.heap.size ≤ b := hb; omega))
          have hcz : V2 (fun b => W.heap.size ≤ b) wz (.slice ca cuts.length cc) cuts := V2.mono (S := fun b => W1.heap.size ≤ b) hC.out.2.2.2.1 (fun b hb _ => by have hb : W1.heap.size ≤ b := hb; omega) (fun b hb _ => hd4 b (by have hb : W1.heap.size ≤ b := hb; omega))
          have hz0 : wz.cell? ⟨W.heap.size, 0, none⟩ = some (.int .i64 m.c) := by rw [cell_of_block hd3]; rfl
          have hz1 : wz.cell? ⟨W.heap.size, 1, none⟩ = some (.int .i64 m.d) := by rw [cell_of_block hd3]; rfl
          have hz2 : wz.cell? ⟨W.heap.size, 2, none⟩ = some (.int .i64 m.s) := by rw [cell_of_block hd3]; rfl
          have hz3 : wz.cell? ⟨W.heap.size, 3, none⟩ = some (.int .i64 m.e) := by rw [cell_of_block hd3]; rfl
          have hz4 : wz.cell? ⟨W.heap.size, 4, none⟩ = some (.int .i64 m.l) := by rw [cell_of_block hd3]; rfl
          have hz5 : wz.cell? ⟨W.heap.size, 5, none⟩ = some (.slice ta T.length tc) := by rw [cell_of_block hd3]; rfl
          have HZ := Lib.hid (And.intro hd2 (And.intro hFz (And.intro hcz (And.intro hwz (And.intro hz0 (And.intro hz1 (And.intro hz2 (And.intro hz3 (And.intro hz4 (And.intro hz5 hd4)))))))))); clear hd2 hd3 hd4 hFz hcz hwz hz0 hz1 hz2 hz3 hz4 hz5
          go_wp2_with fail
          have hwz := HZ.out.2.2.2.1
          unfold putS putR at hwz
          rw [← hwz]
          clear hwz
          obtain ⟨hd2, hFz, hcz, hwzz, hz0, hz1, hz2, hz3, hz4, hz5, hd4⟩ := HZ.out
          clear hwzz
          have hkz : V2 (fun b => W.heap.size ≤ b) wz (.slice ba bl.length bc) bl := V2.mono (S := fun b => W1.heap.size ≤ b) HBV.out (fun b hb _ => by have hb : W1.heap.size ≤ b := hb; omega) (fun b hb _ => hd4 b (by have hb : W1.heap.size ≤ b := hb; omega))
          exact bodyPost_ret (v := .tuple #[.agg #[.int .i64 m.c, .int .i64 m.d, .int .i64 m.s, .int .i64 m.e, .int .i64 m.l, .slice ta T.length tc], .slice ca cuts.length cc, (.slice ba bl.length bc)]) (by simp [results, Tryz.results21, go_sem, hz0, hz1, hz2, hz3, hz4, hz5]) rfl ⟨m, _, _, T, cuts, [(.slice ba bl.length bc)], rfl, ⟨_, _, rfl, hkz⟩, hFz, hcz, hd2⟩
        · have hzd : (z == 0) = false := by simp [hz]
          clear hz
          obtain ⟨wb, rfl⟩ : ∃ x, x = we := ⟨_, rfl⟩
          have hob4 : Only W1.heap.size w4 wb := HE.out.2.1
          clear hcMe
          -- returns, at world wb (hob4 : Only W1.heap.size w4 wb), with second cuts (.slice na nd.1.length nc) (list nd.1, fact (V2.mono (S' := fun b => W1.heap.size ≤ b) HE.out.2.2 (fun b hb _ => hb.1) (fun _ _ _ => rfl)))
          have HBV := Lib.hid ((V2.mono (S' := fun b => W1.heap.size ≤ b) HE.out.2.2 (fun b hb _ => hb.1) (fun _ _ _ => rfl)))
          -- at world wb (Only the source since w4): facts behind the last call of a region that returns
          have hzb := hob4.size
          have hMb : wb.heap[w3.heap.size]? = w4.heap[w3.heap.size]? := hob4.block _ (by omega) (fun e => by omega)
          have hBb : Below W.heap.size W wb := H4.out.2.1.trans ((hob4.to_below (B := W1.heap.size) (Nat.le_refl _) (by omega)).mono (by omega))
          have hRb := hob4.heap H4.out.2.2.2.1 (fun e => by omega)
          have hub := H4.out.2.2.2.2.1.mono (S' := fun b => W1.heap.size ≤ b) (fun b hb _ => by have hb : w2.heap.size ≤ b := hb; omega) (hob4.keep fun b hb e => by have hb : w2.heap.size ≤ b := hb; omega)
          have hcb := H4.out.2.2.2.2.2.1.mono (S' := fun b => W1.heap.size ≤ b) (fun b hb _ => by have hb : w2.heap.size ≤ b := hb; omega) (hob4.keep fun b hb e => by have hb : w2.heap.size ≤ b := hb; omega)
          have hC := Lib.hid (And.intro hBb (And.intro hRb (And.intro hub (And.intro hcb hMb)))); clear hBb hRb hub hcb
          have hcMb : ∀ o, wb.cell? ⟨w3.heap.size, o, none⟩ = (#[.int .i64 m.c, .int .i64 m.d, .int .i64 m.s, .int .i64 m.e, .int .i64 m.l, .slice ta T.length tc] : Array Value)[o]? := fun o => by rw [World.cell?_of_block (w := w4) (a := ⟨w3.heap.size, o, none⟩) hMb]; rw [cell_of_block H4.out.2.2.1]
          have hcRz : ∀ o, wb.cell? ⟨W.heap.size, o, none⟩ = (#[.int .i64 0, .int .i64 0, .int .i64 0, .int .i64 0, .int .i64 0, .slice none 0 0] : Array Value)[o]? := fun o => by rw [cell_of_block hC.out.2.1]
          have hfRz := fun o => frozen_of_block hC.out.2.1 o
          clear hMb
          -- the system goes into the result's cell: from world wb to wz
          have hdone := putS_new hC.out.1 hC.out.2.1 (.int .i64 m.c) (.int .i64 m.d) (.int .i64 m.s) (.int .i64 m.e) (.int .i64 m.l) (.slice ta T.length tc)
          obtain ⟨wz, hwz⟩ : ∃ wz, wz = putS wb W.heap.size (.int .i64 m.c) (.int .i64 m.d) (.int .i64 m.s) (.int .i64 m.e) (.int .i64 m.l) (.slice ta T.length tc) := ⟨_, rfl⟩
          rw [← hwz] at hdone
          obtain ⟨hd2, hd3, hd4⟩ := hdone
          have hFz : V2 (fun b => W.heap.size ≤ b) wz (.slice ta T.length tc) T := V2.mono (S := fun b => W1.heap.size ≤ b) hC.out.2.2.1 (fun b hb _ => by have hb : W1.heap.size ≤ b := hb; omega) (fun b hb _ => hd4 b (by have hb : W1.heap.size ≤ b := hb; omega))
          have hcz : V2 (fun b => W.heap.size ≤ b) wz (.slice ca cuts.length cc) cuts := V2.mono (S := fun b => W1.heap.size ≤ b) hC.out.2.2.2.1 (fun b hb _ => by have hb : W1.heap.size ≤ b := hb; omega) (fun b hb _ => hd4 b (by have hb : W1.heap.size ≤ b := hb; omega))
          have hz0 : wz.cell? ⟨W.heap.size, 0, none⟩ = some (.int .i64 m.c) := by rw [cell_of_block hd3]; rfl
          have hz1 : wz.cell? ⟨W.heap.size, 1, none⟩ = some (.int .i64 m.d) := by rw [cell_of_block hd3]; rfl
          have hz2 : wz.cell? ⟨W.heap.size, 2, none⟩ = some (.int .i64 m.s) := by rw [cell_of_block hd3]; rfl
          have hz3 : wz.cell? ⟨W.heap.size, 3, none⟩ = some (.int .i64 m.e) := by rw [cell_of_block hd3]; rfl
          have hz4 : wz.cell? ⟨W.heap.size, 4, none⟩ = some (.int .i64 m.l) := by rw [cell_of_block hd3]; rfl
          have hz5 : wz.cell? ⟨W.heap.size, 5, none⟩ = some (.slice ta T.length tc) := by rw [cell_of_block hd3]; rfl
          have HZ := Lib.hid (And.intro hd2 (And.intro hFz (And.intro hcz (And.intro hwz (And.intro hz0 (And.intro hz1 (And.intro hz2 (And.intro hz3 (And.intro hz4 (And.intro hz5 hd4)))))))))); clear hd2 hd3 hd4 hFz hcz hwz hz0 hz1 hz2 hz3 hz4 hz5
          go_wp2_with fail
          have hwz := HZ.out.2.2.2.1
          unfold putS putR at hwz
          rw [← hwz]
          clear hwz
          obtain ⟨hd2, hFz, hcz, hwzz, hz0, hz1, hz2, hz3, hz4, hz5, hd4⟩ := HZ.out
          clear hwzz
          have hkz : V2 (fun b => W.heap.size ≤ b) wz (.slice na nd.1.length nc) nd.1 := V2.mono (S := fun b => W1.heap.size ≤ b) HBV.out (fun b hb _ => by have hb : W1.heap.size ≤ b := hb; omega) (fun b hb _ => hd4 b (by have hb : W1.heap.size ≤ b := hb; omega))
          exact bodyPost_ret (v := .tuple #[.agg #[.int .i64 m.c, .int .i64 m.d, .int .i64 m.s, .int .i64 m.e, .int .i64 m.l, .slice ta T.length tc], .slice ca cuts.length cc, (.slice na nd.1.length nc)]) (by simp [results, Tryz.results21, go_sem, hz0, hz1, hz2, hz3, hz4, hz5]) rfl ⟨m, _, _, T, cuts, [(.slice na nd.1.length nc)], rfl, ⟨_, _, rfl, hkz⟩, hFz, hcz, hd2⟩
      · have hbd : (nd.2 == 0) = false := beq_eq_false_iff_ne.2 hbad
        clear hbad
        -- behind the choice of the second cuts: (.slice ma ml.length mc) at world w8 (source H8.out.1, change H8.out.2.1 : Only .. w4 w8, fact H8.out.2.2.2 : V2 (W1.heap.size ≤ b ∧ b ≠ W1.heap.size))
        have HV9 := Lib.hid (H8.out.2.2.2)
        have hO9 : Only W1.heap.size w4 w8 := H8.out.2.1
        have hz9 := hO9.size
        have HO9 := Lib.hid hO9; clear hO9
        go_wp2_with fail
        refine (l01Next_any W1.heap.size W1.heap.size 20 _ H8.out.1).mono ?_
        rintro e' we ⟨z, rfl, _, hse, hoe⟩
        have hze := hoe.size
        have hVe := V2.mono (S' := fun b => W1.heap.size ≤ b ∧ b ≠ W1.heap.size) HV9.out (fun _ h _ => h) (hoe.keep fun b hb e => hb.2 e)
        have hM4e : we.heap[w3.heap.size]? = w4.heap[w3.heap.size]? := (HO9.out.trans hoe).block _ (by omega) (fun e => by omega)
        have hcMe : ∀ o, we.cell? ⟨w3.heap.size, o, none⟩ = (#[.int .i64 m.c, .int .i64 m.d, .int .i64 m.s, .int .i64 m.e, .int .i64 m.l, .slice ta T.length tc] : Array Value)[o]? := fun o => by rw [World.cell?_of_block (w := w4) (a := ⟨w3.heap.size, o, none⟩) hM4e]; rw [cell_of_block H4.out.2.2.1]
        have HE := Lib.hid (And.intro hse (And.intro (HO9.out.trans hoe) hVe)); clear hse hoe hVe hM4e HV9 HO9 hbd
        by_cases hz : z = 0
        · subst hz
          go_wp2_with fail
          refine (l15DrawCuts_any W1.heap.size W1.heap.size m HD.out.1 _ _ _ HD.out.2.1 _ HE.out.1).mono ?_
          rintro e' wb ⟨bv, bl, rfl, ⟨hOb, _⟩, hsb, hob⟩
          obtain ⟨ba, bc, rfl, _, _⟩ := hOb.form
          have hob4 : Only W1.heap.size w4 wb := HE.out.2.1.trans hob
          clear hsb hob hcMe
          -- returns, at world wb (hob4 : Only W1.heap.size w4 wb), with second cuts (.slice ba bl.length bc) (list bl, fact ((hOb.base (show W1.heap.size ≤ we.heap.size by omega)).v2))
          have HBV := Lib.hid (((hOb.base (show W1.heap.size ≤ we.heap.size by omega)).v2))
          -- at world wb (Only the source since w4): facts behind the last call of a region that returns
          have hzb := hob4.size
          have hMb : wb.heap[w3.heap.size]? = w4.heap[w3.heap.size]? := hob4.block _ (by omega) (fun e => by omega)
          have hBb : Below W.heap.size W wb := H4.out.2.1.trans ((hob4.to_below (B := W1.heap.size) (Nat.le_refl _) (by omega)).mono (by omega))
          have hRb := hob4.heap H4.out.2.2.2.1 (fun e => by omega)
          have hub := H4.out.2.2.2.2.1.mono (S' := fun b => W1.heap.size ≤ b) (fun b hb _ => by have hb : w2.heap.size ≤ b := hb; omega) (hob4.keep fun b hb e => by have hb : w2.heap.size ≤ b := hb; omega)
          have hcb := H4.out.2.2.2.2.2.1.mono (S' := fun b => W1.heap.size ≤ b) (fun b hb _ => by have hb : w2.heap.size ≤ b := hb; omega) (hob4.keep fun b hb e => by have hb : w2.heap.size ≤ b := hb; omega)
          have hC := Lib.hid (And.intro hBb (And.intro hRb (And.intro hub (And.intro hcb hMb)))); clear hBb hRb hub hcb
          have hcMb : ∀ o, wb.cell? ⟨w3.heap.size, o, none⟩ = (#[.int .i64 m.c, .int .i64 m.d, .int .i64 m.s, .int .i64 m.e, .int .i64 m.l, .slice ta T.length tc] : Array Value)[o]? := fun o => by rw [World.cell?_of_block (w := w4) (a := ⟨w3.heap.size, o, none⟩) hMb]; rw [cell_of_block H4.out.2.2.1]
          have hcRz : ∀ o, wb.cell? ⟨W.heap.size, o, none⟩ = (#[.int .i64 0, .int .i64 0, .int .i64 0, .int .i64 0, .int .i64 0, .slice none 0 0] : Array Value)[o]? := fun o => by rw [cell_of_block hC.out.2.1]
          have hfRz := fun o => frozen_of_block hC.out.2.1 o
          clear hMb
          -- the system goes into the result's cell: from world wb to wz
          have hdone := putS_new hC.out.1 hC.out.2.1 (.int .i64 m.c) (.int .i64 m.d) (.int .i64 m.s) (.int .i64 m.e) (.int .i64 m.l) (.slice ta T.length tc)
          obtain ⟨wz, hwz⟩ : ∃ wz, wz = putS wb W.heap.size (.int .i64 m.c) (.int .i64 m.d) (.int .i64 m.s) (.int .i64 m.e) (.int .i64 m.l) (.slice ta T.length tc) := ⟨_, rfl⟩
          rw [← hwz] at hdone
          obtain ⟨hd2, hd3, hd4⟩ := hdone
          have hFz : V2 (fun b => W.heap.size ≤ b) wz (.slice ta T.length tc) T := V2.mono (S := fun b => W1.heap.size ≤ b) hC.out.2.2.1 (fun b hb _ => by have hb : W1.heap.size ≤ b := hb; omega) (fun b hb _ => hd4 b (by have hb : W1.heap.size ≤ b := hb; omega))
          have hcz : V2 (fun b => W.heap.size ≤ b) wz (.slice ca cuts.length cc) cuts := V2.mono (S := fun b => W1.heap.size ≤ b) hC.out.2.2.2.1 (fun b hb _ => by have hb : W1.heap.size ≤ b := hb; omega) (fun b hb _ => hd4 b (by have hb : W1.heap.size ≤ b := hb; omega))
          have hz0 : wz.cell? ⟨W.heap.size, 0, none⟩ = some (.int .i64 m.c) := by rw [cell_of_block hd3]; rfl
          have hz1 : wz.cell? ⟨W.heap.size, 1, none⟩ = some (.int .i64 m.d) := by rw [cell_of_block hd3]; rfl
          have hz2 : wz.cell? ⟨W.heap.size, 2, none⟩ = some (.int .i64 m.s) := by rw [cell_of_block hd3]; rfl
          have hz3 : wz.cell? ⟨W.heap.size, 3, none⟩ = some (.int .i64 m.e) := by rw [cell_of_block hd3]; rfl
          have hz4 : wz.cell? ⟨W.heap.size, 4, none⟩ = some (.int .i64 m.l) := by rw [cell_of_block hd3]; rfl
          have hz5 : wz.cell? ⟨W.heap.size, 5, none⟩ = some (.slice ta T.length tc) := by rw [cell_of_block hd3]; rfl
          have HZ := Lib.hid (And.intro hd2 (And.intro hFz (And.intro hcz (And.intro hwz (And.intro hz0 (And.intro hz1 (And.intro hz2 (And.intro hz3 (And.intro hz4 (And.intro hz5 hd4)))))))))); clear hd2 hd3 hd4 hFz hcz hwz hz0 hz1 hz2 hz3 hz4 hz5
          go_wp2_with fail
          have hwz := HZ.out.2.2.2.1
          unfold putS putR at hwz
          rw [← hwz]
          clear hwz
          obtain ⟨hd2, hFz, hcz, hwzz, hz0, hz1, hz2, hz3, hz4, hz5, hd4⟩ := HZ.out
          clear hwzz
          have hkz : V2 (fun b => W.heap.size ≤ b) wz (.slice ba bl.length bc) bl := V2.mono (S := fun b => W1.heap.size ≤ b) HBV.out (fun b hb _ => by have hb : W1.heap.size ≤ b := hb; omega) (fun b hb _ => hd4 b (by have hb : W1.heap.size ≤ b := hb; omega))
          exact bodyPost_ret (v := .tuple #[.agg #[.int .i64 m.c, .int .i64 m.d, .int .i64 m.s, .int .i64 m.e, .int .i64 m.l, .slice ta T.length tc], .slice ca cuts.length cc, (.slice ba bl.length bc)]) (by simp [results, Tryz.results21, go_sem, hz0, hz1, hz2, hz3, hz4, hz5]) rfl ⟨m, _, _, T, cuts, [(.slice ba bl.length bc)], rfl, ⟨_, _, rfl, hkz⟩, hFz, hcz, hd2⟩
        · have hzd : (z == 0) = false := by simp [hz]
          clear hz
          obtain ⟨wb, rfl⟩ : ∃ x, x = we := ⟨_, rfl⟩
          have hob4 : Only W1.heap.size w4 wb := HE.out.2.1
          clear hcMe
          -- returns, at world wb (hob4 : Only W1.heap.size w4 wb), with second cuts (.slice ma ml.length mc) (list ml, fact (V2.mono (S' := fun b => W1.heap.size ≤ b) HE.out.2.2 (fun b hb _ => hb.1) (fun _ _ _ => rfl)))
          have HBV := Lib.hid ((V2.mono (S' := fun b => W1.heap.size ≤ b) HE.out.2.2 (fun b hb _ => hb.1) (fun _ _ _ => rfl)))
          -- at world wb (Only the source since w4): facts behind the last call of a region that returns
          have hzb := hob4.size
          have hMb : wb.heap[w3.heap.size]? = w4.heap[w3.heap.size]? := hob4.block _ (by omega) (fun e => by omega)
          have hBb : Below W.heap.size W wb := H4.out.2.1.trans ((hob4.to_below (B := W1.heap.size) (Nat.le_refl _) (by omega)).mono (by omega))
          have hRb := hob4.heap H4.out.2.2.2.1 (fun e => by omega)
          have hub := H4.out.2.2.2.2.1.mono (S' := fun b => W1.heap.size ≤ b) (fun b hb _ => by have hb : w2.heap.size ≤ b := hb; omega) (hob4.keep fun b hb e => by have hb : w2.heap.size ≤ b := hb; omega)
          have hcb := H4.out.2.2.2.2.2.1.mono (S' := fun b => W1.heap.size ≤ b) (fun b hb _ => by have hb : w2.heap.size ≤ b := hb; omega) (hob4.keep fun b hb e => by have hb : w2.heap.size ≤ b := hb; omega)
          have hC := Lib.hid (And.intro hBb (And.intro hRb (And.intro hub (And.intro hcb hMb)))); clear hBb hRb hub hcb
          have hcMb : ∀ o, wb.cell? ⟨w3.heap.size, o, none⟩ = (#[.int .i64 m.c, .int .i64 m.d, .int .i64 m.s, .int .i64 m.e, .int .i64 m.l, .slice ta T.length tc] : Array Value)[o]? := fun o => by rw [World.cell?_of_block (w := w4) (a := ⟨w3.heap.size, o, none⟩) hMb]; rw [cell_of_block H4.out.2.2.1]
          have hcRz : ∀ o, wb.cell? ⟨W.heap.size, o, none⟩ = (#[.int .i64 0, .int .i64 0, .int .i64 0, .int .i64 0, .int .i64 0, .slice none 0 0] : Array Value)[o]? := fun o => by rw [cell_of_block hC.out.2.1]
          have hfRz := fun o => frozen_of_block hC.out.2.1 o
          clear hMb
          -- the system goes into the result's cell: from world wb to wz
          have hdone := putS_new hC.out.1 hC.out.2.1 (.int .i64 m.c) (.int .i64 m.d) (.int .i64 m.s) (.int .i64 m.e) (.int .i64 m.l) (.slice ta T.length tc)
          obtain ⟨wz, hwz⟩ : ∃ wz, wz = putS wb W.heap.size (.int .i64 m.c) (.int .i64 m.d) (.int .i64 m.s) (.int .i64 m.e) (.int .i64 m.l) (.slice ta T.length tc) := ⟨_, rfl⟩
          rw [← hwz] at hdone
          obtain ⟨hd2, hd3, hd4⟩ := hdone
          have hFz : V2 (fun b => W.heap.size ≤ b) wz (.slice ta T.length tc) T := V2.mono (S := fun b => W1.heap.size ≤ b) hC.out.2.2.1 (fun b hb _ => by have hb : W1.heap.size ≤ b := hb; omega) (fun b hb _ => hd4 b (by have hb : W1.heap.size ≤ b := hb; omega))
          have hcz : V2 (fun b => W.heap.size ≤ b) wz (.slice ca cuts.length cc) cuts := V2.mono (S := fun b => W1.heap.size ≤ b) hC.out.2.2.2.1 (fun b hb _ => by have hb : W1.heap.size ≤ b := hb; omega) (fun b hb _ => hd4 b (by have hb : W1.heap.size ≤ b := hb; omega))
          have hz0 : wz.cell? ⟨W.heap.size, 0, none⟩ = some (.int .i64 m.c) := by rw [cell_of_block hd3]; rfl
          have hz1 : wz.cell? ⟨W.heap.size, 1, none⟩ = some (.int .i64 m.d) := by rw [cell_of_block hd3]; rfl
          have hz2 : wz.cell? ⟨W.heap.size, 2, none⟩ = some (.int .i64 m.s) := by rw [cell_of_block hd3]; rfl
          have hz3 : wz.cell? ⟨W.heap.size, 3, none⟩ = some (.int .i64 m.e) := by rw [cell_of_block hd3]; rfl
          have hz4 : wz.cell? ⟨W.heap.size, 4, none⟩ = some (.int .i64 m.l) := by rw [cell_of_block hd3]; rfl
          have hz5 : wz.cell? ⟨W.heap.size, 5, none⟩ = some (.slice ta T.length tc) := by rw [cell_of_block hd3]; rfl
          have HZ := Lib.hid (And.intro hd2 (And.intro hFz (And.intro hcz (And.intro hwz (And.intro hz0 (And.intro hz1 (And.intro hz2 (And.intro hz3 (And.intro hz4 (And.intro hz5 hd4)))))))))); clear hd2 hd3 hd4 hFz hcz hwz hz0 hz1 hz2 hz3 hz4 hz5
          go_wp2_with fail
          have hwz := HZ.out.2.2.2.1
          unfold putS putR at hwz
          rw [← hwz]
          clear hwz
          obtain ⟨hd2, hFz, hcz, hwzz, hz0, hz1, hz2, hz3, hz4, hz5, hd4⟩ := HZ.out
          clear hwzz
          have hkz : V2 (fun b => W.heap.size ≤ b) wz (.slice ma ml.length mc) ml := V2.mono (S := fun b => W1.heap.size ≤ b) HBV.out (fun b hb _ => by have hb : W1.heap.size ≤ b := hb; omega) (fun b hb _ => hd4 b (by have hb : W1.heap.size ≤ b := hb; omega))
          exact bodyPost_ret (v := .tuple #[.agg #[.int .i64 m.c, .int .i64 m.d, .int .i64 m.s, .int .i64 m.e, .int .i64 m.l, .slice ta T.length tc], .slice ca cuts.length cc, (.slice ma ml.length mc)]) (by simp [results, Tryz.results21, go_sem, hz0, hz1, hz2, hz3, hz4, hz5]) rfl ⟨m, _, _, T, cuts, [(.slice ma ml.length mc)], rfl, ⟨_, _, rfl, hkz⟩, hFz, hcz, hd2⟩
    · have hqd : (q == 0) = false := by simp [hq]
      clear hq
      -- behind the choice of the second cuts: (.slice ma ml.length mc) at world w7 (source H7.out.1, change H7.out.2.1 : Only .. w4 w7, fact H7.out.2.2.2.2 : V2 (W1.heap.size ≤ b ∧ b ≠ W1.heap.size))
      have HV9 := Lib.hid (H7.out.2.2.2.2)
      have hO9 : Only W1.heap.size w4 w7 := H7.out.2.1
      have hz9 := hO9.size
      have HO9 := Lib.hid hO9; clear hO9
      go_wp2_with fail
      refine (l01Next_any W1.heap.size W1.heap.size 20 _ H7.out.1).mono ?_
      rintro e' we ⟨z, rfl, _, hse, hoe⟩
      have hze := hoe.size
      have hVe := V2.mono (S' := fun b => W1.heap.size ≤ b ∧ b ≠ W1.heap.size) HV9.out (fun _ h _ => h) (hoe.keep fun b hb e => hb.2 e)
      have hM4e : we.heap[w3.heap.size]? = w4.heap[w3.heap.size]? := (HO9.out.trans hoe).block _ (by omega) (fun e => by omega)
      have hcMe : ∀ o, we.cell? ⟨w3.heap.size, o, none⟩ = (#[.int .i64 m.c, .int .i64 m.d, .int .i64 m.s, .int .i64 m.e, .int .i64 m.l, .slice ta T.length tc] : Array Value)[o]? := fun o => by rw [World.cell?_of_block (w := w4) (a := ⟨w3.heap.size, o, none⟩) hM4e]; rw [cell_of_block H4.out.2.2.1]
      have HE := Lib.hid (And.intro hse (And.intro (HO9.out.trans hoe) hVe)); clear hse hoe hVe hM4e HV9 HO9 hcM7
      by_cases hz : z = 0
      · subst hz
        go_wp2_with fail
        refine (l15DrawCuts_any W1.heap.size W1.heap.size m HD.out.1 _ _ _ HD.out.2.1 _ HE.out.1).mono ?_
        rintro e' wb ⟨bv, bl, rfl, ⟨hOb, _⟩, hsb, hob⟩
        obtain ⟨ba, bc, rfl, _, _⟩ := hOb.form
        have hob4 : Only W1.heap.size w4 wb := HE.out.2.1.trans hob
        clear hsb hob hcMe
        -- returns, at world wb (hob4 : Only W1.heap.size w4 wb), with second cuts (.slice ba bl.length bc) (list bl, fact ((hOb.base (show W1.heap.size ≤ we.heap.size by omega)).v2))
        have HBV := Lib.hid (((hOb.base (show W1.heap.size ≤ we.heap.size by omega)).v2))
        -- at world wb (Only the source since w4): facts behind the last call of a region that returns
        have hzb := hob4.size
        have hMb : wb.heap[w3.heap.size]? = w4.heap[w3.heap.size]? := hob4.block _ (by omega) (fun e => by omega)
        have hBb : Below W.heap.size W wb := H4.out.2.1.trans ((hob4.to_below (B := W1.heap.size) (Nat.le_refl _) (by omega)).mono (by omega))
        have hRb := hob4.heap H4.out.2.2.2.1 (fun e => by omega)
        have hub := H4.out.2.2.2.2.1.mono (S' := fun b => W1.heap.size ≤ b) (fun b hb _ => by have hb : w2.heap.size ≤ b := hb; omega) (hob4.keep fun b hb e => by have hb : w2.heap.size ≤ b := hb; omega)
        have hcb := H4.out.2.2.2.2.2.1.mono (S' := fun b => W1.heap.size ≤ b) (fun b hb _ => by have hb : w2.heap.size ≤ b := hb; omega) (hob4.keep fun b hb e => by have hb : w2.heap.size ≤ b := hb; omega)
        have hC := Lib.hid (And.intro hBb (And.intro hRb (And.intro hub (And.intro hcb hMb)))); clear hBb hRb hub hcb
        have hcMb : ∀ o, wb.cell? ⟨w3.heap.size, o, none⟩ = (#[.int .i64 m.c, .int .i64 m.d, .int .i64 m.s, .int .i64 m.e, .int .i64 m.l, .slice ta T.length tc] : Array Value)[o]? := fun o => by rw [World.cell?_of_block (w := w4) (a := ⟨w3.heap.size, o, none⟩) hMb]; rw [cell_of_block H4.out.2.2.1]
        have hcRz : ∀ o, wb.cell? ⟨W.heap.size, o, none⟩ = (#[.int .i64 0, .int .i64 0, .int .i64 0, .int .i64 0, .int .i64 0, .slice none 0 0] : Array Value)[o]? := fun o => by rw [cell_of_block hC.out.2.1]
        have hfRz := fun o => frozen_of_block hC.out.2.1 o
        clear hMb
        -- the system goes into the result's cell: from world wb to wz
        have hdone := putS_new hC.out.1 hC.out.2.1 (.int .i64 m.c) (.int .i64 m.d) (.int .i64 m.s) (.int .i64 m.e) (.int .i64 m.l) (.slice ta T.length tc)
        obtain ⟨wz, hwz⟩ : ∃ wz, wz = putS wb W.heap.size (.int .i64 m.c) (.int .i64 m.d) (.int .i64 m.s) (.int .i64 m.e) (.int .i64 m.l) (.slice ta T.length tc) := ⟨_, rfl⟩
        rw [← hwz] at hdone
        obtain ⟨hd2, hd3, hd4⟩ := hdone
        have hFz : V2 (fun b => W.heap.size ≤ b) wz (.slice ta T.length tc) T := V2.mono (S := fun b => W1.heap.size ≤ b) hC.out.2.2.1 (fun b hb _ => by have hb : W1.heap.size ≤ b := hb; omega) (fun b hb _ => hd4 b (by have hb : W1.heap.size ≤ b := hb; omega))
        have hcz : V2 (fun b => W.heap.size ≤ b) wz (.slice ca cuts.length cc) cuts := V2.mono (S := fun b => W1.heap.size ≤ b) hC.out.2.2.2.1 (fun b hb _ => by have hb : W1.heap.size ≤ b := hb; omega) (fun b hb _ => hd4 b (by have hb : W1.heap.size ≤ b := hb; omega))
        have hz0 : wz.cell? ⟨W.heap.size, 0, none⟩ = some (.int .i64 m.c) := by rw [cell_of_block hd3]; rfl
        have hz1 : wz.cell? ⟨W.heap.size, 1, none⟩ = some (.int .i64 m.d) := by rw [cell_of_block hd3]; rfl
        have hz2 : wz.cell? ⟨W.heap.size, 2, none⟩ = some (.int .i64 m.s) := by rw [cell_of_block hd3]; rfl
        have hz3 : wz.cell? ⟨W.heap.size, 3, none⟩ = some (.int .i64 m.e) := by rw [cell_of_block hd3]; rfl
        have hz4 : wz.cell? ⟨W.heap.size, 4, none⟩ = some (.int .i64 m.l) := by rw [cell_of_block hd3]; rfl
        have hz5 : wz.cell? ⟨W.heap.size, 5, none⟩ = some (.slice ta T.length tc) := by rw [cell_of_block hd3]; rfl
        have HZ := Lib.hid (And.intro hd2 (And.intro hFz (And.intro hcz (And.intro hwz (And.intro hz0 (And.intro hz1 (And.intro hz2 (And.intro hz3 (And.intro hz4 (And.intro hz5 hd4)))))))))); clear hd2 hd3 hd4 hFz hcz hwz hz0 hz1 hz2 hz3 hz4 hz5
        go_wp2_with fail
        have hwz := HZ.out.2.2.2.1
        unfold putS putR at hwz
        rw [← hwz]
        clear hwz
        obtain ⟨hd2, hFz, hcz, hwzz, hz0, hz1, hz2, hz3, hz4, hz5, hd4⟩ := HZ.out
        clear hwzz
        have hkz : V2 (fun b => W.heap.size ≤ b) wz (.slice ba bl.length bc) bl := V2.mono (S := fun b => W1.heap.size ≤ b) HBV.out (fun b hb _ => by have hb : W1.heap.size ≤ b := hb; omega) (fun b hb _ => hd4 b (by have hb : W1.heap.size ≤ b := hb; omega))
        exact bodyPost_ret (v := .tuple #[.agg #[.int .i64 m.c, .int .i64 m.d, .int .i64 m.s, .int .i64 m.e, .int .i64 m.l, .slice ta T.length tc], .slice ca cuts.length cc, (.slice ba bl.length bc)]) (by simp [results, Tryz.results21, go_sem, hz0, hz1, hz2, hz3, hz4, hz5]) rfl ⟨m, _, _, T, cuts, [(.slice ba bl.length bc)], rfl, ⟨_, _, rfl, hkz⟩, hFz, hcz, hd2⟩
      · have hzd : (z == 0) = false := by simp [hz]
        clear hz
        obtain ⟨wb, rfl⟩ : ∃ x, x = we := ⟨_, rfl⟩
        have hob4 : Only W1.heap.size w4 wb := HE.out.2.1
        clear hcMe
        -- returns, at world wb (hob4 : Only W1.heap.size w4 wb), with second cuts (.slice ma ml.length mc) (list ml, fact (V2.mono (S' := fun b => W1.heap.size ≤ b) HE.out.2.2 (fun b hb _ => hb.1) (fun _ _ _ => rfl)))
        have HBV := Lib.hid ((V2.mono (S' := fun b => W1.heap.size ≤ b) HE.out.2.2 (fun b hb _ => hb.1) (fun _ _ _ => rfl)))
        -- at world wb (Only the source since w4): facts behind the last call of a region that returns
        have hzb := hob4.size
        have hMb : wb.heap[w3.heap.size]? = w4.heap[w3.heap.size]? := hob4.block _ (by omega) (fun e => by omega)
        have hBb : Below W.heap.size W wb := H4.out.2.1.trans ((hob4.to_below (B := W1.heap.size) (Nat.le_refl _) (by omega)).mono (by omega))
        have hRb := hob4.heap H4.out.2.2.2.1 (fun e => by omega)
        have hub := H4.out.2.2.2.2.1.mono (S' := fun b => W1.heap.size ≤ b) (fun b hb _ => by have hb : w2.heap.size ≤ b := hb; omega) (hob4.keep fun b hb e => by have hb : w2.heap.size ≤ b := hb; omega)
        have hcb := H4.out.2.2.2.2.2.1.mono (S' := fun b => W1.heap.size ≤ b) (fun b hb _ => by have hb : w2.heap.size ≤ b := hb; omega) (hob4.keep fun b hb e => by have hb : w2.heap.size ≤ b := hb; omega)
        have hC := Lib.hid (And.intro hBb (And.intro hRb (And.intro hub (And.intro hcb hMb)))); clear hBb hRb hub hcb
        have hcMb : ∀ o, wb.cell? ⟨w3.heap.size, o, none⟩ = (#[.int .i64 m.c, .int .i64 m.d, .int .i64 m.s, .int .i64 m.e, .int .i64 m.l, .slice ta T.length tc] : Array Value)[o]? := fun o => by rw [World.cell?_of_block (w := w4) (a := ⟨w3.heap.size, o, none⟩) hMb]; rw [cell_of_block H4.out.2.2.1]
        have hcRz : ∀ o, wb.cell? ⟨W.heap.size, o, none⟩ = (#[.int .i64 0, .int .i64 0, .int .i64 0, .int .i64 0, .int .i64 0, .slice none 0 0] : Array Value)[o]? := fun o => by rw [cell_of_block hC.out.2.1]
        have hfRz := fun o => frozen_of_block hC.out.2.1 o
        clear hMb
        -- the system goes into the result's cell: from world wb to wz
        have hdone := putS_new hC.out.1 hC.out.2.1 (.int .i64 m.c) (.int .i64 m.d) (.int .i64 m.s) (.int .i64 m.e) (.int .i64 m.l) (.slice ta T.length tc)
        obtain ⟨wz, hwz⟩ : ∃ wz, wz = putS wb W.heap.size (.int .i64 m.c) (.int .i64 m.d) (.int .i64 m.s) (.int .i64 m.e) (.int .i64 m.l) (.slice ta T.length tc) := ⟨_, rfl⟩
        rw [← hwz] at hdone
        obtain ⟨hd2, hd3, hd4⟩ := hdone
        have hFz : V2 (fun b => W.heap.size ≤ b) wz (.slice ta T.length tc) T := V2.mono (S := fun b => W1.heap.size ≤ b) hC.out.2.2.1 (fun b hb _ => by have hb : W1.heap.size ≤ b := hb; omega) (fun b hb _ => hd4 b (by have hb : W1.heap.size ≤ b := hb; omega))
        have hcz : V2 (fun b => W.heap.size ≤ b) wz (.slice ca cuts.length cc) cuts := V2.mono (S := fun b => W1.heap.size ≤ b) hC.out.2.2.2.1 (fun b hb _ => by have hb : W1.heap.size ≤ b := hb; omega) (fun b hb _ => hd4 b (by have hb : W1.heap.size ≤ b := hb; omega))
        have hz0 : wz.cell? ⟨W.heap.size, 0, none⟩ = some (.int .i64 m.c) := by rw [cell_of_block hd3]; rfl
        have hz1 : wz.cell? ⟨W.heap.size, 1, none⟩ = some (.int .i64 m.d) := by rw [cell_of_block hd3]; rfl
        have hz2 : wz.cell? ⟨W.heap.size, 2, none⟩ = some (.int .i64 m.s) := by rw [cell_of_block hd3]; rfl
        have hz3 : wz.cell? ⟨W.heap.size, 3, none⟩ = some (.int .i64 m.e) := by rw [cell_of_block hd3]; rfl
        have hz4 : wz.cell? ⟨W.heap.size, 4, none⟩ = some (.int .i64 m.l) := by rw [cell_of_block hd3]; rfl
        have hz5 : wz.cell? ⟨W.heap.size, 5, none⟩ = some (.slice ta T.length tc) := by rw [cell_of_block hd3]; rfl
        have HZ := Lib.hid (And.intro hd2 (And.intro hFz (And.intro hcz (And.intro hwz (And.intro hz0 (And.intro hz1 (And.intro hz2 (And.intro hz3 (And.intro hz4 (And.intro hz5 hd4)))))))))); clear hd2 hd3 hd4 hFz hcz hwz hz0 hz1 hz2 hz3 hz4 hz5
        go_wp2_with fail
        have hwz := HZ.out.2.2.2.1
        unfold putS putR at hwz
        rw [← hwz]
        clear hwz
        obtain ⟨hd2, hFz, hcz, hwzz, hz0, hz1, hz2, hz3, hz4, hz5, hd4⟩ := HZ.out
        clear hwzz
        have hkz : V2 (fun b => W.heap.size ≤ b) wz (.slice ma ml.length mc) ml := V2.mono (S := fun b => W1.heap.size ≤ b) HBV.out (fun b hb _ => by have hb : W1.heap.size ≤ b := hb; omega) (fun b hb _ => hd4 b (by have hb : W1.heap.size ≤ b := hb; omega))
        exact bodyPost_ret (v := .tuple #[.agg #[.int .i64 m.c, .int .i64 m.d, .int .i64 m.s, .int .i64 m.e, .int .i64 m.l, .slice ta T.length tc], .slice ca cuts.length cc, (.slice ma ml.length mc)]) (by simp [results, Tryz.results21, go_sem, hz0, hz1, hz2, hz3, hz4, hz5]) rfl ⟨m, _, _, T, cuts, [(.slice ma ml.length mc)], rfl, ⟨_, _, rfl, hkz⟩, hFz, hcz, hd2⟩
end Go.Proofs.YtmfgdoflddhngaaGreat
