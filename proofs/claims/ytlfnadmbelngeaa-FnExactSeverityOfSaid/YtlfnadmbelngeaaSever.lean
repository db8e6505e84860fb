/- What the program and the reference answer on the severity of a key. No conditions. -/
import Derived.Test.YtlfnadmbelngeaaDoorsO
namespace Go.Proofs.Ytlfnadmbelngeaa
open Go.RowKit
set_option linter.unusedVariables false
set_option linter.unusedSimpArgs false

def sevAns (m : Mk) (t cuts : List (List Int)) (key : List Int) : Int × Int :=
  if keyC m t cuts key ≠ 0 then (0, keyC m t cuts key) else if hasL cuts key = true then (0, 0) else (((doorsOf (locksTo m.c.toNat t cuts (getl t 0).length) key).length : Nat), 0)
theorem doors_few {m : Mk} {t cuts : List (List Int)} (hf : Fits m t cuts) (n : Nat) (key : List Int) : (doorsOf (locksTo n t cuts (getl t 0).length) key).length ≤ 12 := by
  have := doorsOf_len (locksTo n t cuts (getl t 0).length) key
  rw [locksTo_len] at this
  have := hf.doors
  omega

set_option maxRecDepth 100000 in
theorem SeverityOf_any {S S' S2 : Nat → Prop} (m : Mk) (u v kv : Value) (t cuts : List (List Int)) (key : List Int) (W : World) (h : V2 S W u t) (hc : V2 S' W v cuts) (hk : V1 S2 W kv key) :
    Calls Try.prog 16 #[.agg #[.int .i64 m.c, .int .i64 m.d, .int .i64 m.s, .int .i64 m.e, .int .i64 m.l, u], v, kv] W fun e' w' => e' = .returned (.tuple #[.int .i64 (sevAns m t cuts key).1, .int .i64 (sevAns m t cuts key).2]) ∧ Below W.heap.size W w' := by
  obtain ⟨a, c, rfl, hmx⟩ := h.form
  obtain ⟨a', c', rfl, hmx'⟩ := hc.form
  obtain ⟨ka, kc, rfl, hmk⟩ := hk.form
  obtain ⟨W1, hW1, hB01, hz01, HZ01, hc01, hh01⟩ := box_facts W #[.int .i64 m.c, .int .i64 m.d, .int .i64 m.s, .int .i64 m.e, .int .i64 m.l, .slice a t.length c] 34
  have hV1 := (h.below hB01).any
  have hC1 := (hc.below hB01).any
  have hK1 := (hk.below hB01).any
  have hdo := DoorsOpened_any m _ _ _ t cuts key W1 hV1 hC1 hK1
  by_cases hp : keyC m t cuts key = 0
  · have hda : doorsAns m t cuts key = (doorsOf (locksTo m.c.toNat t cuts (getl t 0).length) key, 0) := by unfold doorsAns; rw [if_neg (by rw [hp]; decide)]
    rw [hda] at hdo
    have hfew := doors_few (design_fits (keyC_ok.1 hp).1).1 m.c.toNat key
    obtain ⟨ds, hds⟩ : ∃ x, x = doorsOf (locksTo m.c.toNat t cuts (getl t 0).length) key := ⟨_, rfl⟩
    rw [← hds] at hdo hfew
    cases hh : hasL cuts key
    all_goals
      first | (have hfin : sevAns m t cuts key = (((ds.length : Nat) : Int), 0) := (by unfold sevAns; rw [if_neg (by rw [hp]; decide), if_neg (by rw [hh]; decide), ← hds])) | (have hfin : sevAns m t cuts key = (0, 0) := (by unfold sevAns; rw [if_neg (by rw [hp]; decide), if_pos hh]))
      rw [hfin]
      have Hdo := Lib.hid hdo; clear hdo
      have Hh := Lib.hid hh; clear hh
      have Hp := Lib.hid (And.intro hp (And.intro hfin (And.intro hda hds))); clear hp hfin hda hds
      go_enter Try.func16, Try.ntmps16
      go_wp2_with fail
      rw [← hW1]
      refine Hdo.out.mono ?_
      rintro e' w2 ⟨v2, rfl, hF2, hb2⟩
      obtain ⟨a2, c2, rfl, _⟩ := hF2.v1.form
      clear hc01 hh01 hF2
      go_wp2_with fail
      refine (contains_b _ _ cuts key _ _ Hh.out (hC1.below hb2) (hK1.below hb2)).mono ?_
      rintro e' w3 ⟨rfl, hb3⟩
      go_wp2_with fail
      go_ret2
      exact ⟨rfl, hB01.trans ((hb2.trans (hb3.mono hb2.size)).mono (by omega))⟩
  · have hda : doorsAns m t cuts key = ([], keyC m t cuts key) := by unfold doorsAns; rw [if_pos hp]
    rw [hda] at hdo
    have hfin : sevAns m t cuts key = (0, keyC m t cuts key) := by unfold sevAns; rw [if_pos hp]
    have e1 : (keyC m t cuts key != 0) = true := by simp [hp]
    rw [hfin]
    have Hp := Lib.hid (And.intro hp (And.intro hfin hda)); clear hp hfin hda
    generalize keyC m t cuts key = pc at *
    go_enter Try.func16, Try.ntmps16
    go_wp2_with fail
    rw [← hW1]
    refine hdo.mono ?_
    rintro e' w2 ⟨v2, rfl, hF2, hb2⟩
    clear hc01 hh01 hF2 hdo
    go_wp2_with fail
    go_ret2
    exact ⟨rfl, hB01.trans (hb2.mono (by omega))⟩

set_option maxRecDepth 100000 in
theorem SeverityOfR_any {S S' S2 : Nat → Prop} (m : Mk) (u v kv : Value) (t cuts : List (List Int)) (key : List Int) (W : World) (h : V2 S W u t) (hc : V2 S' W v cuts) (hk : V1 S2 W kv key) :
    Calls Try.prog 12 #[.agg #[.int .i64 m.c, .int .i64 m.d, .int .i64 m.s, .int .i64 m.e, .int .i64 m.l, u], v, kv] W fun e' w' => e' = .returned (.tuple #[.int .i64 (sevAns m t cuts key).1, .int .i64 (sevAns m t cuts key).2]) ∧ Below W.heap.size W w' := by
  obtain ⟨a, c, rfl, hmx⟩ := h.form
  obtain ⟨a', c', rfl, hmx'⟩ := hc.form
  obtain ⟨ka, kc, rfl, hmk⟩ := hk.form
  obtain ⟨W1, hW1, hB01, hz01, HZ01, hc01, hh01⟩ := box_facts W #[.int .i64 m.c, .int .i64 m.d, .int .i64 m.s, .int .i64 m.e, .int .i64 m.l, .slice a t.length c] 34
  have hV1 := (h.below hB01).any
  have hC1 := (hc.below hB01).any
  have hK1 := (hk.below hB01).any
  have hcode := l21Key_any m _ _ _ t cuts key W1 hV1 hC1 hK1
  by_cases hp : keyC m t cuts key = 0
  · rw [hp] at hcode
    obtain ⟨hd, hk2⟩ := keyC_ok.1 hp
    have hf := (design_fits hd).1
    have hmc := mc_nat hf.ok
    have hkl : key.length ≤ m.c.toNat := by have := (isKey_iff.1 hk2).1; omega
    have hfew := doors_few hf m.c.toNat key
    have hld := l16Doors_any (S := fun _ => True) (S' := fun _ => True) (S2 := fun _ => True) m (.slice a t.length c) (.slice a' cuts.length c') (.slice ka key.length kc) t cuts key m.c.toNat
    have Hf := Lib.hid (And.intro hf (And.intro hmc hkl)); clear hf hmc hkl
    obtain ⟨ds, hds⟩ : ∃ x, x = doorsOf (locksTo m.c.toNat t cuts (getl t 0).length) key := ⟨_, rfl⟩
    rw [← hds] at hld hfew
    cases hh : hasL cuts key
    · have hfin : sevAns m t cuts key = (((ds.length : Nat) : Int), 0) := by unfold sevAns; rw [if_neg (by rw [hp]; decide), if_neg (by rw [hh]; decide), ← hds]
      rw [hfin]
      have Hcode := Lib.hid (And.intro hcode hld); clear hcode hld
      have Hh := Lib.hid hh; clear hh
      have Hp := Lib.hid (And.intro hp (And.intro hfin (And.intro hd (And.intro hk2 hds)))); clear hp hfin hd hk2 hds
      go_enter Try.func12, Try.ntmps12
      go_wp2_with fail
      rw [← hW1]
      refine Hcode.out.1.mono ?_
      rintro e' w2 ⟨rfl, hb2⟩
      go_wp2_with fail
      refine (l14Has_b _ _ cuts key _ _ Hh.out (hC1.below hb2) (hK1.below hb2)).mono ?_
      rintro e' w3 ⟨rfl, nq, hw3⟩
      have hb3 : Below w2.heap.size w2 w3 := by rw [hw3]; exact below_drewN (Below.refl _ _) _
      clear hw3
      have hb13 := hb2.trans (hb3.mono hb2.size)
      have hx3 : ∀ o, w3.cell? ⟨W.heap.size, o, none⟩ = (#[.int .i64 m.c, .int .i64 m.d, .int .i64 m.s, .int .i64 m.e, .int .i64 m.l, .slice a t.length c] : Array Value)[o]? := fun o => by rw [(bcell hb13).1 _ _ hz01, hc01]
      have hz3 : W.heap.size < w3.heap.size := by have := hb13.size; omega
      clear hc01 hh01
      go_wp2_with fail
      refine (Hcode.out.2 _ Hf.out.1 Hf.out.2.1 Hf.out.2.2 (hV1.below hb13) (hC1.below hb13) (hK1.below hb13)).mono ?_
      rintro e' w4 ⟨v4, rfl, hF4, hb4⟩
      obtain ⟨a4, c4, rfl, _⟩ := hF4.v1.form
      clear hx3 hF4
      go_wp2_with fail
      go_ret2
      exact ⟨rfl, hB01.trans ((hb13.trans (hb4.mono hb13.size)).mono (by omega))⟩
    · have hfin : sevAns m t cuts key = (0, 0) := by unfold sevAns; rw [if_neg (by rw [hp]; decide), if_pos hh]
      rw [hfin]
      have Hcode := Lib.hid (And.intro hcode hld); clear hcode hld
      have Hh := Lib.hid hh; clear hh
      have Hp := Lib.hid (And.intro hp (And.intro hfin (And.intro hd (And.intro hk2 hds)))); clear hp hfin hd hk2 hds
      go_enter Try.func12, Try.ntmps12
      go_wp2_with fail
      rw [← hW1]
      refine Hcode.out.1.mono ?_
      rintro e' w2 ⟨rfl, hb2⟩
      clear hc01 hh01
      go_wp2_with fail
      refine (l14Has_b _ _ cuts key _ _ Hh.out (hC1.below hb2) (hK1.below hb2)).mono ?_
      rintro e' w3 ⟨rfl, nq, hw3⟩
      have hb3 : Below w2.heap.size w2 w3 := by rw [hw3]; exact below_drewN (Below.refl _ _) _
      clear hw3
      go_wp2_with fail
      go_ret2
      exact ⟨rfl, hB01.trans ((hb2.trans (hb3.mono hb2.size)).mono (by omega))⟩
  · have hfin : sevAns m t cuts key = (0, keyC m t cuts key) := by unfold sevAns; rw [if_pos hp]
    have e1 : (keyC m t cuts key != 0) = true := by simp [hp]
    rw [hfin]
    have Hp := Lib.hid (And.intro hp hfin); clear hp hfin
    generalize keyC m t cuts key = pc at *
    go_enter Try.func12, Try.ntmps12
    go_wp2_with fail
    rw [← hW1]
    refine hcode.mono ?_
    rintro e' w2 ⟨rfl, hb2⟩
    clear hc01 hh01
    go_wp2_with fail
    go_ret2
    exact ⟨rfl, hB01.trans (hb2.mono (by omega))⟩
end Go.Proofs.Ytlfnadmbelngeaa
