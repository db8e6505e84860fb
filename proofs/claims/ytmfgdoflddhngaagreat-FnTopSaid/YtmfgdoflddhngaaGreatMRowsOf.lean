/- The rows of a reason, in increasing order, as the program and as the reference find them. No conditions. -/
import Derived.Test.YtmfgdoflddhngaaGreatMOut
import Derived.Test.YtmfgdoflddhngaaGreatMKeys
import Derived.Test.YtmfgdoflddhngaaGreatMDoors
namespace Go.Proofs.YtmfgdoflddhngaaGreat
open Go.RowKit
set_option linter.unusedVariables false
set_option linter.unusedSimpArgs false

theorem F1.nil {B : Nat} {w : World} : F1 B w (.slice none 0 0) [] := ⟨0, ⟨none, 0, rfl, Nat.le_refl _, Nat.zero_le _, fun hn => absurd rfl hn⟩, fun hn => absurd rfl hn⟩
end Go.Proofs.YtmfgdoflddhngaaGreat

namespace Go.Proofs.YtmfgdoflddhngaaGreat
open Go.RowKit
set_option linter.unusedVariables false
set_option linter.unusedSimpArgs false

def doorsAns (m : Mk) (t cuts : List (List Int)) (key : List Int) : List Int × Int :=
  if keyC m t cuts key ≠ 0 then ([], keyC m t cuts key) else (doorsOf (locksTo m.c.toNat t cuts (getl t 0).length) key, 0)
theorem keyC_ok {m : Mk} {t cuts : List (List Int)} {key : List Int} : keyC m t cuts key = 0 ↔ designC m t cuts = 0 ∧ isKeyB m key = true := by
  unfold keyC
  by_cases h : designC m t cuts = 0
  · rw [if_neg (by rw [h]; decide)]
    cases isKeyB m key <;> simp [h]
  · rw [if_pos h]; simp [h]
theorem keyC_no {m : Mk} {t cuts : List (List Int)} {key : List Int} (h : designC m t cuts ≠ 0) : keyC m t cuts key = designC m t cuts := by unfold keyC; rw [if_pos h]
theorem doorsAns_len (m : Mk) (t cuts : List (List Int)) (key : List Int) : (doorsAns m t cuts key).1.length ≤ 1048576 := by
  unfold doorsAns
  by_cases h : keyC m t cuts key = 0
  · rw [if_neg (by rw [h]; decide)]
    have := doorsOf_len (locksTo m.c.toNat t cuts (getl t 0).length) key
    rw [locksTo_len] at this
    have := (design_fits (keyC_ok.1 h).1).1.doors
    show (doorsOf _ _).length ≤ _
    omega
  · rw [if_pos h]; simp

set_option maxRecDepth 100000 in
theorem DoorsOpened_any {S S' S2 : Nat → Prop} (m : Mk) (u v kv : Value) (t cuts : List (List Int)) (key : List Int) (W : World) (h : V2 S W u t) (hc : V2 S' W v cuts) (hk : V1 S2 W kv key) :
    Calls Tryz.prog 32 #[.agg #[.int .i64 m.c, .int .i64 m.d, .int .i64 m.s, .int .i64 m.e, .int .i64 m.l, u], v, kv] W fun e' w' => ∃ v', e' = .returned (.tuple #[v', .int .i64 (doorsAns m t cuts key).2]) ∧ F1 W.heap.size w' v' (doorsAns m t cuts key).1 ∧ Below W.heap.size W w' := by
  obtain ⟨a, c, rfl, hmx⟩ := h.form
  obtain ⟨a', c', rfl, hmx'⟩ := hc.form
  obtain ⟨ka, kc, rfl, hmk⟩ := hk.form
  obtain ⟨W1, hW1, hB01, hz01, HZ01, hc01, hh01⟩ := box_facts W #[.int .i64 m.c, .int .i64 m.d, .int .i64 m.s, .int .i64 m.e, .int .i64 m.l, .slice a t.length c] 28
  have hV1 := (h.below hB01).any
  have hC1 := (hc.below hB01).any
  have hK1 := (hk.below hB01).any
  have hcode := designCode_any m _ _ t cuts W1 hV1 hC1
  by_cases hp : designC m t cuts = 0
  · rw [hp] at hcode
    have hf := (design_fits hp).1
    have hmc := mc_nat hf.ok
    have hdoors := hf.doors
    have hz1 : W.heap.size < W1.heap.size := hz01
    have Hf := Lib.hid (And.intro hf hmc); clear hf hmc
    cases hk2 : isKeyB m key
    · have hfin : doorsAns m t cuts key = ([], 2) := by
        have : keyC m t cuts key = 2 := by unfold keyC; rw [if_neg (by rw [hp]; decide), if_pos hk2]
        unfold doorsAns; rw [if_pos (by rw [this]; decide), this]
      rw [hfin]
      have Hcode := Lib.hid hcode; clear hcode
      have Hk := Lib.hid hk2; clear hk2
      have Hp := Lib.hid (And.intro hp hfin); clear hp hfin
      go_enter Tryz.func32, Tryz.ntmps32
      go_wp2_with fail
      rw [← hW1]
      refine Hcode.out.mono ?_
      rintro e' w2 ⟨rfl, hb2⟩
      have hx2 : ∀ o, w2.cell? ⟨W.heap.size, o, none⟩ = (#[.int .i64 m.c, .int .i64 m.d, .int .i64 m.s, .int .i64 m.e, .int .i64 m.l, .slice a t.length c] : Array Value)[o]? := fun o => by rw [(bcell hb2).1 _ _ hz01, hc01]
      have hz2 : W.heap.size < w2.heap.size := by have := hb2.size; omega
      clear hc01 hh01
      go_wp2_with fail
      refine (isKey_b m _ key _ _ Hk.out Hf.out.1.ok (hK1.below hb2)).mono ?_
      rintro e' w3 ⟨rfl, hb3⟩
      clear hx2
      go_wp2_with fail
      go_ret2
      exact ⟨_, rfl, F1.nil, hB01.trans ((hb2.trans (hb3.mono hb2.size)).mono (by omega))⟩
    · have hfin : doorsAns m t cuts key = (doorsOf (locksTo m.c.toNat t cuts (getl t 0).length) key, 0) := by
        unfold doorsAns; rw [if_neg (by rw [keyC_ok.2 ⟨hp, hk2⟩]; decide)]
      rw [hfin]
      have hlen : ∀ k, k < (locksTo m.c.toNat t cuts (getl t 0).length).length → key.length ≤ (getll (locksTo m.c.toNat t cuts (getl t 0).length) k).length := fun k hk => by
        rw [locksTo_len] at hk
        rw [lock_len hk]
        have := (isKey_iff.1 hk2).1
        have := Hf.out.2
        omega
      have Hlen := Lib.hid hlen; clear hlen
      have Hcode := Lib.hid hcode; clear hcode
      have Hk := Lib.hid hk2; clear hk2
      have Hp := Lib.hid (And.intro hp hfin); clear hp hfin
      go_enter Tryz.func32, Tryz.ntmps32
      go_wp2_with fail
      rw [← hW1]
      refine Hcode.out.mono ?_
      rintro e' w2 ⟨rfl, hb2⟩
      have hx2 : ∀ o, w2.cell? ⟨W.heap.size, o, none⟩ = (#[.int .i64 m.c, .int .i64 m.d, .int .i64 m.s, .int .i64 m.e, .int .i64 m.l, .slice a t.length c] : Array Value)[o]? := fun o => by rw [(bcell hb2).1 _ _ hz01, hc01]
      have hz2 : W.heap.size < w2.heap.size := by have := hb2.size; omega
      have Hc01 := Lib.hid hc01; clear hc01 hh01
      go_wp2_with fail
      refine (isKey_b m _ key _ _ Hk.out Hf.out.1.ok (hK1.below hb2)).mono ?_
      rintro e' w3 ⟨rfl, hb3⟩
      have hb13 := hb2.trans (hb3.mono hb2.size)
      have hx3 : ∀ o, w3.cell? ⟨W.heap.size, o, none⟩ = (#[.int .i64 m.c, .int .i64 m.d, .int .i64 m.s, .int .i64 m.e, .int .i64 m.l, .slice a t.length c] : Array Value)[o]? := fun o => by rw [(bcell hb13).1 _ _ hz01, Hc01.out]
      have hz3 : W.heap.size < w3.heap.size := by have := hb3.size; omega
      clear hx2
      go_wp2_with fail
      refine (partLocks_any m _ _ t cuts m.c.toNat _ Hf.out.1 Hf.out.2 (hV1.below hb13) (hC1.below hb13)).mono ?_
      rintro e' w4 ⟨v4, rfl, hL4, hb4⟩
      clear hx3
      have hb14 := hb13.trans (hb4.mono hb13.size)
      go_wp2_with fail
      refine (doorsOpened_any _ _ _ key _ hL4 (hK1.below hb14) (by rw [locksTo_len]; omega) Hlen.out).mono ?_
      rintro e' w5 ⟨v5, rfl, hF5, hb5⟩
      have HF5 := Lib.hid hF5; clear hF5
      have hz5 : W.heap.size ≤ w4.heap.size := by have := hb14.size; omega
      go_wp2_with fail
      go_ret2
      exact ⟨_, rfl, F1.mono HF5.out hz5, hB01.trans ((hb14.trans (hb5.mono hb14.size)).mono (by omega))⟩
  · have hfin : doorsAns m t cuts key = ([], designC m t cuts) := by
      unfold doorsAns; rw [keyC_no hp, if_pos hp]
    have e1 : (designC m t cuts != 0) = true := by simp [hp]
    rw [hfin]
    have Hp := Lib.hid (And.intro hp hfin); clear hp hfin
    generalize designC m t cuts = pc at *
    go_enter Tryz.func32, Tryz.ntmps32
    go_wp2_with fail
    rw [← hW1]
    refine hcode.mono ?_
    rintro e' w2 ⟨rfl, hb2⟩
    clear hc01 hh01
    go_wp2_with fail
    go_ret2
    exact ⟨_, rfl, F1.nil, hB01.trans (hb2.mono (by omega))⟩

set_option maxRecDepth 100000 in
theorem DoorsOpenedR_any {S S' S2 : Nat → Prop} (m : Mk) (u v kv : Value) (t cuts : List (List Int)) (key : List Int) (W : World) (h : V2 S W u t) (hc : V2 S' W v cuts) (hk : V1 S2 W kv key) :
    Calls Tryz.prog 33 #[.agg #[.int .i64 m.c, .int .i64 m.d, .int .i64 m.s, .int .i64 m.e, .int .i64 m.l, u], v, kv] W fun e' w' => ∃ v', e' = .returned (.tuple #[v', .int .i64 (doorsAns m t cuts key).2]) ∧ V1 (fun b => b < w'.heap.size) w' v' (doorsAns m t cuts key).1 ∧ Below W.heap.size W w' := by
  obtain ⟨a, c, rfl, hmx⟩ := h.form
  obtain ⟨a', c', rfl, hmx'⟩ := hc.form
  obtain ⟨ka, kc, rfl, hmk⟩ := hk.form
  obtain ⟨W1, hW1, hB01, hz01, HZ01, hc01, hh01⟩ := box_facts W #[.int .i64 m.c, .int .i64 m.d, .int .i64 m.s, .int .i64 m.e, .int .i64 m.l, .slice a t.length c] 28
  have hV1 := (h.below hB01).any
  have hC1 := (hc.below hB01).any
  have hK1 := (hk.below hB01).any
  have hcode := l21Key_any m _ _ _ t cuts key W1 hV1 hC1 hK1
  by_cases hp : keyC m t cuts key = 0
  · rw [hp] at hcode
    obtain ⟨hd, hk2⟩ := keyC_ok.1 hp
    have hf := (design_fits hd).1
    have hmc := mc_nat hf.ok
    have hkl : key.length ≤ m.c.toNat := by have := (isKey_iff.1 hk2).1; omega
    have hfin : doorsAns m t cuts key = (doorsOf (locksTo m.c.toNat t cuts (getl t 0).length) key, 0) := by
      unfold doorsAns; rw [if_neg (by rw [hp]; decide)]
    rw [hfin]
    have Hf := Lib.hid (And.intro hf (And.intro hmc hkl)); clear hf hmc hkl
    have Hcode := Lib.hid hcode; clear hcode
    have Hp := Lib.hid (And.intro hp (And.intro hfin (And.intro hd hk2))); clear hp hfin hd hk2
    go_enter Tryz.func33, Tryz.ntmps33
    go_wp2_with fail
    rw [← hW1]
    refine Hcode.out.mono ?_
    rintro e' w2 ⟨rfl, hb2⟩
    have hx2 : ∀ o, w2.cell? ⟨W.heap.size, o, none⟩ = (#[.int .i64 m.c, .int .i64 m.d, .int .i64 m.s, .int .i64 m.e, .int .i64 m.l, .slice a t.length c] : Array Value)[o]? := fun o => by rw [(bcell hb2).1 _ _ hz01, hc01]
    have hz2 : W.heap.size < w2.heap.size := by have := hb2.size; omega
    clear hc01 hh01
    go_wp2_with fail
    refine (l16Doors_any m _ _ _ t cuts key m.c.toNat _ Hf.out.1 Hf.out.2.1 Hf.out.2.2 (hV1.below hb2) (hC1.below hb2) (hK1.below hb2)).mono ?_
    rintro e' w3 ⟨v3, rfl, hF3, hb3⟩
    have HF3 := Lib.hid hF3.v1.old; clear hx2 hF3
    go_wp2_with fail
    go_ret2
    exact ⟨_, rfl, HF3.out, hB01.trans ((hb2.trans (hb3.mono hb2.size)).mono (by omega))⟩
  · have hfin : doorsAns m t cuts key = ([], keyC m t cuts key) := by unfold doorsAns; rw [if_pos hp]
    have e1 : (keyC m t cuts key != 0) = true := by simp [hp]
    rw [hfin]
    have Hp := Lib.hid (And.intro hp hfin); clear hp hfin
    generalize keyC m t cuts key = pc at *
    go_enter Tryz.func33, Tryz.ntmps33
    go_wp2_with fail
    rw [← hW1]
    refine hcode.mono ?_
    rintro e' w2 ⟨rfl, hb2⟩
    clear hc01 hh01
    go_wp2_with fail
    go_ret2
    exact ⟨_, rfl, (F1.nil (B := 0)).v1.old, hB01.trans (hb2.mono (by omega))⟩
end Go.Proofs.YtmfgdoflddhngaaGreat
