/- The first outsiders of a kind, as the reference gives them. No conditions. -/
import Derived.Test.YtlfnadmbelngeaaGreatGhO
namespace Go.Proofs.YtlfnadmbelngeaaGreat
open Go.RowKit
set_option linter.unusedVariables false
set_option linter.unusedSimpArgs false

theorem listAns_len (m : Mk) (t cuts : List (List Int)) (most : Int) (gb : Bool) : (listAns m t cuts most gb).1.length ≤ 300 ∧ ∀ r ∈ (listAns m t cuts most gb).1, r.length ≤ 6 := by
  unfold listAns
  split
  · exact ⟨by simp, fun r hr => by simp at hr⟩
  · rename_i hp
    split
    · exact ⟨by simp, fun r hr => by simp at hr⟩
    · rename_i hi
      have hf := (design_fits (Classical.not_not.1 hp)).1
      have hm := inB_iff.1 (show inB most 0 300 = true by simpa using hi)
      have hmk := Mk.ok_iff.1 hf.ok
      refine ⟨?_, fun r hr => ?_⟩
      · show (List.take _ _).length ≤ 300
        rw [List.length_take]; omega
      · have h1 := List.mem_of_mem_take hr
        unfold selL at h1
        rw [List.mem_filter] at h1
        have h2 := (isKey_iff.1 ((mem_keysOf (by omega)).1 h1.1)).1
        omega
set_option maxRecDepth 100000 in
set_option maxHeartbeats 1000000 in
theorem l21List_any {S S' : Nat → Prop} (m : Mk) (u v : Value) (t cuts : List (List Int)) (most : Int) (gb : Bool) (W : World) (h : V2 S W u t) (hc : V2 S' W v cuts) :
    Calls Tryz.prog 44 #[.agg #[.int .i64 m.c, .int .i64 m.d, .int .i64 m.s, .int .i64 m.e, .int .i64 m.l, u], v, .int .i64 most, .bool gb] W fun e' w' => ∃ v', e' = .returned (.tuple #[v', .int .i64 (listAns m t cuts most gb).2]) ∧ V2 (fun b => b < w'.heap.size) w' v' (listAns m t cuts most gb).1 ∧ Below W.heap.size W w' := by
  obtain ⟨a, c, rfl, hmx⟩ := h.form
  obtain ⟨a', c', rfl, hmx'⟩ := hc.form
  obtain ⟨W1, hW1, hB01, hz01, HZ01, hc01, hh01⟩ := box_facts W #[.int .i64 m.c, .int .i64 m.d, .int .i64 m.s, .int .i64 m.e, .int .i64 m.l, .slice a t.length c] 34
  have hV1 := (h.below hB01).any
  have hC1 := (hc.below hB01).any
  have hcode := l21Code_any m _ _ t cuts W1 hV1 hC1
  by_cases hp : designC m t cuts = 0
  · rw [hp] at hcode
    have hf := (design_fits hp).1
    have hmc := mc_nat hf.ok
    cases hi : inB most 0 300
    · have hfin : listAns m t cuts most gb = ([], 2) := by unfold listAns; rw [if_neg (by rw [hp]; decide), if_pos hi]
      rw [hfin]
      have Hp := Lib.hid (And.intro hp (And.intro hf (And.intro hmc hfin))); clear hp hf hmc hfin
      have Hi := Lib.hid hi; clear hi
      go_enter Tryz.func44, Tryz.ntmps44
      go_wp2_with fail
      rw [← hW1]
      refine hcode.mono ?_
      rintro e' w2 ⟨rfl, hb2⟩
      have hx2 : ∀ o, w2.cell? ⟨W.heap.size, o, none⟩ = (#[.int .i64 m.c, .int .i64 m.d, .int .i64 m.s, .int .i64 m.e, .int .i64 m.l, .slice a t.length c] : Array Value)[o]? := fun o => by rw [(bcell hb2).1 _ _ hz01, hc01]
      have hz2 : W.heap.size < w2.heap.size := by have := hb2.size; omega
      clear hc01 hh01
      go_wp2_with (go_at_call 40; refine (l01In_b _ _ _ _ _ Hi.out).mono ?_; rintro e' w' ⟨rfl, rfl⟩)
      go_ret2
      exact ⟨_, rfl, (F2.nil0 (B := 0)).v2.old, hB01.trans (hb2.mono (by omega))⟩
    · have hm := inB_iff.1 hi
      have hfin : listAns m t cuts most gb = ((selL (locksTo m.c.toNat t cuts (getl t 0).length) cuts gb (keysOf m)).take most.toNat, 0) := by unfold listAns; rw [if_neg (by rw [hp]; decide), if_neg (by rw [hi]; decide)]
      rw [hfin]
      obtain ⟨M, rfl⟩ : ∃ M : Nat, most = (M : Int) := ⟨most.toNat, by omega⟩
      rw [show ((M : Int)).toNat = M from rfl]
      have hkl := keysOf_length hf.ok
      have hout := l21Outsiders_any (S := fun _ => True) (S' := fun _ => True) m (.slice a t.length c) (.slice a' cuts.length c') t cuts m.c.toNat gb
      obtain ⟨L, hL⟩ : ∃ x, selL (locksTo m.c.toNat t cuts (getl t 0).length) cuts gb (keysOf m) = x := ⟨_, rfl⟩
      have hLl : L.length ≤ 262144 := by rw [← hL]; exact Nat.le_trans (selL_length _ _ _ _) hkl
      rw [hL] at hout ⊢
      have Hp := Lib.hid (And.intro hp (And.intro hf (And.intro hmc (And.intro hfin (And.intro hm (And.intro hout hL)))))); clear hp hf hmc hfin hm hout hL hkl
      have Hi := Lib.hid hi; clear hi
      go_enter Tryz.func44, Tryz.ntmps44
      go_wp2_with fail
      rw [← hW1]
      refine hcode.mono ?_
      rintro e' w2 ⟨rfl, hb2⟩
      have hx2 : ∀ o, w2.cell? ⟨W.heap.size, o, none⟩ = (#[.int .i64 m.c, .int .i64 m.d, .int .i64 m.s, .int .i64 m.e, .int .i64 m.l, .slice a t.length c] : Array Value)[o]? := fun o => by rw [(bcell hb2).1 _ _ hz01, hc01]
      have hz2 : W.heap.size < w2.heap.size := by have := hb2.size; omega
      clear hc01 hh01
      go_wp2_with (go_at_call 40; refine (l01In_b _ _ _ _ _ Hi.out).mono ?_; rintro e' w' ⟨rfl, rfl⟩)
      refine (Hp.out.2.2.2.2.2.1 _ Hp.out.2.1 Hp.out.2.2.1 (hV1.below hb2) (hC1.below hb2)).mono ?_
      rintro e' w3 ⟨v3, rfl, hF3, hb3⟩
      obtain ⟨a3, c3, rfl, hm3⟩ := hF3.form
      have hcap := hF3.cap
      have HF3 := Lib.hid hF3; clear hF3 hx2
      by_cases hml : M ≤ L.length
      · have hmin : min (M : Int) (L.length : Int) = M := by omega
        have hw : (M : Int) ≤ (c3 : Int) := by omega
        go_wp2_with fail
        go_ret2
        exact ⟨_, rfl, HF3.out.take hml, hB01.trans ((hb2.trans (hb3.mono hb2.size)).mono (by omega))⟩
      · have hmin : min (M : Int) (L.length : Int) = (L.length : Int) := by omega
        have hw : (L.length : Int) ≤ (c3 : Int) := by omega
        go_wp2_with fail
        go_ret2
        exact ⟨_, rfl, by rw [List.take_of_length_le (show L.length ≤ M by omega)]; exact HF3.out, hB01.trans ((hb2.trans (hb3.mono hb2.size)).mono (by omega))⟩
  · have hfin : listAns m t cuts most gb = ([], designC m t cuts) := by unfold listAns; rw [if_pos hp]
    have e1 : (designC m t cuts != 0) = true := by simp [hp]
    have e0 : (designC m t cuts == 0) = false := by simp [hp]
    rw [hfin]
    have Hp := Lib.hid (And.intro hp hfin); clear hp hfin
    generalize designC m t cuts = pc at *
    go_enter Tryz.func44, Tryz.ntmps44
    go_wp2_with fail
    rw [← hW1]
    refine hcode.mono ?_
    rintro e' w2 ⟨rfl, hb2⟩
    have hx2 : ∀ o, w2.cell? ⟨W.heap.size, o, none⟩ = (#[.int .i64 m.c, .int .i64 m.d, .int .i64 m.s, .int .i64 m.e, .int .i64 m.l, .slice a t.length c] : Array Value)[o]? := fun o => by rw [(bcell hb2).1 _ _ hz01, hc01]
    have hz2 : W.heap.size < w2.heap.size := by have := hb2.size; omega
    clear hc01 hh01
    clear hx2
    go_wp2_with fail
    go_ret2
    exact ⟨_, rfl, (F2.nil0 (B := 0)).v2.old, hB01.trans (hb2.mono (by omega))⟩
set_option maxRecDepth 100000 in
theorem SystemGhostsR_any {S S' : Nat → Prop} (m : Mk) (u v : Value) (t cuts : List (List Int)) (most : Int) (W : World) (h : V2 S W u t) (hc : V2 S' W v cuts) :
    Calls Tryz.prog 28 #[.agg #[.int .i64 m.c, .int .i64 m.d, .int .i64 m.s, .int .i64 m.e, .int .i64 m.l, u], v, .int .i64 most] W fun e' w' => ∃ v', e' = .returned (.tuple #[v', .int .i64 (ghostsAns m t cuts most).2]) ∧ V2 (fun b => b < w'.heap.size) w' v' (ghostsAns m t cuts most).1 ∧ Below W.heap.size W w' := by
  obtain ⟨a, c, rfl, hmx⟩ := h.form
  obtain ⟨a', c', rfl, hmx'⟩ := hc.form
  obtain ⟨W1, hW1, hB01, hz01, HZ01, hc01, hh01⟩ := box_facts W #[.int .i64 m.c, .int .i64 m.d, .int .i64 m.s, .int .i64 m.e, .int .i64 m.l, .slice a t.length c] 34
  have hall := l21List_any m _ _ t cuts most true W1 (h.below hB01) (hc.below hB01)
  unfold ghostsAns
  generalize listAns m t cuts most true = ans at *
  go_enter Tryz.func28, Tryz.ntmps28
  go_wp2_with fail
  rw [← hW1]
  refine hall.mono ?_
  rintro e' w2 ⟨v', rfl, hF, hb2⟩
  have HF := Lib.hid hF; clear hF
  clear hc01 hh01
  go_wp2_with fail
  go_ret2
  exact ⟨_, rfl, HF.out, hB01.trans (hb2.mono hB01.size)⟩
theorem SafeKeysR_any {S S' : Nat → Prop} (m : Mk) (u v : Value) (t cuts : List (List Int)) (most : Int) (W : World) (h : V2 S W u t) (hc : V2 S' W v cuts) :
    Calls Tryz.prog 25 #[.agg #[.int .i64 m.c, .int .i64 m.d, .int .i64 m.s, .int .i64 m.e, .int .i64 m.l, u], v, .int .i64 most] W fun e' w' => ∃ v', e' = .returned (.tuple #[v', .int .i64 (safeAns m t cuts most).2]) ∧ V2 (fun b => b < w'.heap.size) w' v' (safeAns m t cuts most).1 ∧ Below W.heap.size W w' := by
  obtain ⟨a, c, rfl, hmx⟩ := h.form
  obtain ⟨a', c', rfl, hmx'⟩ := hc.form
  obtain ⟨W1, hW1, hB01, hz01, HZ01, hc01, hh01⟩ := box_facts W #[.int .i64 m.c, .int .i64 m.d, .int .i64 m.s, .int .i64 m.e, .int .i64 m.l, .slice a t.length c] 34
  have hall := l21List_any m _ _ t cuts most false W1 (h.below hB01) (hc.below hB01)
  unfold safeAns
  generalize listAns m t cuts most false = ans at *
  go_enter Tryz.func25, Tryz.ntmps25
  go_wp2_with fail
  rw [← hW1]
  refine hall.mono ?_
  rintro e' w2 ⟨v', rfl, hF, hb2⟩
  have HF := Lib.hid hF; clear hF
  clear hc01 hh01
  go_wp2_with fail
  go_ret2
  exact ⟨_, rfl, HF.out, hB01.trans (hb2.mono hB01.size)⟩
theorem ghostsAns_len (m : Mk) (t cuts : List (List Int)) (most : Int) : (ghostsAns m t cuts most).1.length ≤ 1048576 ∧ ∀ r ∈ (ghostsAns m t cuts most).1, r.length ≤ 1048576 := ⟨Nat.le_trans (listAns_len m t cuts most true).1 (by omega), fun r hr => Nat.le_trans ((listAns_len m t cuts most true).2 r hr) (by omega)⟩
theorem safeAns_len (m : Mk) (t cuts : List (List Int)) (most : Int) : (safeAns m t cuts most).1.length ≤ 1048576 ∧ ∀ r ∈ (safeAns m t cuts most).1, r.length ≤ 1048576 := ⟨Nat.le_trans (listAns_len m t cuts most false).1 (by omega), fun r hr => Nat.le_trans ((listAns_len m t cuts most false).2 r hr) (by omega)⟩
end Go.Proofs.YtlfnadmbelngeaaGreat
