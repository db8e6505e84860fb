/- What the program and the reference answer on partial cuts of systems: their codes. No conditions. -/
import Derived.Test.YtikdbjaimcciiaaGreatMFault
import Derived.Test.YtikdbjaimcciiaaGreatSpare
namespace Go.Proofs.YtikdbjaimcciiaaGreat
open Go.RowKit
set_option linter.unusedVariables false
set_option linter.unusedSimpArgs false

theorem one1_keep {b b' off : Nat} {w0 w w' : World} {cs : Array Value} {v : Value} (hb1 : b < w0.heap.size ∧ b' < w0.heap.size) (h : (∀ o, w.cell? ⟨b, o, none⟩ = cs[o]?) ∧ w.cell? ⟨b', off, none⟩ = some v ∧ Below w0.heap.size w0 w) (hb : Below w.heap.size w w') :
    (∀ o, w'.cell? ⟨b, o, none⟩ = cs[o]?) ∧ w'.cell? ⟨b', off, none⟩ = some v ∧ Below w0.heap.size w0 w' := by
  obtain ⟨h1, h2, h3⟩ := h
  have := h3.size
  exact ⟨fun o => by rw [(bcell hb).1 _ _ (by omega), h1], by rw [(bcell hb).1 _ _ (by omega), h2], h3.trans (hb.mono h3.size)⟩
theorem one1_below {b b' off : Nat} {w0 w : World} {cs : Array Value} {v : Value} (h : (∀ o, w.cell? ⟨b, o, none⟩ = cs[o]?) ∧ w.cell? ⟨b', off, none⟩ = some v ∧ Below w0.heap.size w0 w) : Below w0.heap.size w0 w := h.2.2

def allKeys (m : Mk) (cuts : List (List Int)) : Bool := cuts.all (isKeyB m)
theorem allKeys_step {m : Mk} {l : List (List Int)} {k : Nat} (h : k < l.length) : allKeys m (l.drop k) = (isKeyB m (getl l k) && allKeys m (l.drop (k + 1))) := all_stepl _ h
theorem allKeys_iff {m : Mk} {l : List (List Int)} : allKeys m l = true ↔ ∀ k, k < l.length → isKeyB m (getl l k) = true := by
  simp only [allKeys, List.all_eq_true]
  constructor
  · intro h k hk; exact h _ (getl_mem hk)
  · intro h x hx
    obtain ⟨k, hk, rfl⟩ := List.getElem_of_mem hx
    have := h k hk
    rwa [getl_eq hk] at this
theorem any_notKey (m : Mk) (l : List (List Int)) : (l.any fun x => !isKeyB m x) = !allKeys m l := by
  unfold allKeys; induction l with
  | nil => rfl
  | cons x l ih => simp [ih]

theorem enters_areKeys : Enters 215 := fun args w => by kernel_rfl
theorem areKeys1_any {S : Nat → Prop} (m : Mk) (hm : m.ok = true) (v : Value) (l : List Int) (b : Nat) (W : World) (h : V1 S W v l) (hc : ∀ o, W.cell? ⟨b, o, none⟩ = (#[.int .i64 m.c, .int .i64 m.d, .int .i64 m.s, .int .i64 m.e, .int .i64 m.l] : Array Value)[o]?) :
    Calls Tryz.prog 215 #[v, .pointer (some ⟨b, 0, none⟩)] W fun e' w' => e' = .returned (.bool (!isKeyB m l)) ∧ Below W.heap.size W w' := by
  obtain ⟨a, c, rfl, hmx⟩ := h.form
  cases hk : isKeyB m l
  all_goals
    have Hk := Lib.hid hk; clear hk
    go_enter Tryz.func215, Tryz.ntmps215
    go_wp2_with fail
    refine (isKey_b m _ l _ _ Hk.out hm h).mono ?_
    rintro e' w' ⟨rfl, hb⟩
    clear hc
    go_wp2_with fail
    go_ret
    exact ⟨rfl, hb⟩
theorem areKeys_any {S : Nat → Prop} (m : Mk) (hm : m.ok = true) (v : Value) (ls : List (List Int)) (W : World) (h : V2 S W v ls) :
    Calls Tryz.prog 168 #[.agg #[.int .i64 m.c, .int .i64 m.d, .int .i64 m.s, .int .i64 m.e, .int .i64 m.l], v] W fun e' w' => e' = .returned (.bool (allKeys m ls)) ∧ Below W.heap.size W w' := by
  have hk := any_notKey m ls
  have Hk := Lib.hid hk; clear hk
  obtain ⟨W1, hW1, hB01, hz01, HZ01, hc01, hh01⟩ := box_facts W #[.int .i64 m.c, .int .i64 m.d, .int .i64 m.s, .int .i64 m.e, .int .i64 m.l] 25
  have hV := h.below hB01
  obtain ⟨a, c, rfl, hmx⟩ := h.form
  cases hkk : allKeys m ls
  all_goals
    have Hkk := Lib.hid hkk; clear hkk
    go_enter Tryz.func168, Tryz.ntmps168
    go_wp2_with fail
    rw [← hW1]
    refine (containsFunc_any (S := S) _ ls _ _ (fun o => !isKeyB m o) _ hV enters_areKeys ?_).mono ?_
    · intro S2 w v2 l hb hv
      exact areKeys1_any m hm v2 l W.heap.size w hv (fun o => by rw [(bcell hb).1 _ _ hz01, hc01])
    · rintro e' w' ⟨rfl, hb⟩
      clear hc01 hh01
      rw [Hk.out, Hkk.out]
      go_wp2_with fail
      go_ret
      exact ⟨rfl, hB01.trans (hb.mono (by omega))⟩
theorem areKeys_b {S : Nat → Prop} (m : Mk) (hm : m.ok = true) (v : Value) (ls : List (List Int)) (W : World) (r : Bool) (hr : allKeys m ls = r) (h : V2 S W v ls) :
    Calls Tryz.prog 168 #[.agg #[.int .i64 m.c, .int .i64 m.d, .int .i64 m.s, .int .i64 m.e, .int .i64 m.l], v] W fun e' w' => e' = .returned (.bool r) ∧ Below W.heap.size W w' := by subst hr; exact areKeys_any m hm v ls W h

theorem l04Keys_any {S : Nat → Prop} (m : Mk) (hm : m.ok = true) (v : Value) (ls : List (List Int)) (W : World) (h : V2 S W v ls) (hlen : ls.length ≤ 300) :
    Calls Tryz.prog 187 #[.agg #[.int .i64 m.c, .int .i64 m.d, .int .i64 m.s, .int .i64 m.e, .int .i64 m.l], v] W fun e' w' => e' = .returned (.bool (allKeys m ls)) ∧ Below W.heap.size W w' := by
  obtain ⟨W1, hW1, hB01, hz01, HZ01, hc01, hh01⟩ := box_facts W #[.int .i64 m.c, .int .i64 m.d, .int .i64 m.s, .int .i64 m.e, .int .i64 m.l] 25
  have hV := h.below hB01
  obtain ⟨a, c, rfl, hmx⟩ := h.form
  go_enter Tryz.func187, Tryz.ntmps187
  go_wp2_with fail
  rw [← hW1]
  have HW1 := Lib.hid hW1; clear hW1 hh01
  have Hc01 := Lib.hid hc01; clear hc01
  go_wp2_with fail
  go_loopw [5] (fun i wr => ∃ k : Nat, k ≤ ls.length ∧ i = .int .i64 (k : Int) ∧ allKeys m ls = allKeys m (ls.drop k) ∧ Below W1.heap.size W1 wr) (fun i _ => ls.length - (intOf i).toNat)
  case atStart => exact ⟨0, Nat.zero_le _, rfl, rfl, Below.refl _ _⟩
  case round =>
    obtain ⟨k, hk, rfl, hrem, hB⟩ := hrel
    have Hr := Lib.hid hrem; clear hrem
    have hzr := hB.size
    have hx : ∀ o, wr.cell? ⟨W.heap.size, o, none⟩ = (#[.int .i64 m.c, .int .i64 m.d, .int .i64 m.s, .int .i64 m.e, .int .i64 m.l] : Array Value)[o]? := fun o => by rw [(bcell hB).1 _ _ hz01, Hc01.out]
    by_cases hkk : k < ls.length
    · obtain ⟨b1, off1, a1, c1, rfl, _, hc1, hr1⟩ := (hV.below hB).cell hkk
      have hbb : W.heap.size < wr.heap.size ∧ b1 < wr.heap.size := ⟨by omega, lt_of_cell hc1⟩
      have hk2 : isKeyB m (getl ls k) = decide (fault m (getl ls k) = 0) := rfl
      have Hx := Lib.hid hx
      by_cases hf : fault m (getl ls k) = 0
      · have e1 : (fault m (getl ls k) != 0) = false := by simp [hf]
        have Hk2 := Lib.hid (hk2.trans (decide_eq_true hf)); clear hk2
        have Hf := Lib.hid hf; clear hf
        go_wp2_with fail
        go_region_held3 (fun w' => (∀ o, w'.cell? ⟨W.heap.size, o, none⟩ = (#[.int .i64 m.c, .int .i64 m.d, .int .i64 m.s, .int .i64 m.e, .int .i64 m.l] : Array Value)[o]?) ∧ w'.cell? ⟨b1, off1 + k, none⟩ = some (.slice a1 (getl ls k).length c1) ∧ Below wr.heap.size wr w')
          (first | exact one1_keep hbb (by assumption) (by assumption) | exact ⟨hx, hc1, (Below.refl _ _).drew⟩)
          (first | (go_at_call 224; refine (l02Fault_any m _ (getl ls k) _ hm (hr1.below (one1_below (by assumption)))).mono ?_; rintro e' w' ⟨rfl, hb⟩))
        have hBw := one1_below (w0 := wr) (by assumption)
        go_wp2_with fail
        go_roundw
        case rel => exact ⟨k + 1, by omega, by go_num, by rw [Hr.out, allKeys_step hkk, Hk2.out]; rfl, hB.trans (hBw.mono hzr)⟩
        case measure => simp [intOf]; omega
      · have e1 : (fault m (getl ls k) != 0) = true := by simp [hf]
        have Hk2 := Lib.hid (hk2.trans (decide_eq_false hf)); clear hk2
        have Hf := Lib.hid hf; clear hf
        go_wp2_with fail
        go_region_held3 (fun w' => (∀ o, w'.cell? ⟨W.heap.size, o, none⟩ = (#[.int .i64 m.c, .int .i64 m.d, .int .i64 m.s, .int .i64 m.e, .int .i64 m.l] : Array Value)[o]?) ∧ w'.cell? ⟨b1, off1 + k, none⟩ = some (.slice a1 (getl ls k).length c1) ∧ Below wr.heap.size wr w')
          (first | exact one1_keep hbb (by assumption) (by assumption) | exact ⟨hx, hc1, (Below.refl _ _).drew⟩)
          (first | (go_at_call 224; refine (l02Fault_any m _ (getl ls k) _ hm (hr1.below (one1_below (by assumption)))).mono ?_; rintro e' w' ⟨rfl, hb⟩))
        have hBw := one1_below (w0 := wr) (by assumption)
        go_wp2_with fail
        go_ret
        exact ⟨ret_bool (by rw [Hr.out, allKeys_step hkk, Hk2.out]; rfl), hB01.trans ((hB.trans (hBw.mono hzr)).mono (by omega))⟩
    · have hd : ls.drop k = [] := List.drop_of_length_le (by omega)
      have Hd := Lib.hid hd; clear hd
      go_wp2_with fail
      go_ret
      exact ⟨ret_bool (by rw [Hr.out, Hd.out]; simp [allKeys]; omega), hB01.trans (hB.mono (by omega))⟩
theorem l04Keys_b {S : Nat → Prop} (m : Mk) (hm : m.ok = true) (v : Value) (ls : List (List Int)) (W : World) (r : Bool) (hr : allKeys m ls = r) (h : V2 S W v ls) (hlen : ls.length ≤ 300) :
    Calls Tryz.prog 187 #[.agg #[.int .i64 m.c, .int .i64 m.d, .int .i64 m.s, .int .i64 m.e, .int .i64 m.l], v] W fun e' w' => e' = .returned (.bool r) ∧ Below W.heap.size W w' := by subst hr; exact l04Keys_any m hm v ls W h hlen

/-- The code of a system and partial cuts. -/
def partC (m : Mk) (t cuts : List (List Int)) : Int := if isSys m t = false then 1 else if t.length < cuts.length then 2 else if allKeys m cuts = false then 2 else 0
theorem partC_ok {m : Mk} {t cuts : List (List Int)} : partC m t cuts = 0 ↔ isSys m t = true ∧ cuts.length ≤ t.length ∧ allKeys m cuts = true := by
  unfold partC
  cases isSys m t <;> cases allKeys m cuts <;> simp <;> split <;> simp_all <;> omega

set_option maxRecDepth 100000 in
theorem partCode_any {S S' : Nat → Prop} (m : Mk) (u v : Value) (t cuts : List (List Int)) (W : World) (h : V2 S W u t) (hc : V2 S' W v cuts) :
    Calls Tryz.prog 143 #[.agg #[.int .i64 m.c, .int .i64 m.d, .int .i64 m.s, .int .i64 m.e, .int .i64 m.l, u], v] W fun e' w' => e' = .returned (.int .i64 (partC m t cuts)) ∧ Below W.heap.size W w' := by
  obtain ⟨a, c, rfl, hmx⟩ := h.form
  obtain ⟨a', c', rfl, hmx'⟩ := hc.form
  obtain ⟨W1, hW1, hB01, hz01, HZ01, hc01, hh01⟩ := box_facts W #[.int .i64 m.c, .int .i64 m.d, .int .i64 m.s, .int .i64 m.e, .int .i64 m.l, .slice a t.length c] 28
  have hV1 : V2 (fun _ => True) W1 (.slice a t.length c) t := (h.below hB01).mono (fun _ _ _ => trivial) (fun _ _ _ => rfl)
  have hC1 : V2 (fun _ => True) W1 (.slice a' cuts.length c') cuts := (hc.below hB01).mono (fun _ _ _ => trivial) (fun _ _ _ => rfl)
  cases hs : isSys m t
  · have hfin : partC m t cuts = 1 := by unfold partC; rw [if_pos hs]
    rw [hfin]
    have Hs := Lib.hid hs; clear hs
    go_enter Tryz.func143, Tryz.ntmps143
    go_wp2_with fail
    rw [← hW1]
    refine (isSystem_b m _ t _ _ Hs.out hV1).mono ?_
    rintro e' w2 ⟨rfl, hb2⟩
    clear hc01 hh01
    go_wp2_with fail
    go_ret
    exact ⟨rfl, hB01.trans (hb2.mono (by omega))⟩
  · obtain ⟨hok, htab, _⟩ := isSys_parts hs
    have htl := (isTab_iff.1 htab).1
    clear htab
    by_cases hl : t.length < cuts.length
    · have hfin : partC m t cuts = 2 := by unfold partC; rw [if_neg (by rw [hs]; decide), if_pos hl]
      rw [hfin]
      have Hs := Lib.hid hs; clear hs hok hfin
      go_enter Tryz.func143, Tryz.ntmps143
      go_wp2_with fail
      rw [← hW1]
      refine (isSystem_b m _ t _ _ Hs.out hV1).mono ?_
      rintro e' w2 ⟨rfl, hb2⟩
      have hx2 : ∀ o, w2.cell? ⟨W.heap.size, o, none⟩ = (#[.int .i64 m.c, .int .i64 m.d, .int .i64 m.s, .int .i64 m.e, .int .i64 m.l, .slice a t.length c] : Array Value)[o]? := fun o => by rw [(bcell hb2).1 _ _ hz01, hc01]
      clear hc01 hh01
      go_wp2_with fail
      go_ret
      exact ⟨rfl, hB01.trans (hb2.mono (by omega))⟩
    · have hd : decide (t.length < cuts.length) = false := decide_eq_false hl
      cases hk : allKeys m cuts
      · have hfin : partC m t cuts = 2 := by unfold partC; rw [if_neg (by rw [hs]; decide), if_neg hl, if_pos hk]
        rw [hfin]
        have Hs := Lib.hid hs; clear hs hfin
        have Hk := Lib.hid hk; clear hk
        have Hok := Lib.hid hok; clear hok
        go_enter Tryz.func143, Tryz.ntmps143
        go_wp2_with fail
        rw [← hW1]
        refine (isSystem_b m _ t _ _ Hs.out hV1).mono ?_
        rintro e' w2 ⟨rfl, hb2⟩
        have hx2 : ∀ o, w2.cell? ⟨W.heap.size, o, none⟩ = (#[.int .i64 m.c, .int .i64 m.d, .int .i64 m.s, .int .i64 m.e, .int .i64 m.l, .slice a t.length c] : Array Value)[o]? := fun o => by rw [(bcell hb2).1 _ _ hz01, hc01]
        clear hc01 hh01
        go_wp2_with (refine (areKeys_b m Hok.out _ cuts _ _ Hk.out (hC1.below hb2) ).mono ?_; rintro e' w' ⟨rfl, hb3⟩)
        go_ret
        exact ⟨rfl, hB01.trans ((hb2.trans (hb3.mono hb2.size)).mono (by omega))⟩
      · have hfin : partC m t cuts = 0 := by unfold partC; rw [if_neg (by rw [hs]; decide), if_neg hl, if_neg (by rw [hk]; decide)]
        rw [hfin]
        have Hs := Lib.hid hs; clear hs hfin
        have Hk := Lib.hid hk; clear hk
        have Hok := Lib.hid hok; clear hok
        go_enter Tryz.func143, Tryz.ntmps143
        go_wp2_with fail
        rw [← hW1]
        refine (isSystem_b m _ t _ _ Hs.out hV1).mono ?_
        rintro e' w2 ⟨rfl, hb2⟩
        have hx2 : ∀ o, w2.cell? ⟨W.heap.size, o, none⟩ = (#[.int .i64 m.c, .int .i64 m.d, .int .i64 m.s, .int .i64 m.e, .int .i64 m.l, .slice a t.length c] : Array Value)[o]? := fun o => by rw [(bcell hb2).1 _ _ hz01, hc01]
        clear hc01 hh01
        go_wp2_with (refine (areKeys_b m Hok.out _ cuts _ _ Hk.out (hC1.below hb2) ).mono ?_; rintro e' w' ⟨rfl, hb3⟩)
        go_ret
        exact ⟨rfl, hB01.trans ((hb2.trans (hb3.mono hb2.size)).mono (by omega))⟩
set_option maxRecDepth 100000 in
theorem l16Code_any {S S' : Nat → Prop} (m : Mk) (u v : Value) (t cuts : List (List Int)) (W : World) (h : V2 S W u t) (hc : V2 S' W v cuts) :
    Calls Tryz.prog 120 #[.agg #[.int .i64 m.c, .int .i64 m.d, .int .i64 m.s, .int .i64 m.e, .int .i64 m.l, u], v] W fun e' w' => e' = .returned (.int .i64 (partC m t cuts)) ∧ Below W.heap.size W w' := by
  obtain ⟨a, c, rfl, hmx⟩ := h.form
  obtain ⟨a', c', rfl, hmx'⟩ := hc.form
  obtain ⟨W1, hW1, hB01, hz01, HZ01, hc01, hh01⟩ := box_facts W #[.int .i64 m.c, .int .i64 m.d, .int .i64 m.s, .int .i64 m.e, .int .i64 m.l, .slice a t.length c] 28
  have hV1 : V2 (fun _ => True) W1 (.slice a t.length c) t := (h.below hB01).mono (fun _ _ _ => trivial) (fun _ _ _ => rfl)
  have hC1 : V2 (fun _ => True) W1 (.slice a' cuts.length c') cuts := (hc.below hB01).mono (fun _ _ _ => trivial) (fun _ _ _ => rfl)
  cases hs : isSys m t
  · have hfin : partC m t cuts = 1 := by unfold partC; rw [if_pos hs]
    rw [hfin]
    have Hs := Lib.hid hs; clear hs
    go_enter Tryz.func120, Tryz.ntmps120
    go_wp2_with fail
    rw [← hW1]
    refine (isSystemR_b m _ t _ _ Hs.out hV1).mono ?_
    rintro e' w2 ⟨rfl, hb2⟩
    clear hc01 hh01
    go_wp2_with fail
    go_ret
    exact ⟨rfl, hB01.trans (hb2.mono (by omega))⟩
  · obtain ⟨hok, htab, _⟩ := isSys_parts hs
    have htl := (isTab_iff.1 htab).1
    clear htab
    by_cases hl : t.length < cuts.length
    · have hfin : partC m t cuts = 2 := by unfold partC; rw [if_neg (by rw [hs]; decide), if_pos hl]
      rw [hfin]
      have Hs := Lib.hid hs; clear hs hok hfin
      go_enter Tryz.func120, Tryz.ntmps120
      go_wp2_with fail
      rw [← hW1]
      refine (isSystemR_b m _ t _ _ Hs.out hV1).mono ?_
      rintro e' w2 ⟨rfl, hb2⟩
      have hx2 : ∀ o, w2.cell? ⟨W.heap.size, o, none⟩ = (#[.int .i64 m.c, .int .i64 m.d, .int .i64 m.s, .int .i64 m.e, .int .i64 m.l, .slice a t.length c] : Array Value)[o]? := fun o => by rw [(bcell hb2).1 _ _ hz01, hc01]
      clear hc01 hh01
      go_wp2_with fail
      go_ret
      exact ⟨rfl, hB01.trans (hb2.mono (by omega))⟩
    · have hd : decide (t.length < cuts.length) = false := decide_eq_false hl
      cases hk : allKeys m cuts
      · have hfin : partC m t cuts = 2 := by unfold partC; rw [if_neg (by rw [hs]; decide), if_neg hl, if_pos hk]
        rw [hfin]
        have Hs := Lib.hid hs; clear hs hfin
        have Hk := Lib.hid hk; clear hk
        have Hok := Lib.hid hok; clear hok
        go_enter Tryz.func120, Tryz.ntmps120
        go_wp2_with fail
        rw [← hW1]
        refine (isSystemR_b m _ t _ _ Hs.out hV1).mono ?_
        rintro e' w2 ⟨rfl, hb2⟩
        have hx2 : ∀ o, w2.cell? ⟨W.heap.size, o, none⟩ = (#[.int .i64 m.c, .int .i64 m.d, .int .i64 m.s, .int .i64 m.e, .int .i64 m.l, .slice a t.length c] : Array Value)[o]? := fun o => by rw [(bcell hb2).1 _ _ hz01, hc01]
        clear hc01 hh01
        go_wp2_with (refine (l04Keys_b m Hok.out _ cuts _ _ Hk.out (hC1.below hb2) (by omega)).mono ?_; rintro e' w' ⟨rfl, hb3⟩)
        go_ret
        exact ⟨rfl, hB01.trans ((hb2.trans (hb3.mono hb2.size)).mono (by omega))⟩
      · have hfin : partC m t cuts = 0 := by unfold partC; rw [if_neg (by rw [hs]; decide), if_neg hl, if_neg (by rw [hk]; decide)]
        rw [hfin]
        have Hs := Lib.hid hs; clear hs hfin
        have Hk := Lib.hid hk; clear hk
        have Hok := Lib.hid hok; clear hok
        go_enter Tryz.func120, Tryz.ntmps120
        go_wp2_with fail
        rw [← hW1]
        refine (isSystemR_b m _ t _ _ Hs.out hV1).mono ?_
        rintro e' w2 ⟨rfl, hb2⟩
        have hx2 : ∀ o, w2.cell? ⟨W.heap.size, o, none⟩ = (#[.int .i64 m.c, .int .i64 m.d, .int .i64 m.s, .int .i64 m.e, .int .i64 m.l, .slice a t.length c] : Array Value)[o]? := fun o => by rw [(bcell hb2).1 _ _ hz01, hc01]
        clear hc01 hh01
        go_wp2_with (refine (l04Keys_b m Hok.out _ cuts _ _ Hk.out (hC1.below hb2) (by omega)).mono ?_; rintro e' w' ⟨rfl, hb3⟩)
        go_ret
        exact ⟨rfl, hB01.trans ((hb2.trans (hb3.mono hb2.size)).mono (by omega))⟩
end Go.Proofs.YtikdbjaimcciiaaGreat
