/- What the program and the reference answer on partial cuts of systems: their codes. No conditions. -/
import Derived.Lib.SlicesCompact
import Derived.Deep.RegionHeld3
import Derived.Shelf.SlicesG.Turned
import Derived.Shelf.SlicesG.Clone
import Derived.Shelf.SlicesG.CompactI
import Derived.Shelf.SortM.Plain
import Derived.Shelf.SortM.SortNone
import Derived.Ground.SlgnProg
import Derived.Ground.SlgmProg
import Derived.Test.YtmaefilliggjiaaProg
import Derived.Lib.RabinKarpLaws
import Derived.Deep.AppendLies
import Derived.Test.YtmaefilliggjiaaMFault3
import Derived.Test.YtmaefilliggjiaaMCopy
import Derived.Test.YtmaefilliggjiaaMLib
namespace Go.Proofs.Ytmaefilliggjiaa
open Go.RowKit
set_option linter.unusedVariables false
set_option linter.unusedSimpArgs false
theorem one1_keep {b b' off : Nat} {w0 w w' : World} {cs : Array Value} {v : Value} (hb1 : b < w0.heap.size ∧ b' < w0.heap.size) (h : (∀ o, w.cell? ⟨b, o, none⟩ = cs[o]?) ∧ w.cell? ⟨b', off, none⟩ = some v ∧ Below w0.heap.size w0 w) (hb : Below w.heap.size w w') :
  (∀ o, w'.cell? ⟨b, o, none⟩ = cs[o]?) ∧ w'.cell? ⟨b', off, none⟩ = some v ∧ Below w0.heap.size w0 w' := by
 obtain ⟨h1, h2, h3⟩ := h
 have := h3.size
 exact ⟨fun o => by rw [(bcell hb).1 _ _ (by omega), h1], by rw [(bcell hb).1 _ _ (by omega), h2], h3.trans (hb.mono h3.size)⟩
theorem one1_below {b b' off : Nat} {w0 w : World} {cs : Array Value} {v : Value} (h : (∀ o, w.cell? ⟨b, o, none⟩ = cs[o]?) ∧ w.cell? ⟨b', off, none⟩ = some v ∧ Below w0.heap.size w0 w) : Below w0.heap.size w0 w := h.2.2
def allKeys (m : Mk) (cuts : List (List Int)) : Bool := cuts.all (isKeyB m)
theorem allKeys_step {m : Mk} {l : List (List Int)} {k : Nat} (h : k < l.length) : allKeys m (l.drop k) = (isKeyB m (getl l k) && allKeys m (l.drop (k + 1))) := all_stepl _ h
theorem allKeys_iff {m : Mk} {l : List (List Int)} : allKeys m l = true ↔ ∀ k, k < l.length → isKeyB m (getl l k) = true := by
 simp only [allKeys, List.all_eq_true]
 constructor
 ·intro h k hk; exact h _ (getl_mem hk)
 ·intro h x hx
  obtain ⟨k, hk, rfl⟩ := List.getElem_of_mem hx
  have := h k hk
  rwa [getl_eq hk] at this
theorem any_notKey (m : Mk) (l : List (List Int)) : (l.any fun x => !isKeyB m x) = !allKeys m l := by
 unfold allKeys; induction l with
 | nil => rfl
 | cons x l ih => simp [ih]
theorem enters_areKeys : Enters 43 := fun args w => by kernel_rfl
theorem areKeys1_any {S : Nat → Prop} (m : Mk) (hm : m.ok = true) (v : Value) (l : List Int) (b : Nat) (W : World) (h : V1 S W v l) (hc : ∀ o, W.cell? ⟨b, o, none⟩ = (#[.int .i64 m.c, .int .i64 m.d, .int .i64 m.s, .int .i64 m.e, .int .i64 m.l] : Array Value)[o]?) :
  Calls Try.prog 43 #[v, .pointer (some ⟨b, 0, none⟩)] W fun e' w' => e' = .returned (.bool (!isKeyB m l)) ∧ Below W.heap.size W w' := by
 obtain ⟨a, c, rfl, hmx⟩ := h.form
 cases hk : isKeyB m l
 all_goals
  have Hk := Lib.hid hk; clear hk
  go_enter Try.func43, Try.ntmps43
  go_wp2_with fail
  refine (isKey_b m _ l _ _ Hk.out hm h).mono ?_
  rintro e' w' ⟨rfl, hb⟩
  clear hc
  go_wp2_with fail
  go_ret
  exact ⟨rfl, hb⟩
theorem areKeys_any {S : Nat → Prop} (m : Mk) (hm : m.ok = true) (v : Value) (ls : List (List Int)) (W : World) (h : V2 S W v ls) :
  Calls Try.prog 34 #[.agg #[.int .i64 m.c, .int .i64 m.d, .int .i64 m.s, .int .i64 m.e, .int .i64 m.l], v] W fun e' w' => e' = .returned (.bool (allKeys m ls)) ∧ Below W.heap.size W w' := by
 have hk := any_notKey m ls
 have Hk := Lib.hid hk; clear hk
 obtain ⟨W1, hW1, hB01, hz01, HZ01, hc01, hh01⟩ := box_facts W #[.int .i64 m.c, .int .i64 m.d, .int .i64 m.s, .int .i64 m.e, .int .i64 m.l] 30
 have hV := h.below hB01
 obtain ⟨a, c, rfl, hmx⟩ := h.form
 cases hkk : allKeys m ls
 all_goals
  have Hkk := Lib.hid hkk; clear hkk
  go_enter Try.func34, Try.ntmps34
  go_wp2_with fail
  rw [← hW1]
  refine (containsFunc_any (S := S) _ ls _ _ (fun o => !isKeyB m o) _ hV enters_areKeys ?_).mono ?_
  ·intro S2 w v2 l hb hv
   exact areKeys1_any m hm v2 l W.heap.size w hv (fun o => by rw [(bcell hb).1 _ _ hz01, hc01])
  ·rintro e' w' ⟨rfl, hb⟩
   clear hc01 hh01
   rw [Hk.out, Hkk.out]
   go_wp2_with fail
   go_ret
   exact ⟨rfl, hB01.trans (hb.mono (by omega))⟩
theorem areKeys_b {S : Nat → Prop} (m : Mk) (hm : m.ok = true) (v : Value) (ls : List (List Int)) (W : World) (r : Bool) (hr : allKeys m ls = r) (h : V2 S W v ls) :
  Calls Try.prog 34 #[.agg #[.int .i64 m.c, .int .i64 m.d, .int .i64 m.s, .int .i64 m.e, .int .i64 m.l], v] W fun e' w' => e' = .returned (.bool r) ∧ Below W.heap.size W w' := by subst hr; exact areKeys_any m hm v ls W h
theorem l04Keys_any {S : Nat → Prop} (m : Mk) (hm : m.ok = true) (v : Value) (ls : List (List Int)) (W : World) (h : V2 S W v ls) (hlen : ls.length ≤ 300) :
  Calls Try.prog 32 #[.agg #[.int .i64 m.c, .int .i64 m.d, .int .i64 m.s, .int .i64 m.e, .int .i64 m.l], v] W fun e' w' => e' = .returned (.bool (allKeys m ls)) ∧ Below W.heap.size W w' := by
 obtain ⟨W1, hW1, hB01, hz01, HZ01, hc01, hh01⟩ := box_facts W #[.int .i64 m.c, .int .i64 m.d, .int .i64 m.s, .int .i64 m.e, .int .i64 m.l] 30
 have hV := h.below hB01
 obtain ⟨a, c, rfl, hmx⟩ := h.form
 go_enter Try.func32, Try.ntmps32
 go_wp2_with fail
 rw [← hW1]
 have HW1 := Lib.hid hW1; clear hW1 hh01
 have Hc01 := Lib.hid hc01; clear hc01
 go_wp2_with fail
 go_loopw [5] (fun i wr => ∃ k : Nat, k ≤ ls.length ∧ i = .int .i64 (k : Int) ∧ allKeys m ls = allKeys m (ls.drop k) ∧ Below W1.heap.size W1 wr) (fun i _ => ls.length - (intOf i).toNat)
 case atStart => exact ⟨0, Nat.zero_le _, rfl, rfl, Below.refl _ _⟩
 case round =>
  obtain ⟨k, hk, rfl, hrem, hB⟩ := hrel
  have Hr := Lib.hid hrem; clear hrem
  have hzr := hB.size
  have hx : ∀ o, wr.cell? ⟨W.heap.size, o, none⟩ = (#[.int .i64 m.c, .int .i64 m.d, .int .i64 m.s, .int .i64 m.e, .int .i64 m.l] : Array Value)[o]? := fun o => by rw [(bcell hB).1 _ _ hz01, Hc01.out]
  by_cases hkk : k < ls.length
  ·obtain ⟨b1, off1, a1, c1, rfl, _, hc1, hr1⟩ := (hV.below hB).cell hkk
   have hbb : W.heap.size < wr.heap.size ∧ b1 < wr.heap.size := ⟨by omega, lt_of_cell hc1⟩
   have hk2 : isKeyB m (getl ls k) = decide (fault m (getl ls k) = 0) := rfl
   have Hx := Lib.hid hx
   by_cases hf : fault m (getl ls k) = 0
   ·have e1 : (fault m (getl ls k) != 0) = false := by simp [hf]
    have Hk2 := Lib.hid (hk2.trans (decide_eq_true hf)); clear hk2
    have Hf := Lib.hid hf; clear hf
    go_wp2_with fail
    go_region_held3 (fun w' => (∀ o, w'.cell? ⟨W.heap.size, o, none⟩ = (#[.int .i64 m.c, .int .i64 m.d, .int .i64 m.s, .int .i64 m.e, .int .i64 m.l] : Array Value)[o]?) ∧ w'.cell? ⟨b1, off1 + k, none⟩ = some (.slice a1 (getl ls k).length c1) ∧ Below wr.heap.size wr w')
     (first | exact one1_keep hbb (by assumption) (by assumption) | exact ⟨hx, hc1, (Below.refl _ _).drew⟩)
     (first | (go_at_call 38; refine (l02Fault_any m _ (getl ls k) _ hm (hr1.below (one1_below (by assumption)))).mono ?_; rintro e' w' ⟨rfl, hb⟩))
    have hBw := one1_below (w0 := wr) (by assumption)
    go_wp2_with fail
    go_roundw
    case rel => exact ⟨k + 1, by omega, by go_num, by rw [Hr.out, allKeys_step hkk, Hk2.out]; rfl, hB.trans (hBw.mono hzr)⟩
    case measure => simp [intOf]; omega
   ·have e1 : (fault m (getl ls k) != 0) = true := by simp [hf]
    have Hk2 := Lib.hid (hk2.trans (decide_eq_false hf)); clear hk2
    have Hf := Lib.hid hf; clear hf
    go_wp2_with fail
    go_region_held3 (fun w' => (∀ o, w'.cell? ⟨W.heap.size, o, none⟩ = (#[.int .i64 m.c, .int .i64 m.d, .int .i64 m.s, .int .i64 m.e, .int .i64 m.l] : Array Value)[o]?) ∧ w'.cell? ⟨b1, off1 + k, none⟩ = some (.slice a1 (getl ls k).length c1) ∧ Below wr.heap.size wr w')
     (first | exact one1_keep hbb (by assumption) (by assumption) | exact ⟨hx, hc1, (Below.refl _ _).drew⟩)
     (first | (go_at_call 38; refine (l02Fault_any m _ (getl ls k) _ hm (hr1.below (one1_below (by assumption)))).mono ?_; rintro e' w' ⟨rfl, hb⟩))
    have hBw := one1_below (w0 := wr) (by assumption)
    go_wp2_with fail
    go_ret
    exact ⟨ret_bool (by rw [Hr.out, allKeys_step hkk, Hk2.out]; rfl), hB01.trans ((hB.trans (hBw.mono hzr)).mono (by omega))⟩
  ·have hd : ls.drop k = [] := List.drop_of_length_le (by omega)
   have Hd := Lib.hid hd; clear hd
   go_wp2_with fail
   go_ret
   exact ⟨ret_bool (by rw [Hr.out, Hd.out]; simp [allKeys]; omega), hB01.trans (hB.mono (by omega))⟩
theorem l04Keys_b {S : Nat → Prop} (m : Mk) (hm : m.ok = true) (v : Value) (ls : List (List Int)) (W : World) (r : Bool) (hr : allKeys m ls = r) (h : V2 S W v ls) (hlen : ls.length ≤ 300) :
  Calls Try.prog 32 #[.agg #[.int .i64 m.c, .int .i64 m.d, .int .i64 m.s, .int .i64 m.e, .int .i64 m.l], v] W fun e' w' => e' = .returned (.bool r) ∧ Below W.heap.size W w' := by subst hr; exact l04Keys_any m hm v ls W h hlen
/-- The code of a system and partial cuts. -/
def partC (m : Mk) (t cuts : List (List Int)) : Int := if isSys m t = false then 1 else if t.length < cuts.length then 2 else if allKeys m cuts = false then 2 else 0
theorem partC_ok {m : Mk} {t cuts : List (List Int)} : partC m t cuts = 0 ↔ isSys m t = true ∧ cuts.length ≤ t.length ∧ allKeys m cuts = true := by
 unfold partC
 cases isSys m t <;> cases allKeys m cuts <;> simp <;> split <;> simp_all <;> omega
set_option maxRecDepth 100000 in
theorem partCode_any {S S' : Nat → Prop} (m : Mk) (u v : Value) (t cuts : List (List Int)) (W : World) (h : V2 S W u t) (hc : V2 S' W v cuts) :
  Calls Try.prog 24 #[.agg #[.int .i64 m.c, .int .i64 m.d, .int .i64 m.s, .int .i64 m.e, .int .i64 m.l, u], v] W fun e' w' => e' = .returned (.int .i64 (partC m t cuts)) ∧ Below W.heap.size W w' := by
 obtain ⟨a, c, rfl, hmx⟩ := h.form
 obtain ⟨a', c', rfl, hmx'⟩ := hc.form
 obtain ⟨W1, hW1, hB01, hz01, HZ01, hc01, hh01⟩ := box_facts W #[.int .i64 m.c, .int .i64 m.d, .int .i64 m.s, .int .i64 m.e, .int .i64 m.l, .slice a t.length c] 32
 have hV1 : V2 (fun _ => True) W1 (.slice a t.length c) t := (h.below hB01).mono (fun _ _ _ => trivial) (fun _ _ _ => rfl)
 have hC1 : V2 (fun _ => True) W1 (.slice a' cuts.length c') cuts := (hc.below hB01).mono (fun _ _ _ => trivial) (fun _ _ _ => rfl)
 cases hs : isSys m t
 ·have hfin : partC m t cuts = 1 := by unfold partC; rw [if_pos hs]
  rw [hfin]
  have Hs := Lib.hid hs; clear hs
  go_enter Try.func24, Try.ntmps24
  go_wp2_with fail
  rw [← hW1]
  refine (isSystem_b m _ t _ _ Hs.out hV1).mono ?_
  rintro e' w2 ⟨rfl, hb2⟩
  clear hc01 hh01
  go_wp2_with fail
  go_ret
  exact ⟨rfl, hB01.trans (hb2.mono (by omega))⟩
 ·obtain ⟨hok, htab, _⟩ := isSys_parts hs
  have htl := (isTab_iff.1 htab).1
  clear htab
  by_cases hl : t.length < cuts.length
  ·have hfin : partC m t cuts = 2 := by unfold partC; rw [if_neg (by rw [hs]; decide), if_pos hl]
   rw [hfin]
   have Hs := Lib.hid hs; clear hs hok hfin
   go_enter Try.func24, Try.ntmps24
   go_wp2_with fail
   rw [← hW1]
   refine (isSystem_b m _ t _ _ Hs.out hV1).mono ?_
   rintro e' w2 ⟨rfl, hb2⟩
   have hx2 : ∀ o, w2.cell? ⟨W.heap.size, o, none⟩ = (#[.int .i64 m.c, .int .i64 m.d, .int .i64 m.s, .int .i64 m.e, .int .i64 m.l, .slice a t.length c] : Array Value)[o]? := fun o => by rw [(bcell hb2).1 _ _ hz01, hc01]
   clear hc01 hh01
   go_wp2_with fail
   go_ret
   exact ⟨rfl, hB01.trans (hb2.mono (by omega))⟩
  ·have hd : decide (t.length < cuts.length) = false := decide_eq_false hl
   cases hk : allKeys m cuts
   ·have hfin : partC m t cuts = 2 := by unfold partC; rw [if_neg (by rw [hs]; decide), if_neg hl, if_pos hk]
    rw [hfin]
    have Hs := Lib.hid hs; clear hs hfin
    have Hk := Lib.hid hk; clear hk
    have Hok := Lib.hid hok; clear hok
    go_enter Try.func24, Try.ntmps24
    go_wp2_with fail
    rw [← hW1]
    refine (isSystem_b m _ t _ _ Hs.out hV1).mono ?_
    rintro e' w2 ⟨rfl, hb2⟩
    have hx2 : ∀ o, w2.cell? ⟨W.heap.size, o, none⟩ = (#[.int .i64 m.c, .int .i64 m.d, .int .i64 m.s, .int .i64 m.e, .int .i64 m.l, .slice a t.length c] : Array Value)[o]? := fun o => by rw [(bcell hb2).1 _ _ hz01, hc01]
    clear hc01 hh01
    go_wp2_with (refine (areKeys_b m Hok.out _ cuts _ _ Hk.out (hC1.below hb2) ).mono ?_; rintro e' w' ⟨rfl, hb3⟩)
    go_ret
    exact ⟨rfl, hB01.trans ((hb2.trans (hb3.mono hb2.size)).mono (by omega))⟩
   ·have hfin : partC m t cuts = 0 := by unfold partC; rw [if_neg (by rw [hs]; decide), if_neg hl, if_neg (by rw [hk]; decide)]
    rw [hfin]
    have Hs := Lib.hid hs; clear hs hfin
    have Hk := Lib.hid hk; clear hk
    have Hok := Lib.hid hok; clear hok
    go_enter Try.func24, Try.ntmps24
    go_wp2_with fail
    rw [← hW1]
    refine (isSystem_b m _ t _ _ Hs.out hV1).mono ?_
    rintro e' w2 ⟨rfl, hb2⟩
    have hx2 : ∀ o, w2.cell? ⟨W.heap.size, o, none⟩ = (#[.int .i64 m.c, .int .i64 m.d, .int .i64 m.s, .int .i64 m.e, .int .i64 m.l, .slice a t.length c] : Array Value)[o]? := fun o => by rw [(bcell hb2).1 _ _ hz01, hc01]
    clear hc01 hh01
    go_wp2_with (refine (areKeys_b m Hok.out _ cuts _ _ Hk.out (hC1.below hb2) ).mono ?_; rintro e' w' ⟨rfl, hb3⟩)
    go_ret
    exact ⟨rfl, hB01.trans ((hb2.trans (hb3.mono hb2.size)).mono (by omega))⟩
set_option maxRecDepth 100000 in
theorem l16Code_any {S S' : Nat → Prop} (m : Mk) (u v : Value) (t cuts : List (List Int)) (W : World) (h : V2 S W u t) (hc : V2 S' W v cuts) :
  Calls Try.prog 20 #[.agg #[.int .i64 m.c, .int .i64 m.d, .int .i64 m.s, .int .i64 m.e, .int .i64 m.l, u], v] W fun e' w' => e' = .returned (.int .i64 (partC m t cuts)) ∧ Below W.heap.size W w' := by
 obtain ⟨a, c, rfl, hmx⟩ := h.form
 obtain ⟨a', c', rfl, hmx'⟩ := hc.form
 obtain ⟨W1, hW1, hB01, hz01, HZ01, hc01, hh01⟩ := box_facts W #[.int .i64 m.c, .int .i64 m.d, .int .i64 m.s, .int .i64 m.e, .int .i64 m.l, .slice a t.length c] 32
 have hV1 : V2 (fun _ => True) W1 (.slice a t.length c) t := (h.below hB01).mono (fun _ _ _ => trivial) (fun _ _ _ => rfl)
 have hC1 : V2 (fun _ => True) W1 (.slice a' cuts.length c') cuts := (hc.below hB01).mono (fun _ _ _ => trivial) (fun _ _ _ => rfl)
 cases hs : isSys m t
 ·have hfin : partC m t cuts = 1 := by unfold partC; rw [if_pos hs]
  rw [hfin]
  have Hs := Lib.hid hs; clear hs
  go_enter Try.func20, Try.ntmps20
  go_wp2_with fail
  rw [← hW1]
  refine (isSystemR_b m _ t _ _ Hs.out hV1).mono ?_
  rintro e' w2 ⟨rfl, hb2⟩
  clear hc01 hh01
  go_wp2_with fail
  go_ret
  exact ⟨rfl, hB01.trans (hb2.mono (by omega))⟩
 ·obtain ⟨hok, htab, _⟩ := isSys_parts hs
  have htl := (isTab_iff.1 htab).1
  clear htab
  by_cases hl : t.length < cuts.length
  ·have hfin : partC m t cuts = 2 := by unfold partC; rw [if_neg (by rw [hs]; decide), if_pos hl]
   rw [hfin]
   have Hs := Lib.hid hs; clear hs hok hfin
   go_enter Try.func20, Try.ntmps20
   go_wp2_with fail
   rw [← hW1]
   refine (isSystemR_b m _ t _ _ Hs.out hV1).mono ?_
   rintro e' w2 ⟨rfl, hb2⟩
   have hx2 : ∀ o, w2.cell? ⟨W.heap.size, o, none⟩ = (#[.int .i64 m.c, .int .i64 m.d, .int .i64 m.s, .int .i64 m.e, .int .i64 m.l, .slice a t.length c] : Array Value)[o]? := fun o => by rw [(bcell hb2).1 _ _ hz01, hc01]
   clear hc01 hh01
   go_wp2_with fail
   go_ret
   exact ⟨rfl, hB01.trans (hb2.mono (by omega))⟩
  ·have hd : decide (t.length < cuts.length) = false := decide_eq_false hl
   cases hk : allKeys m cuts
   ·have hfin : partC m t cuts = 2 := by unfold partC; rw [if_neg (by rw [hs]; decide), if_neg hl, if_pos hk]
    rw [hfin]
    have Hs := Lib.hid hs; clear hs hfin
    have Hk := Lib.hid hk; clear hk
    have Hok := Lib.hid hok; clear hok
    go_enter Try.func20, Try.ntmps20
    go_wp2_with fail
    rw [← hW1]
    refine (isSystemR_b m _ t _ _ Hs.out hV1).mono ?_
    rintro e' w2 ⟨rfl, hb2⟩
    have hx2 : ∀ o, w2.cell? ⟨W.heap.size, o, none⟩ = (#[.int .i64 m.c, .int .i64 m.d, .int .i64 m.s, .int .i64 m.e, .int .i64 m.l, .slice a t.length c] : Array Value)[o]? := fun o => by rw [(bcell hb2).1 _ _ hz01, hc01]
    clear hc01 hh01
    go_wp2_with (refine (l04Keys_b m Hok.out _ cuts _ _ Hk.out (hC1.below hb2) (by omega)).mono ?_; rintro e' w' ⟨rfl, hb3⟩)
    go_ret
    exact ⟨rfl, hB01.trans ((hb2.trans (hb3.mono hb2.size)).mono (by omega))⟩
   ·have hfin : partC m t cuts = 0 := by unfold partC; rw [if_neg (by rw [hs]; decide), if_neg hl, if_neg (by rw [hk]; decide)]
    rw [hfin]
    have Hs := Lib.hid hs; clear hs hfin
    have Hk := Lib.hid hk; clear hk
    have Hok := Lib.hid hok; clear hok
    go_enter Try.func20, Try.ntmps20
    go_wp2_with fail
    rw [← hW1]
    refine (isSystemR_b m _ t _ _ Hs.out hV1).mono ?_
    rintro e' w2 ⟨rfl, hb2⟩
    have hx2 : ∀ o, w2.cell? ⟨W.heap.size, o, none⟩ = (#[.int .i64 m.c, .int .i64 m.d, .int .i64 m.s, .int .i64 m.e, .int .i64 m.l, .slice a t.length c] : Array Value)[o]? := fun o => by rw [(bcell hb2).1 _ _ hz01, hc01]
    clear hc01 hh01
    go_wp2_with (refine (l04Keys_b m Hok.out _ cuts _ _ Hk.out (hC1.below hb2) (by omega)).mono ?_; rintro e' w' ⟨rfl, hb3⟩)
    go_ret
    exact ⟨rfl, hB01.trans ((hb2.trans (hb3.mono hb2.size)).mono (by omega))⟩
theorem getl_app1 {ls : List (List Int)} {l : List Int} {k : Nat} (h : k < ls.length) : getl (ls ++ [l]) k = getl ls k := by
 simp [getl, List.getElem?_append_left h]
theorem getl_app2 {ls : List (List Int)} {l : List Int} : getl (ls ++ [l]) ls.length = l := by
 unfold getl; simp
/-- v is a slice of the call's own (from block B on); its rows hold ls, each in a block of its own. -/
def Out2 (B : Nat) (w : World) (v : Value) (ls : List (List Int)) : Prop :=
 ∃ (vs : List Value) (bk : Nat → Nat), w.ownsRow B 27 1 v ls.length vs ∧ (∀ k, k < ls.length → ∃ rv, vs[k]? = some rv ∧ X1 w rv (getl ls k) (bk k)) ∧
   (∀ k, k < ls.length → getl ls k ≠ [] → B ≤ bk k ∧ v.ownBlock ≠ some (bk k) ∧ ∀ j, j < ls.length → j ≠ k → getl ls j ≠ [] → bk j ≠ bk k)
theorem Out2.nil {B : Nat} {w : World} {v : Value} (h : w.ownsRow B 27 1 v 0 []) : Out2 B w v [] := ⟨[], fun _ => 0, h, fun k hk => by simp at hk, fun k hk => by simp at hk⟩
theorem Out2.start (w : World) (B : Nat) (hb : B ≤ w.heap.size) : Out2 B (w.alloc (.cells #[] 27)) (.slice (some ⟨w.heap.size, 0, none⟩) 0 0) [] := Out2.nil (own_lit0 w B _ 1 hb)
theorem Out2.keep {B : Nat} {w w' : World} {v : Value} {ls : List (List Int)} (h : Out2 B w v ls) (hb : Below w.heap.size w w') : Out2 B w' v ls := by
 obtain ⟨vs, bk, h1, h2, h3⟩ := h
 refine ⟨vs, bk, own_chg h1 (Chg.of_below (F := fun _ => False) hb) (fun _ _ h => h), fun k hk => ?_, h3⟩
 obtain ⟨rv, h4, h5⟩ := h2 k hk
 exact ⟨rv, h4, h5.keep fun hn => hb.block _ (h5.lt hn)⟩
theorem Out2.form {B : Nat} {w : World} {v : Value} {ls : List (List Int)} (h : Out2 B w v ls) : ∃ a c, v = .slice a ls.length c ∧ ls.length ≤ c ∧ c ≤ maxLen := by
 obtain ⟨vs, bk, h1, h2, h3⟩ := h; exact own_form h1
theorem Out2.own {B : Nat} {w : World} {v : Value} {ls : List (List Int)} (h : Out2 B w v ls) : ∃ vs, w.ownsRow B 27 1 v ls.length vs := by
 obtain ⟨vs, bk, h1, h2, h3⟩ := h; exact ⟨vs, h1⟩
/-- One row more, made since. w: before the row was begun; w2: the row is made; w1: it is appended. -/
theorem Out2.push {B : Nat} {w w2 w1 : World} {v v1 rv : Value} {ls : List (List Int)} {l : List Int} {b : Nat} {vs : List Value} {bk : Nat → Nat}
  (h1 : w.ownsRow B 27 1 v ls.length vs) (h2 : ∀ k, k < ls.length → ∃ rv, vs[k]? = some rv ∧ X1 w rv (getl ls k) (bk k))
  (h3 : ∀ k, k < ls.length → getl ls k ≠ [] → B ≤ bk k ∧ v.ownBlock ≠ some (bk k) ∧ ∀ j, j < ls.length → j ≠ k → getl ls j ≠ [] → bk j ≠ bk k)
  (hB : B ≤ w.heap.size) (hb : Below w.heap.size w w2) (hx : X1 w2 rv l b) (hbn : l ≠ [] → w.heap.size ≤ b)
  (hown : w1.ownsRow B 27 1 v1 (ls.length + 1) (vs ++ [rv])) (hg : w2.grownBy w1 v.ownBlock) (hblk : v1.ownBlock = v.ownBlock ∨ ∃ g, v1.ownBlock = some g ∧ w2.heap.size ≤ g) : Out2 B w1 v1 (ls ++ [l]) := by
 have hvl : ∀ g, v.ownBlock = some g → g < w.heap.size := fun g hgg => (h1.lt g hgg).2
 have hxl : ∀ k, k < ls.length → getl ls k ≠ [] → bk k < w.heap.size := fun k hk hn => by
  obtain ⟨rv, _, h⟩ := h2 k hk; exact h.lt hn
 have hne1 : ∀ c, c < w2.heap.size → v.ownBlock ≠ some c → v1.ownBlock ≠ some c := fun c hc hn e => by
  rcases hblk with e1 | ⟨g, e1, hge⟩
  ·exact hn (e1.symm.trans e)
  ·rw [e] at e1; cases e1; omega
 have hvl1 := h1.1
 refine ⟨vs ++ [rv], fun k => if k < ls.length then bk k else b, by simpa using hown, fun k hk => ?_, fun k hk hn => ?_⟩
 ·by_cases hkl : k < ls.length
  ·obtain ⟨rv', h4, h5⟩ := h2 k hkl
   refine ⟨rv', by rw [List.getElem?_append_left (by omega)]; exact h4, ?_⟩
   rw [getl_app1 hkl]
   simp only [hkl, if_true]
   exact h5.keep fun hn => by
    rw [hg.block _ (Nat.lt_of_lt_of_le (hxl k hkl hn) hb.size) (fun e => (h3 k hkl hn).2.1 e.symm), hb.block _ (hxl k hkl hn)]
  ·have e : k = ls.length := by simp at hk; omega
   subst e
   refine ⟨rv, by rw [List.getElem?_append_right (by omega)]; simp [show ls.length - vs.length = 0 by omega], ?_⟩
   rw [getl_app2]
   simp only [Nat.lt_irrefl, if_false]
   exact hx.keep fun hn => hg.block _ (hx.lt hn) (fun e => by have := hvl b e.symm; have := hbn hn; omega)
 ·by_cases hkl : k < ls.length
  ·rw [getl_app1 hkl] at hn
   simp only [hkl, if_true]
   obtain ⟨h4, h5, h6⟩ := h3 k hkl hn
   refine ⟨h4, hne1 _ (Nat.lt_of_lt_of_le (hxl k hkl hn) hb.size) h5, fun j hj hjk hnj => ?_⟩
   by_cases hjl : j < ls.length
   ·rw [getl_app1 hjl] at hnj
    simp only [hjl, if_true]
    exact h6 j hjl hjk hnj
   ·have e : j = ls.length := by simp at hj; omega
    subst e
    rw [getl_app2] at hnj
    simp only [Nat.lt_irrefl, if_false]
    have := hbn hnj; have := hxl k hkl hn; omega
  ·have e : k = ls.length := by simp at hk; omega
   subst e
   rw [getl_app2] at hn
   simp only [Nat.lt_irrefl, if_false]
   refine ⟨by have := hbn hn; omega, hne1 _ (hx.lt hn) (fun e => by have := hvl b e; have := hbn hn; omega), fun j hj hjk hnj => ?_⟩
   have hjl : j < ls.length := by simp at hj; omega
   rw [getl_app1 hjl] at hnj
   simp only [hjl, if_true]
   have := hbn hn; have := hxl j hjl hnj; omega
theorem Out2.f2 {B : Nat} {w : World} {v : Value} {ls : List (List Int)} (h : Out2 B w v ls) : F2 B w v ls := by
 obtain ⟨vs, bk, h1, h2, h3⟩ := h
 have hvl := h1.1
 have hB := h1.lt
 rcases h1.2 with ⟨rfl, h0⟩ | ⟨g, cap, cur, rfl, hb, hh, hc, hm, hs, ht⟩
 ·refine ⟨0, bk, ⟨none, 0, by rw [h0], by omega, Nat.zero_le _, fun hn => absurd (List.eq_nil_of_length_eq_zero h0) hn, fun k hk => by omega⟩, fun hn => absurd (List.eq_nil_of_length_eq_zero h0) hn, fun k hk => by omega⟩
 ·refine ⟨g, bk, ⟨_, cap, rfl, hc, hm, fun _ => ⟨0, cur, _, rfl, hh, fun k hk => ?_⟩, fun k hk hn => ?_⟩, fun _ => hb, fun k hk hn => (h3 k hk hn).1⟩
  ·obtain ⟨rv, h4, h5⟩ := h2 k hk
   refine ⟨rv, ?_, h5⟩
   have h6 : (cur.toList.take (ls.length * 1))[k]? = vs[k]? := by rw [ht]
   rw [List.getElem?_take, if_pos (by omega), h4] at h6
   rw [Nat.zero_add, ← Array.getElem?_toList, h6]
  ·obtain ⟨h4, h5, h6⟩ := h3 k hk hn
   exact ⟨fun e => h5 (by rw [e]; rfl), h6⟩
/-- What is known of tables and cuts that fit. -/
structure Fits (m : Mk) (t cuts : List (List Int)) : Prop where
 ok : m.ok = true
 rows : 1 ≤ t.length ∧ t.length ≤ 10
 cols : ∀ k, k < t.length → (getl t k).length = (getl t 0).length
 doors : 1 ≤ (getl t 0).length ∧ (getl t 0).length ≤ 12
 bits : ∀ k, k < t.length → ∀ x ∈ getl t k, 0 ≤ x ∧ x ≤ 1
 few : cuts.length ≤ t.length
 keys : ∀ k, k < cuts.length → isKeyB m (getl cuts k) = true
 lens : ∀ k, k < cuts.length → ((getl cuts k).length : Int) = m.c
 deps : ∀ k, k < cuts.length → ∀ c, c < (getl cuts k).length → 0 ≤ geti (getl cuts k) c ∧ geti (getl cuts k) c ≤ m.d - 1
theorem fits_of {m : Mk} {t cuts : List (List Int)} (h : partC m t cuts = 0) : Fits m t cuts := by
 obtain ⟨h1, h2, h3⟩ := partC_ok.1 h
 obtain ⟨hok, htab, _⟩ := isSys_parts h1
 obtain ⟨htl, htr⟩ := isTab_iff.1 htab
 have hk := allKeys_iff.1 h3
 exact ⟨hok, htl, fun k hk => (htr k hk).1, (htr 0 (by omega)).2.1, fun k hk => (htr k hk).2.2, h2, hk, fun k hkk => (isKey_iff.1 (hk k hkk)).1, fun k hkk c hc => (isKey_iff.1 (hk k hkk)).2.1 _ (geti_mem hc)⟩
/-- A fresh list that may grow in place. -/
def FO (B : Nat) (w : World) (v : Value) (l : List Int) : Prop := F1 B w v l ∧ (l ≠ [] → w.ownsRow B 2 1 v l.length (l.map (Value.int .i64)))
theorem FO.below {B : Nat} {w w' : World} {v : Value} {l : List Int} (h : FO B w v l) (hb : Below w.heap.size w w') : FO B w' v l :=
 ⟨h.1.below hb, fun hn => own_chg (h.2 hn) (Chg.of_below (F := fun _ => False) hb) (fun _ _ h => h)⟩
theorem FO.mono {B B' : Nat} {w : World} {v : Value} {l : List Int} (h : FO B w v l) (hb : B' ≤ B) : FO B' w v l := ⟨h.1.mono hb, fun hn => own_base (h.2 hn) hb⟩
def diffI (l : List Int) : List Int := Go.Lib.compact (l.mergeSort fun x y => decide (x ≤ y))
/-- Values of rows ls. -/
def RowVs (S : Nat → Prop) (w : World) (vs : List Value) (ls : List (List Int)) : Prop :=
 vs.length = ls.length ∧ ∀ k, k < ls.length → ∃ ev, vs[k]? = some ev ∧ V1 S w ev (getl ls k)
theorem RowVs.nil {S : Nat → Prop} {w : World} : RowVs S w [] [] := ⟨rfl, fun k hk => by simp at hk⟩
theorem RowVs.below {S : Nat → Prop} {w w' : World} {vs : List Value} {ls : List (List Int)} (h : RowVs S w vs ls) (hb : Below w.heap.size w w') : RowVs S w' vs ls :=
 ⟨h.1, fun k hk => by obtain ⟨ev, h1, h2⟩ := h.2 k hk; exact ⟨ev, h1, h2.below hb⟩⟩
theorem RowVs.keep {S : Nat → Prop} {w w' : World} {vs : List Value} {ls : List (List Int)} (h : RowVs S w vs ls) (hb : Keep S w w') : RowVs S w' vs ls :=
 ⟨h.1, fun k hk => by obtain ⟨ev, h1, h2⟩ := h.2 k hk; exact ⟨ev, h1, h2.mono (fun _ h _ => h) hb⟩⟩
theorem own_keep {w w' : World} {B : Nat} {e : TypeId} {v : Value} {n : Nat} {xs : List Value} (h : w.ownsRow B e 1 v n xs) (hb : Below w.heap.size w w') : w'.ownsRow B e 1 v n xs := by
 refine ⟨h.1, ?_⟩
 rcases h.2 with h0 | ⟨g, cap, cur, rfl, h1, h2, h3⟩
 ·exact .inl h0
 ·exact .inr ⟨g, cap, cur, rfl, h1, by rw [hb.block g (lt_of_heap h2)]; exact h2, h3⟩
theorem grow_keep {S : Nat → Prop} {w w' : World} {ob : Option Nat} (hg : w.grownBy w' ob) (h : ∀ g, ob = some g → ¬ S g) : Keep S w w' := fun b hb hlt => hg.block b hlt (fun e => h b e.symm hb)
theorem V1.old {S : Nat → Prop} {w : World} {v : Value} {l : List Int} (h : V1 S w v l) : V1 (fun b => b < w.heap.size) w v l := h.mono (fun _ _ h => h) (fun _ _ _ => rfl)
theorem V2.old {S : Nat → Prop} {w : World} {v : Value} {ls : List (List Int)} (h : V2 S w v ls) : V2 (fun b => b < w.heap.size) w v ls := h.mono (fun _ _ h => h) (fun _ _ _ => rfl)
theorem V1.any {S : Nat → Prop} {w : World} {v : Value} {l : List Int} (h : V1 S w v l) : V1 (fun _ => True) w v l := h.mono (fun _ _ _ => trivial) (fun _ _ _ => rfl)
theorem V2.any {S : Nat → Prop} {w : World} {v : Value} {ls : List (List Int)} (h : V2 S w v ls) : V2 (fun _ => True) w v ls := h.mono (fun _ _ _ => trivial) (fun _ _ _ => rfl)
end Go.Proofs.Ytmaefilliggjiaa
namespace Go.Proofs
open Go.Shelf
def Try.laysSlN41_f28_ren : Go.Shelf.Ren := ⟨fun | 41 => 28 | n => n, fun | 22 => 27 | 23 => 2 | 4 => 4 | n => n, fun | n => n⟩
theorem Try.laysSlN41_f28 : Go.Proofs.SlLaysN.n41 Try.prog Try.laysSlN41_f28_ren := {
 mixed := by kernel_rfl
 f41 := ⟨Try.f28.name, by decide, Try.func28.trans (congrArg some (by kernel_rfl))⟩
 t4 := Try.underlying4
 a4 := Try.isAgg4
 z4 := Try.sizeOf4
 v4 := Try.zeroValue4
 t22 := Try.underlying27
 a22 := Try.isAgg27
 z22 := Try.sizeOf27
 v22 := Try.zeroValue27
 t23 := Try.underlying2
 a23 := Try.isAgg2
 z23 := Try.sizeOf2
 v23 := Try.zeroValue2
 i23 := by kernel_rfl }
open Go.RowKit Go.Lib in
/-- slices.Clone at []int: "Clone returns a copy of the slice. The elements are copied using assignment, so this is a shallow clone. The result may have additional unused capacity. The result preserves the nilness of s.": OF A SLICE THAT IS NOT nil IT RETURNS A SLICE THAT IS NOT nil, OF THE SAME ELEMENTS, IN MEMORY OF THE CALL's OWN: in the how-to's words (6f): 'w'.ownsRow B e 1 v' n cells': v' begins at the head of a row among the blocks from B on (B: the heap's size at the call), not frozen, whose first cells are the elements · 'Below B w w'': below B all is as it was. The capacity is whatever the run-time gives. 'zs': what the cells behind the slice's address hold; 'zs.take n': its elements. (LAID AT THE INSTANCE 'slices.Clone[[]int64,int64]': no walk: one application.) -/
theorem Try.slices_Clone_int (b off n c : Nat) (zs : List Int) (w : World) (hz : n ≤ zs.length) (hbig : n * 8 ≤ 140737488355328) (hc : ∀ j, j < zs.length → w.cell? ⟨b, off + j, none⟩ = some (.int .i64 (zs.getD j 0))) :
  Calls Try.prog 28 #[.slice (some ⟨b, off, none⟩) n c] w fun e w' => ∃ v', e = .returned v' ∧ w'.ownsRow w.heap.size 2 1 v' n ((zs.take n).map (Value.int .i64)) ∧ v' ≠ .slice none 0 0 ∧ Below w.heap.size w w' := AnyG.slices_Clone_int Try.laysSlN41_f28 b off n c zs w hz hbig hc
open Go.RowKit Go.Lib in
/-- The same at nil: nil comes back; the world is as it was. (LAID AT THE INSTANCE 'slices.Clone[[]int64,int64]': no walk: one application.) -/
theorem Try.slices_Clone_int_nil (n c : Nat) (w : World) :
  Calls Try.prog 28 #[.slice none n c] w fun e w' => e = .returned (.slice none 0 0) ∧ w' = w := AnyG.slices_Clone_int_nil Try.laysSlN41_f28 n c w
open Go.RowKit Go.Lib in
/-- The same at a slice of length 0 that is not nil, WHATEVER ITS ADDRESS (no cell is asked for): a slice that is not nil and owns nothing comes back. (LAID AT THE INSTANCE 'slices.Clone[[]int64,int64]': no walk: one application.) -/
theorem Try.slices_Clone_int_zero (a : Addr) (c : Nat) (w : World) :
  Calls Try.prog 28 #[.slice (some a) 0 c] w fun e w' => ∃ v', e = .returned v' ∧ w'.ownsRow w.heap.size 2 1 v' 0 [] ∧ v' ≠ .slice none 0 0 ∧ Below w.heap.size w w' := AnyG.slices_Clone_int_zero Try.laysSlN41_f28 a c w
end Go.Proofs
namespace Go.Proofs.Ytmaefilliggjiaa
open Go.RowKit
set_option linter.unusedVariables false
set_option linter.unusedSimpArgs false
theorem slClone_any {S : Nat → Prop} (v : Value) (l : List Int) (W : World) (h : V1 S W v l) (hl : l.length ≤ 1048576) :
  Calls Try.prog 28 #[v] W fun e' w' => ∃ v', e' = .returned v' ∧ F1 W.heap.size w' v' l ∧ Below W.heap.size W w' := by
 obtain ⟨a, c, rfl, hm⟩ := h.form
 by_cases hn : l = []
 ·subst hn
  cases a with
  | none =>
    refine (Try.slices_Clone_int_nil 0 c W).mono ?_
    rintro e' w' ⟨rfl, rfl⟩
    exact ⟨_, rfl, ⟨0, ⟨none, 0, rfl, Nat.le_refl _, Nat.zero_le _, fun hn => absurd rfl hn⟩, fun hn => absurd rfl hn⟩, Below.refl _ _⟩
  | some a =>
    refine (Try.slices_Clone_int_zero a c W).mono ?_
    rintro e' w' ⟨v', rfl, hown, _, hB⟩
    exact ⟨_, rfl, own_F1 (l := []) hown, hB⟩
 ·have hp : 0 < l.length := List.length_pos_iff.2 hn
  obtain ⟨b1, off1, rfl, _, _⟩ := h.cell hp
  refine (Try.slices_Clone_int b1 off1 l.length c l W (Nat.le_refl _) (by omega) (fun j hj => ?_)).mono ?_
  ·obtain ⟨b2, off2, e, _, hc⟩ := h.cell hj
   injection e with e
   injection e with e1 e2 _
   subst e1 e2
   rw [hc, geti_eq hj]
   simp [List.getD, hj]
  ·rintro e' w' ⟨v', rfl, hown, _, hB⟩
   rw [List.take_length] at hown
   exact ⟨_, rfl, own_F1 hown, hB⟩
theorem F1.nil {B : Nat} {w : World} : F1 B w (.slice none 0 0) [] := ⟨0, ⟨none, 0, rfl, Nat.le_refl _, Nat.zero_le _, fun hn => absurd rfl hn⟩, fun hn => absurd rfl hn⟩
theorem geti_put {l : List Int} {p j : Nat} {x : Int} (hp : p < l.length) : geti (l.set p x) j = if p = j then x else geti l j := by
 unfold geti
 rw [List.getD_eq_getElem?_getD, List.getD_eq_getElem?_getD, List.getElem?_set]
 by_cases e : p = j
 ·simp [e, e ▸ hp]
 ·simp [e]
theorem X1.put {w : World} {b off n c k : Nat} {l : List Int} (h : X1 w (.slice (some ⟨b, off, none⟩) n c) l b) (hk : k < l.length) (x : Int) : X1 (w.setCell ⟨b, off + k, none⟩ (.int .i64 x)) (.slice (some ⟨b, off, none⟩) n c) (l.set k x) b := by
 obtain ⟨a', c', e, h1, h2, h3⟩ := h
 simp only [Value.slice.injEq] at e
 obtain ⟨rfl, rfl, rfl⟩ := e
 obtain ⟨off', cs, T, e, h4, h5⟩ := h3 (by intro e; subst e; simp at hk)
 cases e
 refine ⟨_, c, by rw [List.length_set], by rw [List.length_set]; exact h1, h2, fun _ => ⟨off, _, T, rfl, heap_setCell_self h4 _, fun j hj => ?_⟩⟩
 rw [List.length_set] at hj
 rw [Array.getElem?_setIfInBounds]
 have hlt : off + k < cs.size := (Array.getElem?_eq_some_iff.1 (h5 k hk)).1
 by_cases e : k = j
 ·subst e; rw [if_pos rfl, if_pos hlt, geti_put hk, if_pos rfl]
 ·rw [if_neg (by omega), h5 j hj, geti_put hk, if_neg e]
/-- What the program keeps of the best choice so far. -/
def BestV (B : Nat) (w : World) (bv lv : Value) : Option (List Int) → Prop
 | none => bv = .slice none 0 0 ∧ ∃ n : Nat, lv = .int .i64 (n : Int) ∧ n ≤ 100
 | some b => FO B w bv b ∧ lv = .int .i64 ((diffI b).length : Int)
theorem BestV.below {B : Nat} {w w' : World} {bv lv : Value} {o : Option (List Int)} (h : BestV B w bv lv o) (hb : Below w.heap.size w w') : BestV B w' bv lv o := by
 cases o with
 | none => exact h
 | some b => exact ⟨h.1.below hb, h.2⟩
theorem BestV.mono {B B' : Nat} {w : World} {bv lv : Value} {o : Option (List Int)} (h : BestV B w bv lv o) (hb : B' ≤ B) : BestV B' w bv lv o := by
 cases o with
 | none => exact h
 | some b => exact ⟨h.1.mono hb, h.2⟩
theorem Out2.lo {B : Nat} {w w' : World} {F : Nat → Prop} {v : Value} {ls : List (List Int)} (h : Out2 B w v ls) (hc : Chg F w w') (hF : ∀ b, F b → b < B) : Out2 B w' v ls := by
 obtain ⟨vs, bk, h1, h2, h3⟩ := h
 refine ⟨vs, bk, own_chg h1 hc (fun g hg hf => by have := (h1.lt g hg).1; have := hF g hf; omega), fun k hk => ?_, h3⟩
 obtain ⟨rv, h4, h5⟩ := h2 k hk
 exact ⟨rv, h4, h5.keep fun hn => hc.block _ (h5.lt hn) (fun hf => by have := (h3 k hk hn).1; have := hF _ hf; omega)⟩
theorem blk_or {v1 v : Value} {gg H : Nat} (h1 : v1.ownBlock = some gg) (h : v.ownBlock = some gg ∨ gg = H) : v1.ownBlock = v.ownBlock ∨ ∃ g, v1.ownBlock = some g ∧ H ≤ g := by
 rcases h with e | e
 ·exact .inl (h1.trans e.symm)
 ·exact .inr ⟨gg, h1, by omega⟩
theorem X1.alloc {w : World} {v : Value} {l : List Int} {b : Nat} (h : X1 w v l b) (o : Obj) : X1 (w.alloc o) v l b := h.keep fun hn => Below.heap_alloc _ _ _ (h.lt hn)
/-- One cell of a slice of locks. -/
theorem V3.cell {S : Nat → Prop} {w : World} {a : Option Addr} {n c k : Nat} {l : List (List (List Int))} (h : V3 S w (.slice a n c) l) (hk : k < l.length) : ∃ b off a' c', a = some ⟨b, off, none⟩ ∧ S b ∧ w.cell? ⟨b, off + k, none⟩ = some (.slice a' (getll l k).length c') ∧ V2 S w (.slice a' (getll l k).length c') (getll l k) := by
 obtain ⟨a', c', e, hl, hm, h⟩ := h
 simp only [Value.slice.injEq] at e
 obtain ⟨rfl, rfl, rfl⟩ := e
 obtain ⟨b, off, ev, ha, hb, hc, hr⟩ := h k hk
 have hr' := hr
 obtain ⟨a2, c2, rfl, _⟩ := hr
 exact ⟨b, off, a2, c2, ha, hb, hc, hr'⟩
theorem V3.form {S : Nat → Prop} {w : World} {v : Value} {l : List (List (List Int))} (h : V3 S w v l) : ∃ a c, v = .slice a l.length c ∧ l.length ≤ 9223372036854775807 := by
 obtain ⟨a, c, rfl, h1, h2, _⟩ := h
 exact ⟨a, c, rfl, by unfold maxLen at h2; omega⟩
theorem V3.any {S : Nat → Prop} {w : World} {v : Value} {l : List (List (List Int))} (h : V3 S w v l) : V3 (fun _ => True) w v l := h.mono (fun _ _ _ => trivial) (fun _ _ _ => rfl)
/-- The locks lie between two sizes of the heap; what is being made lies elsewhere. -/
def LkAt (s1 s2 : Nat) (ou : Value) (w : World) (lv : Value) (locks : List (List (List Int))) : Prop :=
 V3 (fun b => s1 < b ∧ b < s2) w lv locks ∧ (∀ g, ou.ownBlock = some g → g = s1 ∨ s2 ≤ g) ∧ s2 ≤ w.heap.size
theorem LkAt.below {s1 s2 : Nat} {ou : Value} {w w' : World} {lv : Value} {locks : List (List (List Int))} (h : LkAt s1 s2 ou w lv locks) (hb : Below w.heap.size w w') : LkAt s1 s2 ou w' lv locks :=
 ⟨h.1.below hb, h.2.1, Nat.le_trans h.2.2 hb.size⟩
theorem LkAt.grown {s1 s2 : Nat} {ou ou' : Value} {w w' : World} {lv : Value} {locks : List (List (List Int))} (h : LkAt s1 s2 ou w lv locks) (hg : w.grownBy w' ou.ownBlock) (hblk : ou'.ownBlock = ou.ownBlock ∨ ∃ g, ou'.ownBlock = some g ∧ w.heap.size ≤ g) : LkAt s1 s2 ou' w' lv locks := by
 obtain ⟨h1, h2, h3⟩ := h
 refine ⟨h1.mono (fun _ h _ => h) (grow_keep hg fun g hgg hS => ?_), fun g hgg => ?_, Nat.le_trans h3 hg.size⟩
 ·have := hS.1; have := hS.2; rcases h2 g hgg with e | e <;> omega
 ·rcases hblk with e | ⟨g', e, hge⟩
  ·exact h2 g (e.symm.trans hgg)
  ·rw [hgg] at e; cases e; right; omega
/-- The first k numbers lie from 0 to below n, each greater than the one before it. -/
def riseTo (l : List Int) (n : Int) : Nat → Bool
 | 0 => true
 | k + 1 => riseTo l n k && (decide (0 ≤ geti l k) && decide (geti l k < n) && (decide (k = 0) || decide (geti l (k - 1) < geti l k)))
def riseB (l : List Int) (n : Int) : Bool := riseTo l n l.length
theorem riseTo_false {l : List Int} {n : Int} {k : Nat} (h : riseTo l n (k + 1) = false) : ∀ {m}, k < m → riseTo l n m = false
 | 0, hk => by omega
 | m + 1, hk => by
   by_cases e : k = m
   ·subst e; exact h
   ·unfold riseTo; rw [riseTo_false h (by omega), Bool.false_and]
theorem IsRising_any {S : Nat → Prop} (v : Value) (l : List Int) (n : Int) (W : World) (h : V1 S W v l) :
  Calls Try.prog 25 #[v, .int .i64 n] W fun e' w' => e' = .returned (.bool (riseB l n)) ∧ W = w' := by
 have hV := h
 obtain ⟨a, c, rfl, hm⟩ := h.form
 obtain ⟨r, hr⟩ : ∃ r, riseB l n = r := ⟨_, rfl⟩
 rw [hr]
 have Hr := Lib.hid hr; clear hr
 go_enter Try.func25, Try.ntmps25
 go_wp2_with fail
 go_loop [5, 6, 9] (fun _ _ i => ∃ k : Nat, k ≤ l.length ∧ i = .int .i64 k ∧ riseTo l n k = true) (fun _ _ i => l.length - (intOf i).toNat)
 case atStart => exact ⟨0, Nat.zero_le _, rfl, rfl⟩
 case round =>
  obtain ⟨k, hk, rfl, hal⟩ := hrel
  have Hal := Lib.hid hal; clear hal
  by_cases hkk : k < l.length
  ·obtain ⟨b1, off1, rfl, _, hc1⟩ := hV.cell hkk
   have hk1 : k ≠ 0 → ∃ b2 off2, some (⟨b1, off1, none⟩ : Addr) = some ⟨b2, off2, none⟩ ∧ True ∧ W.cell? ⟨b2, off2 + (k - 1), none⟩ = some (.int .i64 (geti l (k - 1))) := fun hk0 => by
    obtain ⟨b2, off2, e, _, hc⟩ := hV.cell (k := k - 1) (by omega)
    exact ⟨b2, off2, e, trivial, hc⟩
   by_cases h1 : geti l k < 0
   ·skip
    have hfin : r = false := by rw [← Hr.out]; exact riseTo_false (k := k) (by unfold riseTo; simp; intros; omega) hkk
    subst hfin
    go_wp2_with fail
    go_ret
    exact ⟨rfl, rfl⟩
   ·by_cases h2 : n ≤ geti l k
    ·skip
     have hfin : r = false := by rw [← Hr.out]; exact riseTo_false (k := k) (by unfold riseTo; simp; intros; omega) hkk
     subst hfin
     go_wp2_with fail
     go_ret
     exact ⟨rfl, rfl⟩
    ·by_cases hk0 : k = 0
     ·subst hk0
      rw [Nat.add_zero] at hc1
      clear hk1
      go_wp2_with fail
      go_round
      case rel => exact ⟨1, by omega, by go_num, by simp [riseTo]; omega⟩
      case measure => simp [intOf]; omega
     ·obtain ⟨b2, off2, e, _, hc2⟩ := hk1 hk0
      simp only [Option.some.injEq, Addr.mk.injEq, and_true] at e
      obtain ⟨rfl, rfl⟩ := e
      have hpos : 0 < k := by omega
      have hlen := hV.len
      unfold maxLen at hlen
      by_cases h3 : geti l k ≤ geti l (k - 1)
      ·skip
       have hfin : r = false := by rw [← Hr.out]; exact riseTo_false (k := k) (by unfold riseTo; simp; intros; omega) hkk
       subst hfin
       go_wp2_with fail
       go_ret
       exact ⟨rfl, rfl⟩
      ·go_wp2_with fail
       go_round
       case rel => exact ⟨k + 1, by omega, by go_num, by unfold riseTo; rw [Hal.out]; simp; omega⟩
       case measure => simp [intOf]; omega
  ·obtain rfl : k = l.length := by omega
   have hfin : r = true := by rw [← Hr.out]; exact Hal.out
   subst hfin
   go_wp2_with fail
   go_ret
   exact ⟨rfl, rfl⟩
set_option maxHeartbeats 400000 in
theorem l01Rises_q {S : Nat → Prop} (v : Value) (l : List Int) (n : Int) (W : World) (h : V1 S W v l) :
  Calls Try.prog 21 #[v, .int .i64 n] W fun e' w' => e' = .returned (.bool (riseB l n)) ∧ ∃ m, w' = W.drewN m := by
 have hV := h
 obtain ⟨a, c, rfl, hm⟩ := h.form
 obtain ⟨r, hr⟩ : ∃ r, riseB l n = r := ⟨_, rfl⟩
 rw [hr]
 have Hr := Lib.hid hr; clear hr
 go_enter Try.func21, Try.ntmps21
 go_wp2_with fail
 go_loopw [5] (fun i wr => ∃ k q : Nat, k ≤ l.length ∧ i = .int .i64 k ∧ riseTo l n k = true ∧ wr = W.drewN q) (fun i _ => l.length - (intOf i).toNat)
 case atStart => exact ⟨0, 0, Nat.zero_le _, rfl, rfl, rfl⟩
 case round =>
  obtain ⟨k, q, hk, rfl, hal, rfl⟩ := hrel
  have Hal := Lib.hid hal; clear hal
  by_cases hkk : k < l.length
  ·obtain ⟨b1, off1, rfl, _, hc1⟩ := hV.cell hkk
   by_cases h1 : geti l k < 0
   ·have d1 : decide (geti l k < 0) = true := decide_eq_true h1
    have hfin : r = false := by rw [← Hr.out]; exact riseTo_false (k := k) (by unfold riseTo; simp; intros; omega) hkk
    subst hfin
    go_wp2_with fail
    go_quiet (fail)
    go_wp2_with fail
    go_ret
    exact ⟨rfl, _, by first | rfl | rw [World.drewN_drewN]⟩
   ·have d1 : decide (geti l k < 0) = false := decide_eq_false h1
    by_cases h2 : n ≤ geti l k
    ·have d2 : decide (n ≤ geti l k) = true := decide_eq_true h2
     have hfin : r = false := by rw [← Hr.out]; exact riseTo_false (k := k) (by unfold riseTo; simp; intros; omega) hkk
     subst hfin
     go_wp2_with fail
     go_quiet (fail)
     go_wp2_with fail
     go_ret
     exact ⟨rfl, _, by first | rfl | rw [World.drewN_drewN]⟩
    ·have d2 : decide (n ≤ geti l k) = false := decide_eq_false h2
     by_cases hk0 : k = 0
     ·subst hk0
      rw [Nat.add_zero] at hc1
      go_wp2_with fail
      go_quiet (fail)
      go_wp2_with fail
      go_roundw
      case rel => exact ⟨1, _, by omega, by go_num, by simp [riseTo]; omega, by first | rfl | rw [World.drewN_drewN]⟩
      case measure => simp [intOf]; omega
     ·obtain ⟨b2, off2, e, _, hc2⟩ := hV.cell (k := k - 1) (by omega)
      simp only [Option.some.injEq, Addr.mk.injEq, and_true] at e
      obtain ⟨rfl, rfl⟩ := e
      have hpos : 0 < k := by omega
      have hlen := hV.len
      unfold maxLen at hlen
      by_cases h3 : geti l k ≤ geti l (k - 1)
      ·have d3 : decide (geti l k ≤ geti l (k - 1)) = true := decide_eq_true h3
       have hfin : r = false := by rw [← Hr.out]; exact riseTo_false (k := k) (by unfold riseTo; simp; intros; omega) hkk
       subst hfin
       go_wp2_with fail
       go_quiet (fail)
       go_wp2_with fail
       go_ret
       exact ⟨rfl, _, by first | rfl | rw [World.drewN_drewN]⟩
      ·have d3 : decide (geti l k ≤ geti l (k - 1)) = false := decide_eq_false h3
       have h4 := riseTo l n k
       go_wp2_with fail
       go_quiet (fail)
       go_wp2_with fail
       go_roundw
       case rel => exact ⟨k + 1, _, by omega, by go_num, by unfold riseTo; rw [Hal.out]; simp; omega, by first | rfl | rw [World.drewN_drewN]⟩
       case measure => simp [intOf]; omega
  ·obtain rfl : k = l.length := by omega
   have hfin : r = true := by rw [← Hr.out]; exact Hal.out
   subst hfin
   go_wp2_with fail
   go_ret
   exact ⟨rfl, _, rfl⟩
/-- What the function that staysOpen returns stands on. -/
def StayAt (S : Nat → Prop) (m : Mk) (t cuts : List (List Int)) (locks : List (List (List Int))) (LB RB CB SB : Nat) (w : World) : Prop :=
 ∃ lv rv cv tv, w.cell? ⟨LB, 0, none⟩ = some lv ∧ w.cell? ⟨RB, 0, none⟩ = some rv ∧ w.cell? ⟨CB, 0, none⟩ = some cv ∧ (∀ o, w.cell? ⟨SB, o, none⟩ = (#[.int .i64 m.c, .int .i64 m.d, .int .i64 m.s, .int .i64 m.e, .int .i64 m.l, tv] : Array Value)[o]?) ∧ SB < w.heap.size ∧
   S LB ∧ S RB ∧ S CB ∧ S SB ∧ V3 S w lv locks ∧ V1 S w rv (getl t cuts.length) ∧ V2 S w cv cuts ∧ V2 S w tv t
theorem StayAt.keep {S : Nat → Prop} {m : Mk} {t cuts : List (List Int)} {locks : List (List (List Int))} {LB RB CB SB : Nat} {w w' : World} (h : StayAt S m t cuts locks LB RB CB SB w) (hz : w.heap.size ≤ w'.heap.size) (hk : Keep S w w') : StayAt S m t cuts locks LB RB CB SB w' := by
 obtain ⟨lv, rv, cv, tv, h1, h2, h3, h4, h5, s1, s2, s3, s4, h6, h7, h8, h9⟩ := h
 refine ⟨lv, rv, cv, tv, cell_keep h1 (hk _ s1 (lt_of_cell h1)), cell_keep h2 (hk _ s2 (lt_of_cell h2)), cell_keep h3 (hk _ s3 (lt_of_cell h3)), fun o => ?_, by omega, s1, s2, s3, s4, h6.mono (fun _ h _ => h) hk, h7.mono (fun _ h _ => h) hk, h8.mono (fun _ h _ => h) hk, h9.mono (fun _ h _ => h) hk⟩
 rw [← h4]
 exact World.cell?_of_block (w := w) (a := ⟨SB, o, none⟩) (hk _ s4 h5)
/-- Whether one of the first k rows of a list opens a door. -/
def usedRs (t : List (List Int)) (rows : List Int) (d : Nat) : Nat → Bool
 | 0 => false
 | k + 1 => usedRs t rows d k || decide (geti (getl t (geti rows k).toNat) d = 1)
def usedD (t : List (List Int)) (rows : List Int) (d : Nat) : Bool := usedRs t rows d rows.length
theorem usedRs_iff {t : List (List Int)} {rows : List Int} {d : Nat} : ∀ {k}, usedRs t rows d k = true ↔ ∃ j, j < k ∧ geti (getl t (geti rows j).toNat) d = 1
 | 0 => by simp [usedRs]
 | k + 1 => by
   unfold usedRs
   rw [Bool.or_eq_true, usedRs_iff, decide_eq_true_iff]
   constructor
   ·rintro (⟨j, h1, h2⟩ | h)
    ·exact ⟨j, by omega, h2⟩
    ·exact ⟨k, by omega, h⟩
   ·rintro ⟨j, h1, h2⟩
    by_cases e : j = k
    ·subst e; exact .inr h2
    ·exact .inl ⟨j, by omega, h2⟩
/-- The doors among the first k that one of the rows opens. -/
def usedTo (t : List (List Int)) (rows : List Int) : Nat → List Nat
 | 0 => []
 | k + 1 => if usedD t rows k = true then usedTo t rows k ++ [k] else usedTo t rows k
theorem mem_usedTo {t : List (List Int)} {rows : List Int} {d : Nat} : ∀ {k}, d ∈ usedTo t rows k ↔ d < k ∧ usedD t rows d = true
 | 0 => by simp [usedTo]
 | k + 1 => by
   unfold usedTo
   split
   ·rename_i h
    rw [List.mem_append, mem_usedTo, List.mem_singleton]
    constructor
    ·rintro (⟨h1, h2⟩ | rfl)
     ·exact ⟨by omega, h2⟩
     ·exact ⟨by omega, h⟩
    ·rintro ⟨h1, h2⟩
     by_cases e : d = k
     ·exact .inr e
     ·exact .inl ⟨by omega, h2⟩
   ·rename_i h
    rw [mem_usedTo]
    constructor
    ·rintro ⟨h1, h2⟩; exact ⟨by omega, h2⟩
    ·rintro ⟨h1, h2⟩
     refine ⟨?_, h2⟩
     by_cases e : d = k
     ·subst e; exact absurd h2 h
     ·omega
theorem usedTo_len (t : List (List Int)) (rows : List Int) : ∀ k, (usedTo t rows k).length ≤ k
 | 0 => Nat.le_refl _
 | k + 1 => by have := usedTo_len t rows k; unfold usedTo; split <;> simp <;> omega
/-- The entries of row r at these doors. -/
def entTo (t : List (List Int)) (rows : List Int) (r : Nat) : Nat → List Int
 | 0 => []
 | k + 1 => if usedD t rows k = true then entTo t rows r k ++ [geti (getl t r) k] else entTo t rows r k
theorem entTo_map (t : List (List Int)) (rows : List Int) (r : Nat) : ∀ k, entTo t rows r k = (usedTo t rows k).map fun d => geti (getl t r) d
 | 0 => rfl
 | k + 1 => by
   unfold entTo usedTo
   rw [entTo_map t rows r k]
   split
   ·simp
   ·rfl
theorem entTo_len (t : List (List Int)) (rows : List Int) (r k : Nat) : (entTo t rows r k).length ≤ k := by rw [entTo_map, List.length_map]; exact usedTo_len _ _ _
/-- The kept rows among the first j, and their cuts. -/
def keepTo (t : List (List Int)) (rows : List Int) : Nat → List (List Int)
 | 0 => []
 | j + 1 => keepTo t rows j ++ [entTo t rows (geti rows j).toNat (getl t 0).length]
def kcutTo (cuts : List (List Int)) (rows : List Int) : Nat → List (List Int)
 | 0 => []
 | j + 1 => kcutTo cuts rows j ++ [getl cuts (geti rows j).toNat]
theorem keepTo_len (t : List (List Int)) (rows : List Int) : ∀ k, (keepTo t rows k).length = k
 | 0 => rfl
 | k + 1 => by simp [keepTo, keepTo_len t rows k]
theorem kcutTo_len (t : List (List Int)) (rows : List Int) : ∀ k, (kcutTo t rows k).length = k
 | 0 => rfl
 | k + 1 => by simp [kcutTo, kcutTo_len t rows k]
theorem getl_snoc_last (ls : List (List Int)) (x : List Int) : getl (ls ++ [x]) ls.length = x := by unfold getl; simp
theorem getl_snoc_lt {ls : List (List Int)} {x : List Int} {k : Nat} (h : k < ls.length) : getl (ls ++ [x]) k = getl ls k := by unfold getl; simp [List.getElem?_append_left h]
theorem keepTo_get {t : List (List Int)} {rows : List Int} : ∀ {n k : Nat}, k < n → getl (keepTo t rows n) k = entTo t rows (geti rows k).toNat (getl t 0).length
 | n + 1, k, h => by
   have hl := keepTo_len t rows n
   unfold keepTo
   by_cases e : k = n
   ·subst e
    conv => lhs; arg 2; rw [← hl]
    rw [getl_snoc_last]
   ·rw [getl_snoc_lt (by omega), keepTo_get (by omega)]
theorem kcutTo_get {cuts : List (List Int)} {rows : List Int} : ∀ {n k : Nat}, k < n → getl (kcutTo cuts rows n) k = getl cuts (geti rows k).toNat
 | n + 1, k, h => by
   have hl := kcutTo_len cuts rows n
   unfold kcutTo
   by_cases e : k = n
   ·subst e
    conv => lhs; arg 2; rw [← hl]
    rw [getl_snoc_last]
   ·rw [getl_snoc_lt (by omega), kcutTo_get (by omega)]
/-- The code, the kept table and the kept cuts. -/
def keepAns (m : Mk) (t cuts : List (List Int)) (rows : List Int) : Int × List (List Int) × List (List Int) :=
 if partC m t cuts ≠ 0 then (partC m t cuts, [], [])
 else if riseB rows (cuts.length : Int) = false then (2, [], [])
 else if rows.length = 0 ∨ (usedTo t rows (getl t 0).length).length = 0 then (5, [], [])
 else (0, keepTo t rows rows.length, kcutTo cuts rows rows.length)
def keepM (m : Mk) (c : Int) : Mk := if c = 0 then m else Mk.mk 0 0 0 0 0
theorem riseTo_iff {l : List Int} {n : Int} : ∀ {k}, riseTo l n k = true ↔ ∀ j, j < k → 0 ≤ geti l j ∧ geti l j < n ∧ (j = 0 ∨ geti l (j - 1) < geti l j)
 | 0 => by simp [riseTo]
 | k + 1 => by
   unfold riseTo
   simp only [Bool.and_eq_true, Bool.or_eq_true, decide_eq_true_iff]
   rw [riseTo_iff]
   constructor
   ·rintro ⟨h1, ⟨h2, h3⟩, h4⟩ j hj
    by_cases e : j = k
    ·subst e; exact ⟨h2, h3, h4⟩
    ·exact h1 j (by omega)
   ·intro h
    obtain ⟨h2, h3, h4⟩ := h k (by omega)
    exact ⟨fun j hj => h j (by omega), ⟨h2, h3⟩, h4⟩
theorem rise_get {l : List Int} {n : Int} (h : riseB l n = true) {j : Nat} (hj : j < l.length) : 0 ≤ geti l j ∧ geti l j < n := by
 have := riseTo_iff.1 h j hj
 exact ⟨this.1, this.2.1⟩
theorem rise_ge {l : List Int} {n : Int} (h : riseB l n = true) : ∀ j, j < l.length → (j : Int) ≤ geti l j
 | 0, hj => (rise_get h hj).1
 | j + 1, hj => by
   have h1 := rise_ge h j (by omega)
   have h2 := (riseTo_iff.1 h (j + 1) hj).2.2
   rcases h2 with e | h2
   ·omega
   ·rw [Nat.add_sub_cancel] at h2; omega
theorem rise_len {l : List Int} {n : Nat} (h : riseB l (n : Int) = true) : l.length ≤ n := by
 cases hl : l.length with
 | zero => omega
 | succ k =>
   have h1 := rise_ge h k (by omega)
   have h2 := (rise_get h (j := k) (by omega)).2
   omega
theorem keep_ok {m : Mk} {t cuts T C : List (List Int)} {rows : List Int} (h : keepAns m t cuts rows = (0, T, C)) :
  partC m t cuts = 0 ∧ riseB rows (cuts.length : Int) = true ∧ rows.length ≠ 0 ∧ (usedTo t rows (getl t 0).length).length ≠ 0 ∧ T = keepTo t rows rows.length ∧ C = kcutTo cuts rows rows.length := by
 unfold keepAns at h
 split at h
 ·rename_i h1; exact absurd (congrArg Prod.fst h) h1
 ·rename_i h1
  split at h
  ·have := congrArg Prod.fst h; simp at this
  ·rename_i h2
   split at h
   ·have := congrArg Prod.fst h; simp at this
   ·rename_i h3
    rw [not_or] at h3
    injection h with _ h
    injection h with e1 e2
    exact ⟨Classical.not_not.1 h1, by simpa using h2, h3.1, h3.2, e1.symm, e2.symm⟩
theorem keep_row {t : List (List Int)} {rows : List Int} {k q : Nat} (hk : k < rows.length) (hq : q < (usedTo t rows (getl t 0).length).length) :
  geti (getl (keepTo t rows rows.length) k) q = geti (getl t (geti rows k).toNat) ((usedTo t rows (getl t 0).length).getD q 0) := by
 rw [keepTo_get hk, entTo_map]
 unfold geti
 simp only [List.getD_eq_getElem?_getD]
 rw [List.getElem?_map, List.getElem?_eq_getElem hq]
 simp
theorem keep_rowlen {t : List (List Int)} {rows : List Int} {k : Nat} (hk : k < rows.length) : (getl (keepTo t rows rows.length) k).length = (usedTo t rows (getl t 0).length).length := by
 rw [keepTo_get hk, entTo_map, List.length_map]
theorem used_get {t : List (List Int)} {rows : List Int} {D q : Nat} (hq : q < (usedTo t rows D).length) : (usedTo t rows D).getD q 0 < D ∧ usedD t rows ((usedTo t rows D).getD q 0) = true := by
 have : (usedTo t rows D).getD q 0 ∈ usedTo t rows D := by
  rw [List.getD_eq_getElem?_getD, List.getElem?_eq_getElem hq]; exact List.getElem_mem hq
 exact mem_usedTo.1 this
theorem keep_part {m : Mk} {t cuts T C : List (List Int)} {rows : List Int} (h : keepAns m t cuts rows = (0, T, C)) : partC m T C = 0 ∧ C.length = rows.length ∧ T.length = rows.length := by
 obtain ⟨hp, hr, hn, hu, rfl, rfl⟩ := keep_ok h
 have hf := fits_of hp
 have hrl := rise_len hr
 have hrows := hf.rows
 have hfew := hf.few
 have hdoors := hf.doors
 have hul := usedTo_len t rows (getl t 0).length
 have hlt : ∀ j, j < rows.length → (geti rows j).toNat < cuts.length := fun j hj => by have := rise_get hr hj; omega
 have h0 := keep_rowlen (t := t) (rows := rows) (k := 0) (by omega)
 refine ⟨partC_ok.2 ⟨?_, by rw [keepTo_len, kcutTo_len]; exact Nat.le_refl _, allKeys_iff.2 fun k hk => ?_⟩, kcutTo_len _ _ _, keepTo_len _ _ _⟩
 ·unfold isSys
  rw [Bool.and_eq_true, Bool.and_eq_true]
  refine ⟨hf.ok, isTab_iff.2 ⟨by rw [keepTo_len]; omega, fun k hk => ?_⟩, upAll_iff.2 fun d hd => ?_⟩
  ·rw [keepTo_len] at hk
   have hk1 := keep_rowlen (t := t) (rows := rows) hk
   refine ⟨by rw [hk1, h0], by rw [h0]; omega, fun x hx => ?_⟩
   rw [keepTo_get hk, entTo_map, List.mem_map] at hx
   obtain ⟨d, hd, rfl⟩ := hx
   have hd := (mem_usedTo.1 hd).1
   have hkt : (geti rows k).toNat < t.length := by have := hlt k hk; omega
   have hcol := hf.cols _ hkt
   have := hf.bits _ hkt (geti (getl t (geti rows k).toNat) d) (geti_mem (by omega))
   omega
  ·rw [h0] at hd
   obtain ⟨hq1, hq2⟩ := used_get hd
   obtain ⟨j, hj, hj1⟩ := usedRs_iff.1 hq2
   unfold doorOpen
   rw [doorTo_iff, keepTo_len]
   exact ⟨j, hj, by rw [keep_row hj hd]; exact hj1⟩
 ·rw [kcutTo_len] at hk
  rw [kcutTo_get hk]
  exact hf.keys _ (hlt k hk)
theorem index_of {l : List Int} {x : Int} (h : x ∈ l) : ∃ j, j < l.length ∧ geti l j = x := by
 obtain ⟨j, hj, e⟩ := List.getElem_of_mem h
 exact ⟨j, hj, by rw [geti_eq hj]; exact e⟩
end Go.Proofs.Ytmaefilliggjiaa
