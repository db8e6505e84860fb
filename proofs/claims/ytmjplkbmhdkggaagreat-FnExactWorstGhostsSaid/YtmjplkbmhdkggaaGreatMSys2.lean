/- What the reference answers on systems, and the laws' helpers on them. No conditions. -/
import Derived.Deep.RegionHeld3
import Derived.Test.YtmjplkbmhdkggaaGreatRows
import Derived.JoinedOf
import Derived.Lib.SlicesCompact
import Derived.Test.YtmjplkbmhdkggaaGreatMCopy
import Derived.Test.YtmjplkbmhdkggaaGreatMLib
namespace Go.Proofs.YtmjplkbmhdkggaaGreat
open Go.RowKit
set_option linter.unusedVariables false
set_option linter.unusedSimpArgs false
set_option maxRecDepth 100000 in
theorem isSystemR_any {S : Nat → Prop} (m : Mk) (u : Value) (t : List (List Int)) (W : World) (h : V2 S W u t) :
  Calls Tryz.prog 97 #[.agg #[.int .i64 m.c, .int .i64 m.d, .int .i64 m.s, .int .i64 m.e, .int .i64 m.l, u]] W fun e' w' => e' = .returned (.bool (isSys m t)) ∧ Below W.heap.size W w' := by
 have hV := h
 obtain ⟨a, c, rfl, hm⟩ := h.form
 obtain ⟨W1, hW1, hB01, hz01, HZ01, hc01, hh01⟩ := box_facts W #[.int .i64 m.c, .int .i64 m.d, .int .i64 m.s, .int .i64 m.e, .int .i64 m.l, .slice a t.length c] 33
 have hV1 := hV.below hB01
 cases hok : m.ok
 ·have hfin : isSys m t = false := by rw [isSys, hok]; rfl
  have Hf := Lib.hid hfin; clear hfin
  have Hok := Lib.hid hok; clear hok
  go_enter Tryz.func97, Tryz.ntmps97
  go_wp2_with fail
  rw [← hW1]
  refine (isMakerR_any _ _ _ _ _ _).mono ?_; rintro e' w2 ⟨rfl, hb_w2⟩; have hB2 := (Below.refl W1.heap.size W1).trans (hb_w2.mono (Below.refl W1.heap.size W1).size)
  rw [show isMk m.c m.d m.s m.e m.l = false from Hok.out]
  clear hc01 hh01
  go_wp2_with fail
  go_ret
  exact ⟨ret_bool Hf.out.symm, hB01.trans (hB2.mono (by omega))⟩
 ·cases htab : isTab t
  ·have hfin : isSys m t = false := by rw [isSys, htab]; simp
   have Hf := Lib.hid hfin; clear hfin
   have Hok := Lib.hid hok; clear hok
   have Ht := Lib.hid htab; clear htab
   go_enter Tryz.func97, Tryz.ntmps97
   go_wp2_with fail
   rw [← hW1]
   refine (isMakerR_any _ _ _ _ _ _).mono ?_; rintro e' w2 ⟨rfl, hb_w2⟩; have hB2 := (Below.refl W1.heap.size W1).trans (hb_w2.mono (Below.refl W1.heap.size W1).size)
   rw [show isMk m.c m.d m.s m.e m.l = true from Hok.out]
   have hx2 : ∀ o, (w2).cell? ⟨W.heap.size, o, none⟩ = (#[.int .i64 m.c, .int .i64 m.d, .int .i64 m.s, .int .i64 m.e, .int .i64 m.l, .slice a t.length c] : Array Value)[o]? := fun o => by rw [(bcell hB2).1 _ _ hz01, hc01]
   clear hc01 hh01
   go_wp2_with (go_at_call 153; refine (isTableR_b _ _ _ _ Ht.out (hV1.below hB2)).mono ?_; rintro e' w' ⟨rfl, n, rfl⟩)
   go_ret
   exact ⟨ret_bool Hf.out.symm, below_drewN (hB01.trans (hB2.mono (by omega))) _⟩
  ·have hfin : isSys m t = upAll (doorOpen t) (getl t 0).length 0 := by rw [isSys, hok, htab]; rfl
   have htabs := isTab_iff.1 htab
   obtain ⟨htl, htr⟩ := htabs
   have ht0 := (htr 0 (by omega)).2.1
   have hcols : ∀ k, k < t.length → (getl t k).length = (getl t 0).length := fun k hk => (htr k hk).1
   have Hcols := Lib.hid hcols; clear hcols htr
   have Hf := Lib.hid hfin; clear hfin
   have Hok := Lib.hid hok; clear hok
   have Ht := Lib.hid htab; clear htab
   obtain ⟨b0, off0, a0, c0, rfl, _, hcc0, hr0⟩ := hV1.cell (k := 0) (by omega)
   simp only [Nat.add_zero] at hcc0
   go_enter Tryz.func97, Tryz.ntmps97
   go_wp2_with fail
   rw [← hW1]
   refine (isMakerR_any _ _ _ _ _ _).mono ?_; rintro e' w2 ⟨rfl, hb_w2⟩; have hB2 := (Below.refl W1.heap.size W1).trans (hb_w2.mono (Below.refl W1.heap.size W1).size)
   rw [show isMk m.c m.d m.s m.e m.l = true from Hok.out]
   have hx2 : ∀ o, (w2).cell? ⟨W.heap.size, o, none⟩ = (#[.int .i64 m.c, .int .i64 m.d, .int .i64 m.s, .int .i64 m.e, .int .i64 m.l, .slice (some ⟨b0, off0, none⟩) t.length c] : Array Value)[o]? := fun o => by rw [(bcell hB2).1 _ _ hz01, hc01]
   have Hcc0 := Lib.hid hcc0; clear hcc0
   have Hc01 := Lib.hid hc01; clear hc01
   have Hh01 := Lib.hid hh01; clear hh01
   have HW1 := Lib.hid hW1; clear hW1
   go_wp2_with (go_at_call 153; refine (isTableR_b _ _ _ _ Ht.out (hV1.below hB2)).mono ?_; rintro e' w' ⟨rfl, n, rfl⟩)
   have hB2' := below_drewN hB2 n
   have Hx2 := Lib.hid hx2; clear hx2
   go_loopw [3, 4, 5] (fun i _ _ wr => ∃ k : Nat, k ≤ (getl t 0).length ∧ i = .int .i64 k ∧ isSys m t = upAll (doorOpen t) (getl t 0).length k ∧ Below W1.heap.size W1 wr) (fun i _ _ _ => (getl t 0).length - (intOf i).toNat)
   case atStart => exact ⟨0, Nat.zero_le _, rfl, Hf.out, hB2'⟩
   case round =>
    obtain ⟨k, hk, rfl, hrem, hB⟩ := hrel
    have Hr := Lib.hid hrem; clear hrem
    have hx : ∀ o, wr.cell? ⟨W.heap.size, o, none⟩ = (#[.int .i64 m.c, .int .i64 m.d, .int .i64 m.s, .int .i64 m.e, .int .i64 m.l, .slice (some ⟨b0, off0, none⟩) t.length c] : Array Value)[o]? := fun o => by rw [(bcell hB).1 _ _ hz01, Hc01.out]
    have hcc : wr.cell? ⟨b0, off0, none⟩ = some (.slice a0 (getl t 0).length c0) := cell_keep Hcc0.out (hB.block _ (lt_of_cell Hcc0.out))
    by_cases hkk : k < (getl t 0).length
    ·go_wp2_with fail
     go_loopw [4, 5] (fun o j w3 => ∃ q : Nat, q ≤ t.length ∧ j = .int .i64 q ∧ o = .bool (doorTo t k q) ∧ w3 = wr) (fun _ j _ => t.length - (intOf j).toNat)
     case atStart => exact ⟨0, Nat.zero_le _, rfl, rfl, rfl⟩
     case round =>
      obtain ⟨q, hq, rfl, rfl, rfl⟩ := hrel
      by_cases hqq : q < t.length
      ·obtain ⟨b1, off1, a1, c1, e1, _, hc1, hr1⟩ := (hV1.below hB).cell hqq
       simp only [Option.some.injEq, Addr.mk.injEq, and_true] at e1
       obtain ⟨rfl, rfl⟩ := e1
       have hkq : k < (getl t q).length := by rw [Hcols.out q hqq]; exact hkk
       obtain ⟨b2, off2, rfl, _, hc2⟩ := hr1.cell hkq
       have hll := hr1.len
       unfold maxLen at hll
       cases hd : doorTo t k q
       ·have hst : doorTo t k (q + 1) = decide (geti (getl t q) k = 1) := by rw [doorTo, hd]; rfl
        have Hst := Lib.hid hst; clear hst
        have Hd := Lib.hid hd; clear hd
        go_wp2_with fail
        all_goals go_roundw
        all_goals first | (case rel => exact ⟨q + 1, by omega, by go_num, by rw [Hst.out]; first | rfl | simp_all, by first | rfl | trivial⟩) | skip
        all_goals (simp [intOf]; omega)
       ·have hst : doorTo t k (q + 1) = true := by rw [doorTo, hd]; rfl
        have Hst := Lib.hid hst; clear hst
        have Hd := Lib.hid hd; clear hd
        go_wp2_with fail
        go_roundw
        case rel => exact ⟨q + 1, by omega, by go_num, by rw [Hst.out], by first | rfl | trivial⟩
        case measure => simp [intOf]; omega
      ·obtain rfl : q = t.length := by omega
       cases hdo : doorTo t k t.length
       ·have Hdo := Lib.hid hdo; clear hdo
        go_wp2_with fail
        go_ret
        exact ⟨ret_bool (by rw [Hr.out, upAll_step hkk, doorOpen, Hdo.out]; rfl), hB01.trans (hB.mono (by omega))⟩
       ·have Hdo := Lib.hid hdo; clear hdo
        go_wp2_with fail
        go_roundw
        case rel => exact ⟨k + 1, by omega, by go_num, by rw [Hr.out, upAll_step hkk, doorOpen, Hdo.out]; rfl, hB⟩
        case measure => simp [intOf]; omega
    ·obtain rfl : k = (getl t 0).length := by omega
     go_wp2_with fail
     go_ret
     exact ⟨ret_bool (by rw [Hr.out, upAll_end]), hB01.trans (hB.mono (by omega))⟩
theorem isSystem_b {S : Nat → Prop} (m : Mk) (u : Value) (t : List (List Int)) (W : World) (r : Bool) (hr : isSys m t = r) (h : V2 S W u t) :
  Calls Tryz.prog 31 #[.agg #[.int .i64 m.c, .int .i64 m.d, .int .i64 m.s, .int .i64 m.e, .int .i64 m.l, u]] W fun e' w' => e' = .returned (.bool r) ∧ Below W.heap.size W w' := by subst hr; exact isSystem_any m u t W h
theorem isSystemR_b {S : Nat → Prop} (m : Mk) (u : Value) (t : List (List Int)) (W : World) (r : Bool) (hr : isSys m t = r) (h : V2 S W u t) :
  Calls Tryz.prog 97 #[.agg #[.int .i64 m.c, .int .i64 m.d, .int .i64 m.s, .int .i64 m.e, .int .i64 m.l, u]] W fun e' w' => e' = .returned (.bool r) ∧ Below W.heap.size W w' := by subst hr; exact isSystemR_any m u t W h
theorem szSystem_any {S : Nat → Prop} (m : Mk) (u : Value) (t : List (List Int)) (left : Int) (W : World) (h : V2 S W u t) (h0 : 0 ≤ left) (h1 : left ≤ 1048576) :
  Calls Tryz.prog 7 #[.agg #[.int .i64 m.c, .int .i64 m.d, .int .i64 m.s, .int .i64 m.e, .int .i64 m.l, u], .int .i64 left] W fun e' w' => e' = .returned (.int .i64 (szL t left)) ∧ Below W.heap.size W w' := by
 have hV := h
 obtain ⟨a, c, rfl, hm⟩ := h.form
 have hle := szL_le (ls := t) h0
 have hge : -1 ≤ szL t left := by
  unfold szL
  split
  ·omega
  ·exact szR_ge _ _ (by omega)
 go_enter Tryz.func7, Tryz.ntmps7
 by_cases hneg : szL t left < 0
 ·have hm1 : szL t left = -1 := by omega
  have Hm1 := Lib.hid hm1; clear hm1
  go_wp2_with (go_at_call 8; refine (szInt64SS_any _ _ _ _ (hV.below ((Below.refl _ _).alloc (Nat.le_refl _) _)) h0 h1).mono ?_; rintro e' w' ⟨rfl, rfl⟩)
  go_ret
  exact ⟨ret_int (by rw [Hm1.out]), by (repeat (first | (with_reducible refine Below.setCell ?_ ?_ _) | (with_reducible refine Below.alloc ?_ ?_ _) | (with_reducible refine Below.drew ?_) | (with_reducible refine below_drewN ?_ _) | (with_reducible exact Below.refl _ _) | (with_reducible assumption) | (with_reducible refine Below.trans ?_ (Below.mono (by with_reducible assumption) ?_)) | go_size))⟩
 ·go_wp2_with (go_at_call 8; refine (szInt64SS_any _ _ _ _ (hV.below ((Below.refl _ _).alloc (Nat.le_refl _) _)) h0 h1).mono ?_; rintro e' w' ⟨rfl, rfl⟩)
  go_ret
  exact ⟨rfl, by (repeat (first | (with_reducible refine Below.setCell ?_ ?_ _) | (with_reducible refine Below.alloc ?_ ?_ _) | (with_reducible refine Below.drew ?_) | (with_reducible refine below_drewN ?_ _) | (with_reducible exact Below.refl _ _) | (with_reducible assumption) | (with_reducible refine Below.trans ?_ (Below.mono (by with_reducible assumption) ?_)) | go_size))⟩
/-- Equal makers. -/
def eqMk (m n : Mk) : Bool := m.c == n.c && (m.d == n.d && (m.s == n.s && (m.e == n.e && m.l == n.l)))
theorem eqMk_self (m : Mk) : eqMk m m = true := by simp [eqMk]
theorem eqMaker_any (m n : Mk) (W : World) :
  Calls Tryz.prog 65 #[.agg #[.int .i64 m.c, .int .i64 m.d, .int .i64 m.s, .int .i64 m.e, .int .i64 m.l], .agg #[.int .i64 n.c, .int .i64 n.d, .int .i64 n.s, .int .i64 n.e, .int .i64 n.l]] W fun e' w' => e' = .returned (.bool (eqMk m n)) ∧ Below W.heap.size W w' := by
 obtain ⟨a, b, c, d, e⟩ := m; obtain ⟨a', b', c', d', e'⟩ := n
 go_enter Tryz.func65, Tryz.ntmps65
 go_wp2
 all_goals go_ret
 all_goals exact ⟨by simp_all [eqMk], by (repeat (first | (with_reducible refine Below.setCell ?_ ?_ _) | (with_reducible refine Below.alloc ?_ ?_ _) | (with_reducible refine Below.drew ?_) | (with_reducible refine below_drewN ?_ _) | (with_reducible exact Below.refl _ _) | (with_reducible assumption) | (with_reducible refine Below.trans ?_ (Below.mono (by with_reducible assumption) ?_)) | go_size))⟩
theorem toSystem_any {S : Nat → Prop} (m : Mk) (u : Value) (t : List (List Int)) (W : World) (h : V2 S W u t) (hlen : t.length ≤ 1048576) (hrow : ∀ r ∈ t, r.length ≤ 1048576) :
  Calls Tryz.prog 10 #[.agg #[.int .i64 m.c, .int .i64 m.d, .int .i64 m.s, .int .i64 m.e, .int .i64 m.l, u]] W fun e' w' => ∃ v', e' = .returned (.agg #[.int .i64 m.c, .int .i64 m.d, .int .i64 m.s, .int .i64 m.e, .int .i64 m.l, v']) ∧ F2 W.heap.size w' v' t ∧ Below W.heap.size W w' := by
 have hV := h
 obtain ⟨a, c, rfl, hm⟩ := h.form
 have Hrow := Lib.hid hrow; clear hrow
 obtain ⟨mc, md, ms, me, ml⟩ := m
 go_enter Tryz.func10, Tryz.ntmps10
 go_wp2_with fail
 refine (toMaker_any _ _ _ _ _ _).mono ?_
 rintro e' w2 ⟨rfl, hb2⟩
 have hB2 : Below W.heap.size W w2 := by (repeat (first | (with_reducible refine Below.setCell ?_ ?_ _) | (with_reducible refine Below.alloc ?_ ?_ _) | (with_reducible refine Below.drew ?_) | (with_reducible refine below_drewN ?_ _) | (with_reducible exact Below.refl _ _) | (with_reducible assumption) | (with_reducible refine Below.trans ?_ (Below.mono (by with_reducible assumption) ?_)) | go_size))
 have hz2 := hb2.size
 simp only [World.size_alloc] at hz2
 have hx0 := fun o => (bcell hb2).1 W.heap.size o (by simp; omega)
 have hx1 := fun o => (bcell hb2).1 (W.heap.size + 1) o (by simp)
 have hx2 := fun o => (bcell hb2).1 (W.heap.size + 1 + 1) o (by simp)
 have hf1 := fun o => (bcell hb2).2 (W.heap.size + 1) o (by simp)
 have hf2 := fun o => (bcell hb2).2 (W.heap.size + 1 + 1) o (by simp)
 go_wp2_with fail
 refine (toInt64SS_any _ t _ (hV.below (by (repeat (first | (with_reducible refine Below.setCell ?_ ?_ _) | (with_reducible refine Below.alloc ?_ ?_ _) | (with_reducible refine Below.drew ?_) | (with_reducible refine below_drewN ?_ _) | (with_reducible exact Below.refl _ _) | (with_reducible assumption) | (with_reducible refine Below.trans ?_ (Below.mono (by with_reducible assumption) ?_)) | go_size)))) hlen Hrow.out).mono ?_
 rintro e' w4 ⟨v4, bk, rfl, hx4, hbk, ⟨hsz4, _⟩, hb4⟩
 have hB4 := Below.trans (b := _) (show Below W.heap.size W _ from by (repeat (first | (with_reducible refine Below.setCell ?_ ?_ _) | (with_reducible refine Below.alloc ?_ ?_ _) | (with_reducible refine Below.drew ?_) | (with_reducible refine below_drewN ?_ _) | (with_reducible exact Below.refl _ _) | (with_reducible assumption) | (with_reducible refine Below.trans ?_ (Below.mono (by with_reducible assumption) ?_)) | go_size))) (hb4.mono (by simp; omega))
 have hz4 := hb4.size
 simp only [World.size_setCell] at hz4
 have hy2 := fun o => (bcell hb4).1 (W.heap.size + 1 + 1) o (by simp; omega)
 have hg2 := fun o => (bcell hb4).2 (W.heap.size + 1 + 1) o (by simp; omega)
 have hy1 := fun o => (bcell hb4).1 (W.heap.size + 1) o (by simp; omega)
 have hg1 := fun o => (bcell hb4).2 (W.heap.size + 1) o (by simp; omega)
 obtain ⟨a4, c4, rfl, _⟩ := (hx4.v2 (S := fun _ => True) (fun _ => trivial) (fun _ _ _ => trivial)).form
 have hF4 : F2 (W.heap.size + 3) w4 (.slice a4 t.length c4) t := ⟨_, bk, hx4, fun _ => by simp; omega, fun k hk _ => by have := hbk k hk; simp at this; omega⟩
 have HF4 := Lib.hid hF4; clear hF4 hx4 hbk
 clear hB2
 go_wp2_with fail
 exact bodyPost_ret (v := .agg #[.int .i64 mc, .int .i64 md, .int .i64 ms, .int .i64 me, .int .i64 ml, .slice a4 t.length c4]) (by simp [results, Tryz.results10, go_sem, hx0, hx1, hx2, hy1, hy2]) rfl
  ⟨_, rfl, (((((((HF4.out.set (by omega)).set (by omega)).set (by omega)).set (by omega)).set (by omega)).set (by omega)).set (by omega)).mono (by omega), by (repeat (first | (with_reducible refine Below.setCell ?_ ?_ _) | (with_reducible refine Below.alloc ?_ ?_ _) | (with_reducible refine Below.drew ?_) | (with_reducible refine below_drewN ?_ _) | (with_reducible exact Below.refl _ _) | (with_reducible assumption) | (with_reducible refine Below.trans ?_ (Below.mono (by with_reducible assumption) ?_)) | go_size))⟩
theorem eqSystem_any {S S' : Nat → Prop} (m n : Mk) (u v : Value) (t s : List (List Int)) (W : World) (h : V2 S W u t) (h' : V2 S' W v s) :
  Calls Tryz.prog 14 #[.agg #[.int .i64 m.c, .int .i64 m.d, .int .i64 m.s, .int .i64 m.e, .int .i64 m.l, u], .agg #[.int .i64 n.c, .int .i64 n.d, .int .i64 n.s, .int .i64 n.e, .int .i64 n.l, v]] W fun e' w' => e' = .returned (.bool (eqMk m n && decide (t = s))) ∧ Below W.heap.size W w' := by
 have hV := h
 have hV' := h'
 obtain ⟨a, c, rfl, hm⟩ := h.form
 obtain ⟨a', c', rfl, hm'⟩ := h'.form
 cases he : eqMk m n
 ·have He := Lib.hid he; clear he
  go_enter Tryz.func14, Tryz.ntmps14
  go_wp2_with (go_at_call 65; refine (eqMaker_any m n _).mono ?_; rintro e' w' ⟨rfl, hb⟩; rw [He.out]; have hzB := hb.size; (try simp only [World.size_alloc, World.size_setCell, World.size_drew] at hzB))
  go_ret
  exact ⟨ret_bool (by rfl), by (repeat (first | (with_reducible refine Below.setCell ?_ ?_ _) | (with_reducible refine Below.alloc ?_ ?_ _) | (with_reducible refine Below.drew ?_) | (with_reducible refine below_drewN ?_ _) | (with_reducible exact Below.refl _ _) | (with_reducible assumption) | (with_reducible refine Below.trans ?_ (Below.mono (by with_reducible assumption) ?_)) | go_size))⟩
 ·have He := Lib.hid he; clear he
  go_enter Tryz.func14, Tryz.ntmps14
  go_wp2_with fail
  refine (eqMaker_any m n _).mono ?_
  rintro e' w2 ⟨rfl, hb2⟩
  rw [He.out]
  have hB2 : Below W.heap.size W w2 := Below.trans (b := _) (show Below W.heap.size W _ from by (repeat (first | (with_reducible refine Below.setCell ?_ ?_ _) | (with_reducible refine Below.alloc ?_ ?_ _) | (with_reducible refine Below.drew ?_) | (with_reducible refine below_drewN ?_ _) | (with_reducible exact Below.refl _ _) | (with_reducible assumption) | (with_reducible refine Below.trans ?_ (Below.mono (by with_reducible assumption) ?_)) | go_size))) (hb2.mono (by simp; omega))
  have hx0 := fun o => (bcell hb2).1 W.heap.size o (by simp; omega)
  have hx1 := fun o => (bcell hb2).1 (W.heap.size + 1) o (by simp)
  cases hd : decide (t = s)
  ·have Hd := Lib.hid hd; clear hd
   go_wp2_with (go_at_call 13; refine (eqInt64SS_b _ _ t s _ _ Hd.out (hV.below hB2) (hV'.below hB2)).mono ?_; rintro e' w' ⟨rfl, n, rfl⟩)
   go_ret
   exact ⟨ret_bool (by rw [Hd.out]; rfl), below_drewN hB2 _⟩
  ·have Hd := Lib.hid hd; clear hd
   go_wp2_with (go_at_call 13; refine (eqInt64SS_b _ _ t s _ _ Hd.out (hV.below hB2) (hV'.below hB2)).mono ?_; rintro e' w' ⟨rfl, n, rfl⟩)
   go_ret
   exact ⟨ret_bool (by rw [Hd.out]; rfl), below_drewN hB2 _⟩
theorem eqSystem_b {S S' : Nat → Prop} (m n : Mk) (u v : Value) (t s : List (List Int)) (W : World) (r : Bool) (hr : (eqMk m n && decide (t = s)) = r) (h : V2 S W u t) (h' : V2 S' W v s) :
  Calls Tryz.prog 14 #[.agg #[.int .i64 m.c, .int .i64 m.d, .int .i64 m.s, .int .i64 m.e, .int .i64 m.l, u], .agg #[.int .i64 n.c, .int .i64 n.d, .int .i64 n.s, .int .i64 n.e, .int .i64 n.l, v]] W fun e' w' => e' = .returned (.bool r) ∧ Below W.heap.size W w' := by subst hr; exact eqSystem_any m n u v t s W h h'
/-- From w to w' only blocks of F may turn, and new blocks may come. -/
structure Chg (F : Nat → Prop) (w w' : World) : Prop where
 os : w'.os = w.os
 tape : w'.tape = w.tape
 output : w'.output = w.output
 size : w.heap.size ≤ w'.heap.size
 block : ∀ k, k < w.heap.size → ¬ F k → w'.heap[k]? = w.heap[k]?
theorem Chg.refl (F : Nat → Prop) (w : World) : Chg F w w := ⟨rfl, rfl, rfl, Nat.le_refl _, fun _ _ _ => rfl⟩
theorem Chg.trans {F G : Nat → Prop} {a b c : World} (h : Chg F a b) (k : Chg G b c) (hs : ∀ i, G i → F i ∨ a.heap.size ≤ i) : Chg F a c :=
 ⟨k.os.trans h.os, k.tape.trans h.tape, k.output.trans h.output, Nat.le_trans h.size k.size, fun i hi hf => by
  rw [k.block i (Nat.lt_of_lt_of_le hi h.size) (fun hg => by rcases hs i hg with h1 | h1; exact hf h1; omega), h.block i hi hf]⟩
theorem Chg.of_below {F : Nat → Prop} {a b : World} (h : Below a.heap.size a b) : Chg F a b := ⟨h.os, h.tape, h.output, h.size, fun k hk _ => h.block k hk⟩
theorem Chg.then_below {F : Nat → Prop} {a b c : World} (h : Chg F a b) (k : Below b.heap.size b c) : Chg F a c := h.trans (Chg.of_below (F := fun _ => False) k) (fun _ h => h.elim)
theorem Chg.to_below {F : Nat → Prop} {B : Nat} {a b : World} (h : Chg F a b) (hF : ∀ i, F i → B ≤ i) (hB : B ≤ a.heap.size) : Below B a b :=
 ⟨h.os, h.tape, h.output, h.size, fun k hk => h.block k (by omega) (fun hf => by have := hF k hf; omega)⟩
theorem Chg.mono {F G : Nat → Prop} {a b : World} (h : Chg F a b) (hs : ∀ i, F i → G i) : Chg G a b := ⟨h.os, h.tape, h.output, h.size, fun k hk hf => h.block k hk (fun x => hf (hs k x))⟩
theorem Chg.alloc {F : Nat → Prop} {a w : World} (h : Chg F a w) (o : Obj) : Chg F a (w.alloc o) :=
 h.then_below ((Below.refl _ _).alloc (Nat.le_refl _) _)
theorem Chg.drew {F : Nat → Prop} {a w : World} (h : Chg F a w) : Chg F a w.drew := ⟨h.os, h.tape, h.output, h.size, h.block⟩
theorem Chg.setCell {F : Nat → Prop} {a w : World} (h : Chg F a w) {p : Addr} (hp : F p.block ∨ a.heap.size ≤ p.block) (u : Value) : Chg F a (w.setCell p u) :=
 h.trans (G := fun i => i = p.block) ⟨rfl, rfl, rfl, by simp [World.setCell], fun k hk hf => Below.heap_setCell _ _ _ _ hf⟩ (fun i hi => by rw [hi]; exact hp)
theorem Chg.grown {F : Nat → Prop} {a w w' : World} {row : Option Nat} (h : Chg F a w) (hg : w.grownBy w' row) (hr : ∀ k, row = some k → F k ∨ a.heap.size ≤ k) : Chg F a w' :=
 h.trans (G := fun i => row = some i) ⟨hg.os, hg.tape, hg.output, hg.size, fun k hk hf => hg.block k hk (fun e => hf e.symm)⟩ hr
theorem Chg.keep {F S : Nat → Prop} {a w : World} (h : Chg F a w) (hs : ∀ b, S b → ¬ F b) : Keep S a w := fun b hb hlt => h.block b hlt (hs b hb)
theorem Chg.cell {F : Nat → Prop} {a w : World} (h : Chg F a w) {b : Nat} (hb : b < a.heap.size) (hf : ¬ F b) (o : Nat) : w.cell? ⟨b, o, none⟩ = a.cell? ⟨b, o, none⟩ :=
 World.cell?_of_block (w := a) (a := ⟨b, o, none⟩) (h.block b hb hf)
theorem Chg.frozen {F : Nat → Prop} {a w : World} (h : Chg F a w) {b : Nat} (hb : b < a.heap.size) (hf : ¬ F b) (o : Nat) : w.frozen? ⟨b, o, none⟩ = a.frozen? ⟨b, o, none⟩ :=
 World.frozen?_of_block (w := a) (a := ⟨b, o, none⟩) (h.block b hb hf)
theorem Chg.heap {F : Nat → Prop} {a w : World} {b : Nat} {o : Obj} (h : Chg F a w) (ha : a.heap[b]? = some o) (hf : ¬ F b) : w.heap[b]? = some o := by
 rw [h.block b (lt_of_heap ha) hf, ha]
/-- What is owned stays owned while other blocks turn. -/
theorem own_chg {F : Nat → Prop} {w w' : World} {base : Nat} {e : TypeId} {v : Value} {n : Nat} {xs : List Value} (h : w.ownsRow base e 1 v n xs) (hc : Chg F w w') (hf : ∀ g, v.ownBlock = some g → ¬ F g) : w'.ownsRow base e 1 v n xs := by
 refine ⟨h.1, ?_⟩
 rcases h.2 with h0 | ⟨g, cap, cur, rfl, h1, h2, h3⟩
 ·exact .inl h0
 ·exact .inr ⟨g, cap, cur, rfl, h1, hc.heap h2 (hf g rfl), h3⟩
/-- The beginning of what is owned. -/
theorem own_take {w : World} {base : Nat} {e : TypeId} {a : Option Addr} {n c k : Nat} {xs : List Value} (h : w.ownsRow base e 1 (.slice a n c) n xs) (hk : k ≤ n) : w.ownsRow base e 1 (.slice a k c) k (xs.take k) := by
 obtain ⟨hl, h⟩ := h
 refine ⟨by simp; omega, ?_⟩
 rcases h with ⟨h1, h2⟩ | ⟨g, cap, cur, h1, h2, h3, h4, h5, h6, h7⟩
 ·simp only [Value.slice.injEq] at h1
  obtain ⟨rfl, rfl, rfl⟩ := h1
  exact .inl ⟨by rw [show k = 0 from by omega], by omega⟩
 ·simp only [Value.slice.injEq] at h1
  obtain ⟨rfl, _, rfl⟩ := h1
  refine .inr ⟨g, c, cur, rfl, h2, h3, by omega, h5, h6, ?_⟩
  rw [← h7, List.take_take]
  congr 1
  omega
/-- What is owned reads as a list of integers. -/
theorem own_V1 {w : World} {B : Nat} {e : TypeId} {v : Value} {n : Nat} {l : List Int} (h : w.ownsRow B e 1 v n (l.map (Value.int .i64))) : V1 (fun b => v.ownBlock = some b) w v l := by
 obtain ⟨hl, h⟩ := h
 have hn : n = l.length := by simpa using hl.symm
 subst hn
 rcases h with ⟨rfl, h0⟩ | ⟨g, cap, cur, rfl, hb, hh, hc, hm, hs, ht⟩
 ·exact ⟨none, 0, by rw [h0], by omega, Nat.zero_le _, fun k hk => by omega⟩
 ·refine ⟨_, _, rfl, hc, hm, fun k hk => ⟨g, 0, _, rfl, rfl, ?_, rfl⟩⟩
  have h1 : (cur.toList.take (l.length * 1))[k]? = (l.map (Value.int .i64))[k]? := by rw [ht]
  rw [List.getElem?_take, if_pos (by omega), List.getElem?_map] at h1
  rw [cell_of_block hh, Nat.zero_add, ← Array.getElem?_toList, h1, List.getElem?_eq_getElem hk, geti_eq hk]; rfl
theorem own_form {w : World} {B : Nat} {e : TypeId} {v : Value} {n : Nat} {xs : List Value} (h : w.ownsRow B e 1 v n xs) : ∃ a c, v = .slice a n c ∧ n ≤ c ∧ c ≤ maxLen := by
 rcases h.2 with ⟨rfl, h0⟩ | ⟨g, cap, cur, rfl, h1, h2, h3, h4, _⟩
 ·subst h0; exact ⟨_, _, rfl, Nat.le_refl _, Nat.zero_le _⟩
 ·exact ⟨_, _, rfl, h3, h4⟩
theorem own_base {w : World} {B B' : Nat} {e : TypeId} {v : Value} {n : Nat} {xs : List Value} (h : w.ownsRow B e 1 v n xs) (hB : B' ≤ B) : w.ownsRow B' e 1 v n xs := by
 refine ⟨h.1, ?_⟩
 rcases h.2 with h0 | ⟨g, cap, cur, rfl, h1, h2⟩
 ·exact .inl h0
 ·exact .inr ⟨g, cap, cur, rfl, by omega, h2⟩
theorem own_lo {w : World} {B B' : Nat} {e : TypeId} {v : Value} {n : Nat} {xs : List Value} (h : w.ownsRow B e 1 v n xs) (hB : B' ≤ B) : ∀ k, v.ownBlock = some k → B' ≤ k := fun k hk => by have := (h.lt k hk).1; omega
def marks (n : Nat) (k : Int) : List Int := (List.range n).map fun i => k + (i : Nat)
theorem marks_len (n : Nat) (k : Int) : (marks n k).length = n := by simp [marks]
theorem marks_get {n : Nat} {k : Int} {i : Nat} (h : i < n) : geti (marks n k) i = k + i := by simp [geti, marks, h]
theorem marks_nil {n : Nat} {k : Int} : marks n k ≠ [] ↔ n ≠ 0 := by
 rw [Ne, ← List.length_eq_zero_iff, marks_len]
def totTo (ls : List (List Int)) : Nat → Nat
 | 0 => 0
 | j + 1 => totTo ls j + (getl ls j).length
def rowsM (ls : List (List Int)) (k : Int) (j : Nat) : List (List Int) := (List.range ls.length).map fun i => if i < j then marks (getl ls i).length (k + totTo ls i) else getl ls i
def marks2 (ls : List (List Int)) (k : Int) : List (List Int) := rowsM ls k ls.length
theorem rowsM_len (ls : List (List Int)) (k : Int) (j : Nat) : (rowsM ls k j).length = ls.length := by simp [rowsM]
theorem rowsM_get {ls : List (List Int)} {k : Int} {j i : Nat} (h : i < ls.length) : getl (rowsM ls k j) i = if i < j then marks (getl ls i).length (k + totTo ls i) else getl ls i := by simp [getl, rowsM, h]
theorem rowsM_nil {ls : List (List Int)} {k : Int} {j i : Nat} (h : i < ls.length) : getl (rowsM ls k j) i ≠ [] ↔ getl ls i ≠ [] := by
 rw [rowsM_get h]
 split
 ·rw [marks_nil, Ne, Ne, List.length_eq_zero_iff]
 ·rfl
theorem rowsM_0 (ls : List (List Int)) (k : Int) : rowsM ls k 0 = ls := by
 apply List.ext_getElem (by simp [rowsM])
 intro i h1 h2
 simp [rowsM, getl, h2]
theorem totTo_le {ls : List (List Int)} {n : Nat} (h : ∀ i, i < ls.length → (getl ls i).length ≤ n) : ∀ j, j ≤ ls.length → totTo ls j ≤ j * n
 | 0, _ => by simp [totTo]
 | j + 1, hj => by
   unfold totTo
   have := totTo_le h j (by omega)
   have := h j (by omega)
   rw [Nat.succ_mul]
   omega
theorem rows_ne {ls : List (List Int)} {k : Nat} (h : k < ls.length) : ls ≠ [] := by intro e; subst e; simp at h
theorem markInt64S_any (F : Nat → Prop) (v : Value) (l : List Int) (b : Nat) (k : Int) (W : World) (h : X1 W v l b) (hF : l ≠ [] → F b) (hk : 0 ≤ k) (hk2 : k + l.length ≤ 1152921504606846976) :
  Calls Tryz.prog 66 #[v, .int .i64 k] W fun e' w' => e' = .returned (.int .i64 (k + l.length)) ∧ X1 w' v (marks l.length k) b ∧ Chg F W w' := by
 obtain ⟨a, c, rfl, h1, h2, hX⟩ := h
 unfold maxLen at h2
 by_cases hn : l = []
 ·subst hn
  go_enter Tryz.func66, Tryz.ntmps66
  go_wp2_with fail
  go_loopw [1, 5] (fun q i wr => i = .int .i64 0 ∧ q = .int .i64 k ∧ wr = W) (fun _ i _ => 0)
  case atStart => exact ⟨rfl, rfl, rfl⟩
  case round =>
   obtain ⟨rfl, rfl, rfl⟩ := hrel
   go_wp2_with fail
   go_ret
   exact ⟨by simp, ⟨a, c, rfl, h1, by unfold maxLen; exact h2, fun hn => absurd rfl hn⟩, Chg.refl _ _⟩
 ·obtain ⟨off, cs0, e0, rfl, hh0, hc0⟩ := hX hn
  have HFb := Lib.hid (hF hn); clear hF
  have Hhc := Lib.hid (And.intro hh0 hc0); clear hh0 hc0
  have hX0 := Lib.hid hX; clear hX
  have Hn := Lib.hid hn; clear hn
  go_enter Tryz.func66, Tryz.ntmps66
  go_wp2_with fail
  go_loopw [1, 5] (fun q i wr => ∃ (j : Nat) (cs : Array Value), j ≤ l.length ∧ i = .int .i64 j ∧ q = .int .i64 (k + j) ∧ wr.heap[b]? = some (.cells cs e0 (0, 0)) ∧ (∀ m, m < l.length → cs[off + m]? = some (.int .i64 (if m < j then k + m else geti l m))) ∧ Chg F W wr) (fun _ i _ => l.length - (intOf i).toNat)
  case atStart => exact ⟨0, cs0, Nat.zero_le _, rfl, by simp, Hhc.out.1, fun m hm => by rw [if_neg (by omega)]; exact Hhc.out.2 m hm, Chg.refl _ _⟩
  case round =>
   obtain ⟨j, cs, hj, rfl, rfl, hh, hcs, hB⟩ := hrel
   by_cases hjj : j < l.length
   ·have hco : wr.cell? ⟨b, off + j, none⟩ = some (.int .i64 (geti l j)) := by rw [cell_of_block hh, hcs j hjj, if_neg (by omega)]
    have hfo := frozen_of_block hh (off + j)
    have hsz : off + j < cs.size := (Array.getElem?_eq_some_iff.1 (hcs j hjj)).1
    have Hsz := Lib.hid hsz; clear hsz
    have Hh := Lib.hid hh; clear hh
    have Hcs := Lib.hid hcs; clear hcs
    have hw : wrap64 (k + j + 1) = k + j + 1 := IntWalk.wrap64_in _ (by omega)
    go_wp2_with fail
    go_roundw
    case rel =>
     refine ⟨j + 1, cs.setIfInBounds (off + j) (.int .i64 (k + j)), by omega, by go_num, by congr 1; omega, heap_setCell_self Hh.out _, fun m hm => ?_, hB.setCell (.inl HFb.out) _⟩
     rw [Array.getElem?_setIfInBounds]
     by_cases e : m = j
     ·subst e
      rw [if_pos rfl, if_pos Hsz.out, if_pos (by omega)]
     ·rw [if_neg (by omega), Hcs.out m hm]
      by_cases hmj : m < j
      ·rw [if_pos hmj, if_pos (by omega)]
      ·rw [if_neg hmj, if_neg (by omega)]
    case measure => simp [intOf]; omega
   ·obtain rfl : j = l.length := by omega
    have Hh := Lib.hid hh; clear hh
    have Hcs := Lib.hid hcs; clear hcs
    go_wp2_with fail
    go_ret
    refine ⟨rfl, ⟨some ⟨b, off, none⟩, c, by rw [marks_len], by rw [marks_len]; exact h1, by unfold maxLen; exact h2, fun _ => ⟨off, cs, e0, rfl, Hh.out, fun m hm => ?_⟩⟩, hB⟩
    rw [marks_len] at hm
    rw [Hcs.out m hm, if_pos hm, marks_get hm]
theorem heldInt64S_any {S : Nat → Prop} (v : Value) (n : Nat) (k : Int) (W : World) (h : V1 S W v (marks n k)) (hk : 0 ≤ k) (hk2 : k + n ≤ 1152921504606846976) :
  Calls Tryz.prog 67 #[v, .int .i64 k] W fun e' w' => e' = .returned (.int .i64 (k + n)) ∧ W = w' := by
 have hV := h
 obtain ⟨a, c, rfl, hm⟩ := h.form
 have hl := marks_len n k
 rw [hl] at hm ⊢
 go_enter Tryz.func67, Tryz.ntmps67
 go_wp2_with fail
 go_loop [1, 5] (fun q i => ∃ j : Nat, j ≤ n ∧ i = .int .i64 j ∧ q = .int .i64 (k + j)) (fun _ i => n - (intOf i).toNat)
 case atStart => exact ⟨0, Nat.zero_le _, rfl, by simp⟩
 case round =>
  obtain ⟨j, hj, rfl, rfl⟩ := hrel
  by_cases hjj : j < n
  ·obtain ⟨b1, off1, rfl, _, hc1⟩ := hV.cell (show j < (marks n k).length by omega)
   rw [marks_get hjj] at hc1
   have hw : wrap64 (k + j + 1) = k + j + 1 := IntWalk.wrap64_in _ (by omega)
   have e1 : (k + (j : Int) != k + (j : Int)) = false := by simp
   go_wp2_with fail
   go_round
   case rel => exact ⟨j + 1, by omega, by go_num, by congr 1; omega⟩
   case measure => simp [intOf]; omega
  ·obtain rfl : j = n := by omega
   go_wp2_with fail
   go_ret
   exact ⟨rfl, rfl⟩
theorem markInt64SS_any (F : Nat → Prop) (v : Value) (ls : List (List Int)) (ob : Nat) (bk : Nat → Nat) (k : Int) (W : World) (h : X2 W v ls ob bk) (hF : ∀ j, j < ls.length → getl ls j ≠ [] → F (bk j)) (hk : 0 ≤ k)
  (hk2 : ∀ j, j ≤ ls.length → k + totTo ls j ≤ 1152921504606846976) :
  Calls Tryz.prog 16 #[v, .int .i64 k] W fun e' w' => e' = .returned (.int .i64 (k + totTo ls ls.length)) ∧ X2 w' v (marks2 ls k) ob bk ∧ Chg F W w' := by
 have hX := h
 obtain ⟨a, c, rfl, h1, h2, _⟩ := h
 unfold maxLen at h2
 have HF := Lib.hid hF; clear hF
 have Hk2 := Lib.hid hk2; clear hk2
 go_enter Tryz.func16, Tryz.ntmps16
 go_wp2_with fail
 go_loopw [1, 5] (fun q i wr => ∃ j : Nat, j ≤ ls.length ∧ i = .int .i64 j ∧ q = .int .i64 (k + totTo ls j) ∧ X2 wr (.slice a ls.length c) (rowsM ls k j) ob bk ∧ Chg F W wr) (fun _ i _ => ls.length - (intOf i).toNat)
 case atStart => exact ⟨0, Nat.zero_le _, rfl, by simp [totTo], by rw [rowsM_0]; exact hX, Chg.refl _ _⟩
 case round =>
  obtain ⟨j, hj, rfl, rfl, hR, hB⟩ := hrel
  by_cases hjj : j < ls.length
  ·have hjR : j < (rowsM ls k j).length := by rw [rowsM_len]; exact hjj
   have hR' := hR
   obtain ⟨a', c', ea, _, _, hcells, hd⟩ := hR'
   rw [rowsM_len] at ea hd hcells
   obtain ⟨off, cs, e, ea2, hh, hc⟩ := hcells (rows_ne hjR)
   injection ea with ea1 _ ea3
   subst ea1 ea3
   obtain ⟨rv, hcj, hxj⟩ := hc j hjj
   rw [rowsM_get hjj, if_neg (by omega)] at hxj
   have hxj' := hxj
   obtain ⟨ar, cr, rfl, _⟩ := hxj'
   have hc1 : wr.cell? ⟨ob, off + j, none⟩ = some (.slice ar (getl ls j).length cr) := by rw [cell_of_block hh]; exact hcj
   subst ea2
   have hd' := Lib.hid hd; clear hd
   have Hcj := Lib.hid hcj
   have Hh := Lib.hid (And.intro hh hc); clear hh hc hcj hcells
   have HR := Lib.hid hR; clear hR
   have hb1 := Hk2.out (j + 1) (by omega)
   unfold totTo at hb1
   rw [Int.natCast_add] at hb1
   have hst : k + (totTo ls j : Int) + ((getl ls j).length : Int) = k + (totTo ls (j + 1) : Int) := by rw [totTo]; omega
   go_wp2_with fail
   refine (markInt64S_any (fun x => getl ls j ≠ [] ∧ x = bk j) _ _ (bk j) _ _ hxj (fun hn => ⟨hn, rfl⟩) (by omega) (by omega)).mono ?_
   rintro e' w2 ⟨rfl, hx2, hb2⟩
   rw [hst]
   have Hx2 := Lib.hid hx2; clear hx2
   go_wp2_with fail
   go_roundw
   case rel =>
    have hlt := (HR.out.lt (rows_ne hjR)).2
    rw [rowsM_len] at hlt
    refine ⟨j + 1, by omega, by go_num, rfl, ⟨some ⟨ob, off, none⟩, c, by rw [rowsM_len], by rw [rowsM_len]; exact h1, by unfold maxLen; exact h2, fun _ => ⟨off, cs, e, rfl, ?_, fun m hm => ?_⟩, fun m hm hne => ?_⟩, hB.trans hb2 (fun i ⟨hi1, hi2⟩ => by subst hi2; exact .inl (HF.out j hjj hi1))⟩
    ·rw [hb2.block ob (lt_of_heap Hh.out.1) (fun ⟨hi1, hi2⟩ => (hd'.out j hjj ((rowsM_nil hjj).2 hi1)).1 hi2.symm)]
     exact Hh.out.1
    ·rw [rowsM_len] at hm
     by_cases hmj : m = j
     ·subst hmj
      refine ⟨_, ?_, by rw [rowsM_get hm, if_pos (by omega)]; exact Hx2.out⟩
      exact Hcj.out
     ·obtain ⟨rv, hcm, hxm⟩ := Hh.out.2 m hm
      refine ⟨rv, hcm, ?_⟩
      have hrow : getl (rowsM ls k (j + 1)) m = getl (rowsM ls k j) m := by
       rw [rowsM_get hm, rowsM_get hm]
       by_cases hlt : m < j
       ·rw [if_pos hlt, if_pos (by omega)]
       ·rw [if_neg hlt, if_neg (by omega)]
      rw [hrow]
      refine hxm.keep fun hne => hb2.block _ (hlt m hm hne) (fun ⟨hi1, hi2⟩ => ?_)
      exact (hd'.out j hjj ((rowsM_nil hjj).2 hi1)).2 m hm hmj hne hi2
    ·rw [rowsM_len] at hm ⊢
     obtain ⟨g1, g2⟩ := hd'.out m hm ((rowsM_nil hm).2 ((rowsM_nil hm).1 hne))
     exact ⟨g1, fun i hi hne' hx => g2 i hi hne' ((rowsM_nil hi).2 ((rowsM_nil hi).1 hx))⟩
   case measure => simp [intOf]; omega
  ·obtain rfl : j = ls.length := by omega
   have HR := Lib.hid hR; clear hR
   go_wp2_with fail
   go_ret
   exact ⟨rfl, HR.out, hB⟩
theorem heldInt64SS_any {S : Nat → Prop} (v : Value) (ls : List (List Int)) (k : Int) (W : World) (h : V2 S W v (marks2 ls k)) (hk : 0 ≤ k) (hk2 : ∀ j, j ≤ ls.length → k + totTo ls j ≤ 1152921504606846976) :
  Calls Tryz.prog 17 #[v, .int .i64 k] W fun e' w' => e' = .returned (.int .i64 (k + totTo ls ls.length)) ∧ W = w' := by
 have hV := h
 have hl : (marks2 ls k).length = ls.length := rowsM_len _ _ _
 obtain ⟨a, c, rfl, hm⟩ := h.form
 rw [hl] at hm ⊢
 have Hk2 := Lib.hid hk2; clear hk2
 go_enter Tryz.func17, Tryz.ntmps17
 go_wp2_with fail
 go_loop [1, 5] (fun q i => ∃ j : Nat, j ≤ ls.length ∧ i = .int .i64 j ∧ q = .int .i64 (k + totTo ls j)) (fun _ i => ls.length - (intOf i).toNat)
 case atStart => exact ⟨0, Nat.zero_le _, rfl, by simp [totTo]⟩
 case round =>
  obtain ⟨j, hj, rfl, rfl⟩ := hrel
  by_cases hjj : j < ls.length
  ·obtain ⟨b1, off1, a1, c1, rfl, _, hc1, hr1⟩ := hV.cell (show j < (marks2 ls k).length by omega)
   rw [show getl (marks2 ls k) j = marks (getl ls j).length (k + totTo ls j) by rw [marks2, rowsM_get hjj, if_pos hjj]] at hr1 hc1
   rw [marks_len] at hr1 hc1
   have hb1 := Hk2.out (j + 1) (by omega)
   unfold totTo at hb1
   rw [Int.natCast_add] at hb1
   have hst : k + (totTo ls j : Int) + ((getl ls j).length : Int) = k + (totTo ls (j + 1) : Int) := by rw [totTo]; omega
   have hp : 0 ≤ k + (totTo ls (j + 1) : Int) := by omega
   go_wp2_with fail
   refine (heldInt64S_any _ _ _ _ hr1 (by omega) (by omega)).mono ?_
   rintro e' w2 ⟨rfl, rfl⟩
   rw [hst]
   go_wp2_with fail
   go_round
   case rel => exact ⟨j + 1, by omega, by go_num, rfl⟩
   case measure => simp [intOf]; omega
  ·obtain rfl : j = ls.length := by omega
   go_wp2_with fail
   go_ret
   exact ⟨rfl, rfl⟩
theorem markSystem_any (F : Nat → Prop) (m : Mk) (u : Value) (t : List (List Int)) (ob : Nat) (bk : Nat → Nat) (k : Int) (W : World) (h : X2 W u t ob bk) (hF : ∀ j, j < t.length → getl t j ≠ [] → F (bk j)) (hk : 0 ≤ k)
  (hk2 : ∀ j, j ≤ t.length → k + totTo t j ≤ 1152921504606846976) :
  Calls Tryz.prog 15 #[.agg #[.int .i64 m.c, .int .i64 m.d, .int .i64 m.s, .int .i64 m.e, .int .i64 m.l, u], .int .i64 k] W fun e' w' => e' = .returned (.int .i64 (k + totTo t t.length)) ∧ X2 w' u (marks2 t k) ob bk ∧ Chg F W w' := by
 have hX := h
 obtain ⟨a, c, rfl, _⟩ := h
 obtain ⟨W1, hW1, hB01, hz01, HZ01, hc01, hh01⟩ := box_facts W #[.int .i64 m.c, .int .i64 m.d, .int .i64 m.s, .int .i64 m.e, .int .i64 m.l, .slice a t.length c] 33
 have hX1 : X2 W1 (.slice a t.length c) t ob bk := hX.keep (fun hn => hB01.block _ (hX.lt hn).1) (fun j hj hne => hB01.block _ ((hX.lt (rows_ne hj)).2 j hj hne))
 go_enter Tryz.func15, Tryz.ntmps15
 go_wp2_with fail
 rw [← hW1]
 have HW1 := Lib.hid hW1; clear hW1
 go_wp2_with fail
 refine (markInt64SS_any F _ t ob bk k _ hX1 hF hk hk2).mono ?_
 rintro e' w2 ⟨rfl, hx2, hb2⟩
 have Hx2 := Lib.hid hx2; clear hx2
 clear hc01 hh01
 go_wp2_with fail
 go_ret
 exact ⟨rfl, Hx2.out, (Chg.of_below hB01).trans hb2 (fun i hi => .inl hi)⟩
/-- Values of rows ls. -/
def RowVs (S : Nat → Prop) (w : World) (vs : List Value) (ls : List (List Int)) : Prop :=
 vs.length = ls.length ∧ ∀ k, k < ls.length → ∃ ev, vs[k]? = some ev ∧ V1 S w ev (getl ls k)
theorem RowVs.nil {S : Nat → Prop} {w : World} : RowVs S w [] [] := ⟨rfl, fun k hk => by simp at hk⟩
theorem getl_append1 {ls : List (List Int)} {l : List Int} {k : Nat} (h : k < ls.length) : getl (ls ++ [l]) k = getl ls k := by
 simp [getl, List.getElem?_append_left h]
theorem getl_last {ls : List (List Int)} {l : List Int} : getl (ls ++ [l]) ls.length = l := by
 unfold getl; simp
theorem RowVs.snoc {S : Nat → Prop} {w : World} {vs : List Value} {ls : List (List Int)} {v : Value} {l : List Int} (h : RowVs S w vs ls) (hv : V1 S w v l) : RowVs S w (vs ++ [v]) (ls ++ [l]) := by
 refine ⟨by simp [h.1], fun k hk => ?_⟩
 by_cases hkk : k < ls.length
 ·obtain ⟨ev, h1, h2⟩ := h.2 k hkk
  exact ⟨ev, by rw [List.getElem?_append_left (by rw [h.1]; exact hkk)]; exact h1, by rw [getl_append1 hkk]; exact h2⟩
 ·have e : k = ls.length := by simp at hk; omega
  subst e
  exact ⟨v, by rw [← h.1]; simp, by rw [getl_last]; exact hv⟩
theorem RowVs.below {S : Nat → Prop} {w w' : World} {vs : List Value} {ls : List (List Int)} (h : RowVs S w vs ls) (hb : Below w.heap.size w w') : RowVs S w' vs ls :=
 ⟨h.1, fun k hk => by obtain ⟨ev, h1, h2⟩ := h.2 k hk; exact ⟨ev, h1, h2.below hb⟩⟩
theorem RowVs.keep {S : Nat → Prop} {w w' : World} {vs : List Value} {ls : List (List Int)} (h : RowVs S w vs ls) (hb : Keep S w w') : RowVs S w' vs ls :=
 ⟨h.1, fun k hk => by obtain ⟨ev, h1, h2⟩ := h.2 k hk; exact ⟨ev, h1, h2.mono (fun _ h _ => h) hb⟩⟩
theorem own_V2 {w : World} {B : Nat} {e : TypeId} {v : Value} {n : Nat} {vs : List Value} {ls : List (List Int)} (h : w.ownsRow B e 1 v n vs) (hr : RowVs (fun _ => True) w vs ls) : V2 (fun _ => True) w v ls := by
 obtain ⟨hl, h⟩ := h
 have hn : n = ls.length := by have := hr.1; omega
 subst hn
 rcases h with ⟨rfl, h0⟩ | ⟨g, cap, cur, rfl, hb, hh, hc, hm, hs, ht⟩
 ·exact ⟨none, 0, by rw [h0], by omega, Nat.zero_le _, fun k hk => by omega⟩
 ·refine ⟨_, _, rfl, hc, hm, fun k hk => ?_⟩
  obtain ⟨ev, h1, h2⟩ := hr.2 k hk
  refine ⟨g, 0, ev, rfl, trivial, ?_, h2⟩
  have h3 : (cur.toList.take (ls.length * 1))[k]? = vs[k]? := by rw [ht]
  rw [List.getElem?_take, if_pos (by omega), h1] at h3
  rw [cell_of_block hh, Nat.zero_add, ← Array.getElem?_toList, h3]
theorem own_keep {w w' : World} {B : Nat} {e : TypeId} {v : Value} {n : Nat} {xs : List Value} (h : w.ownsRow B e 1 v n xs) (hb : Below w.heap.size w w') : w'.ownsRow B e 1 v n xs := by
 refine ⟨h.1, ?_⟩
 rcases h.2 with h0 | ⟨g, cap, cur, rfl, h1, h2, h3⟩
 ·exact .inl h0
 ·exact .inr ⟨g, cap, cur, rfl, h1, by rw [hb.block g (lt_of_heap h2)]; exact h2, h3⟩
theorem grow_keep {S : Nat → Prop} {w w' : World} {ob : Option Nat} (hg : w.grownBy w' ob) (h : ∀ g, ob = some g → ¬ S g) : Keep S w w' := fun b hb hlt => hg.block b hlt (fun e => h b e.symm hb)
theorem V1.old {S : Nat → Prop} {w : World} {v : Value} {l : List Int} (h : V1 S w v l) : V1 (fun b => b < w.heap.size) w v l := h.mono (fun _ _ h => h) (fun _ _ _ => rfl)
theorem V2.old {S : Nat → Prop} {w : World} {v : Value} {ls : List (List Int)} (h : V2 S w v ls) : V2 (fun b => b < w.heap.size) w v ls := h.mono (fun _ _ h => h) (fun _ _ _ => rfl)
theorem V1.any {S : Nat → Prop} {w : World} {v : Value} {l : List Int} (h : V1 S w v l) : V1 (fun _ => True) w v l := h.mono (fun _ _ _ => trivial) (fun _ _ _ => rfl)
theorem V2.any {S : Nat → Prop} {w : World} {v : Value} {ls : List (List Int)} (h : V2 S w v ls) : V2 (fun _ => True) w v ls := h.mono (fun _ _ _ => trivial) (fun _ _ _ => rfl)
def Rg (lo hi : Nat) : Nat → Prop := fun b => lo ≤ b ∧ b < hi
def XR1 (lo hi : Nat) (w : World) (v : Value) (l : List Int) : Prop := ∃ b, X1 w v l b ∧ (l ≠ [] → lo ≤ b ∧ b < hi)
def XR2 (lo hi : Nat) (w : World) (v : Value) (ls : List (List Int)) : Prop :=
 ∃ ob bk, X2 w v ls ob bk ∧ (ls ≠ [] → lo ≤ ob ∧ ob < hi) ∧ ∀ k, k < ls.length → getl ls k ≠ [] → lo ≤ bk k ∧ bk k < hi
section
variable {lo hi lo' hi' s B : Nat} {w w' : World} {v : Value} {l : List Int} {ls : List (List Int)}
theorem XR2.of_F2 (h : F2 B w v ls) : XR2 B w.heap.size w v ls := by
 obtain ⟨ob, bk, h1, h2, h3⟩ := h
 exact ⟨ob, bk, h1, fun hn => ⟨h2 hn, (h1.lt hn).1⟩, fun k hk hn => ⟨h3 k hk hn, (h1.lt (rows_ne hk)).2 k hk hn⟩⟩
theorem XR2.of_copy {bk : Nat → Nat} (h : X2 w v ls B bk) (h1 : ∀ k, k < ls.length → B < bk k) : XR2 B w.heap.size w v ls :=
 ⟨B, bk, h, fun hn => ⟨Nat.le_refl _, (h.lt hn).1⟩, fun k hk hn => ⟨by have := h1 k hk; omega, (h.lt (rows_ne hk)).2 k hk hn⟩⟩
theorem XR1.of_copy (h : X1 w v l B) : XR1 B w.heap.size w v l := ⟨B, h, fun hn => ⟨Nat.le_refl _, h.lt hn⟩⟩
theorem XR1.below (h : XR1 lo hi w v l) (hb : Below w.heap.size w w') : XR1 lo hi w' v l := by
 obtain ⟨b, h1, h2⟩ := h
 exact ⟨b, h1.keep (fun hn => hb.block _ (h1.lt hn)), h2⟩
theorem XR2.below (h : XR2 lo hi w v ls) (hb : Below w.heap.size w w') : XR2 lo hi w' v ls := by
 obtain ⟨ob, bk, h1, h2, h3⟩ := h
 exact ⟨ob, bk, h1.keep (fun hn => hb.block _ (h1.lt hn).1) (fun k hk hn => hb.block _ ((h1.lt (rows_ne hk)).2 k hk hn)), h2, h3⟩
theorem XR1.chg (h : XR1 lo hi w v l) (hc : Chg (Rg lo' hi') w w') (hd : hi ≤ lo' ∨ hi' ≤ lo) : XR1 lo hi w' v l := by
 obtain ⟨b, h1, h2⟩ := h
 exact ⟨b, h1.keep (fun hn => hc.block _ (h1.lt hn) (fun hf => by have := h2 hn; obtain ⟨g1, g2⟩ := hf; omega)), h2⟩
theorem XR2.chg (h : XR2 lo hi w v ls) (hc : Chg (Rg lo' hi') w w') (hd : hi ≤ lo' ∨ hi' ≤ lo) : XR2 lo hi w' v ls := by
 obtain ⟨ob, bk, h1, h2, h3⟩ := h
 exact ⟨ob, bk, h1.keep (fun hn => hc.block _ (h1.lt hn).1 (fun hf => by have := h2 hn; obtain ⟨g1, g2⟩ := hf; omega)) (fun k hk hn => hc.block _ ((h1.lt (rows_ne hk)).2 k hk hn) (fun hf => by have := h3 k hk hn; obtain ⟨g1, g2⟩ := hf; omega)), h2, h3⟩
theorem V1.chgR (h : V1 (fun b => b < s) w v l) (hc : Chg (Rg lo hi) w w') (hs : s ≤ lo) : V1 (fun b => b < s) w' v l :=
 h.mono (fun _ h _ => h) (hc.keep fun b hb hf => by have h1 : b < s := hb; obtain ⟨g1, g2⟩ := hf; omega)
theorem V2.chgR (h : V2 (fun b => b < s) w v ls) (hc : Chg (Rg lo hi) w w') (hs : s ≤ lo) : V2 (fun b => b < s) w' v ls :=
 h.mono (fun _ h _ => h) (hc.keep fun b hb hf => by have h1 : b < s := hb; obtain ⟨g1, g2⟩ := hf; omega)
theorem Chg.belowR (h : Chg (Rg lo hi) w w') {w0 : World} (hb : Below B w0 w) (hB : B ≤ lo) (hs : B ≤ w0.heap.size) : Below B w0 w' :=
 hb.trans (h.to_below (fun i hi => by obtain ⟨g1, g2⟩ := hi; omega) (by have := hb.size; omega))
theorem XR1.v1 (h : XR1 lo hi w v l) : V1 (fun _ => True) w v l := by
 obtain ⟨b, h1, _⟩ := h; exact h1.v1 (fun _ => trivial)
theorem XR2.v2 (h : XR2 lo hi w v ls) : V2 (fun _ => True) w v ls := by
 obtain ⟨ob, bk, h1, _⟩ := h; exact h1.v2 (fun _ => trivial) (fun _ _ _ => trivial)
theorem XR1.form (h : XR1 lo hi w v l) : ∃ a c, v = .slice a l.length c := by
 obtain ⟨b, ⟨a, c, rfl, _⟩, _⟩ := h; exact ⟨a, c, rfl⟩
theorem XR2.form (h : XR2 lo hi w v ls) : ∃ a c, v = .slice a ls.length c := by
 obtain ⟨ob, bk, ⟨a, c, rfl, _⟩, _⟩ := h; exact ⟨a, c, rfl⟩
theorem F1.any (h : F1 B w v l) : V1 (fun _ => True) w v l := h.v1.any
theorem F2.any (h : F2 B w v ls) : V2 (fun _ => True) w v ls := h.v2.any
end
theorem marks2_len (ls : List (List Int)) (k : Int) : (marks2 ls k).length = ls.length := rowsM_len _ _ _
theorem markInt64SS_r (lo hi : Nat) (v : Value) (ls : List (List Int)) (k : Int) (W : World) (h : XR2 lo hi W v ls) (hk : 0 ≤ k) (hk2 : ∀ j, j ≤ ls.length → k + totTo ls j ≤ 1152921504606846976) :
  Calls Tryz.prog 16 #[v, .int .i64 k] W fun e' w' => e' = .returned (.int .i64 (k + totTo ls ls.length)) ∧ XR2 lo hi w' v (marks2 ls k) ∧ Chg (Rg lo hi) W w' := by
 obtain ⟨ob, bk, h1, h2, h3⟩ := h
 refine (markInt64SS_any (Rg lo hi) v ls ob bk k W h1 h3 hk hk2).mono ?_
 rintro e' w' ⟨rfl, h4, h5⟩
 refine ⟨rfl, ⟨ob, bk, h4, fun hn => h2 (fun e => by subst e; exact hn rfl), fun j hj hn => ?_⟩, h5⟩
 rw [marks2_len] at hj
 exact h3 j hj ((rowsM_nil hj).1 hn)
theorem markSystem_r (lo hi : Nat) (m : Mk) (u : Value) (t : List (List Int)) (k : Int) (W : World) (h : XR2 lo hi W u t) (hk : 0 ≤ k) (hk2 : ∀ j, j ≤ t.length → k + totTo t j ≤ 1152921504606846976) (hw : hi ≤ W.heap.size) :
  Calls Tryz.prog 15 #[.agg #[.int .i64 m.c, .int .i64 m.d, .int .i64 m.s, .int .i64 m.e, .int .i64 m.l, u], .int .i64 k] W fun e' w' => e' = .returned (.int .i64 (k + totTo t t.length)) ∧ XR2 lo hi w' u (marks2 t k) ∧ Chg (Rg lo hi) W w' := by
 obtain ⟨ob, bk, h1, h2, h3⟩ := h
 refine (markSystem_any (Rg lo hi) m u t ob bk k W h1 h3 hk hk2).mono ?_
 rintro e' w' ⟨rfl, h4, h5⟩
 refine ⟨rfl, ⟨ob, bk, h4, fun hn => h2 (fun e => by subst e; exact hn rfl), fun j hj hn => ?_⟩, h5⟩
 rw [marks2_len] at hj
 exact h3 j hj ((rowsM_nil hj).1 hn)
theorem totSmall {ls : List (List Int)} (h1 : ls.length ≤ 1048576) (h : ∀ r ∈ ls, r.length ≤ 1048576) : ∀ j, j ≤ ls.length → totTo ls j ≤ 1099511627776 := fun j hj => by
 have := totTo_le (n := 1048576) (fun i hi => h _ (getl_mem hi)) j hj
 have : j * 1048576 ≤ 1048576 * 1048576 := Nat.mul_le_mul_right _ (by omega)
 omega
end Go.Proofs.YtmjplkbmhdkggaaGreat
namespace Go.Proofs.YtmjplkbmhdkggaaGreat
set_option linter.unusedVariables false
set_option linter.unusedSimpArgs false
def noStop (fn : Func) : Bool := (Stop.rowOf fn).isNone
theorem all_chunks {α : Type} (p : α → Bool) (n : Nat) (l : List α) : ∀ k, (∀ j, j < k → ((l.drop (n * j)).take n).all p = true) → l.length ≤ n * k → 0 < n → ∀ x ∈ l, p x = true := by
 intro k h hl hn x hx
 obtain ⟨i, hi, rfl⟩ := List.getElem_of_mem hx
 have hj : i / n < k := by
  rw [Nat.div_lt_iff_lt_mul hn, Nat.mul_comm]; omega
 have := h (i / n) hj
 rw [List.all_eq_true] at this
 refine this _ ?_
 have hm := Nat.div_add_mod i n
 have hlt := Nat.mod_lt i hn
 rw [List.mem_iff_getElem]
 refine ⟨i % n, by simp; omega, ?_⟩
 simp [hm]
theorem stops_none {P : Program} (h : ∀ fn ∈ P.funcs.toList, noStop fn = true) : (P.stops == []) = true ∧ (P.stopKnobs == []) = true ∧ P.stopsHeard = true := by
 have h1 : ∀ fn ∈ P.funcs.toList, Stop.rowOf fn = none := fun fn hf => by have := h fn hf; unfold noStop at this; exact Option.isNone_iff_eq_none.1 this
 refine ⟨?_, ?_, ?_⟩
 ·have : (P.funcs.toList.filterMap fun fn => (Stop.rowOf fn).map (·.name)) = [] := List.filterMap_eq_nil_iff.2 fun fn hf => by rw [h1 fn hf]; rfl
  unfold Program.stops; rw [this]; rfl
 ·have : P.funcs.toList.filterMap Stop.rowOf = [] := List.filterMap_eq_nil_iff.2 fun fn hf => h1 fn hf
  unfold Program.stopKnobs; rw [this]; rfl
 ·unfold Program.stopsHeard
  rw [Array.all_eq_true_iff_forall_mem]
  intro fn hf
  rw [h1 fn (by simpa using hf)]; rfl
theorem chunk0 : ((Tryz.prog.funcs.toList.drop (10 * 0)).take 10).all noStop = true := by kernel_rfl
theorem chunk1 : ((Tryz.prog.funcs.toList.drop (10 * 1)).take 10).all noStop = true := by kernel_rfl
theorem chunk2 : ((Tryz.prog.funcs.toList.drop (10 * 2)).take 10).all noStop = true := by kernel_rfl
theorem chunk3 : ((Tryz.prog.funcs.toList.drop (10 * 3)).take 10).all noStop = true := by kernel_rfl
theorem chunk4 : ((Tryz.prog.funcs.toList.drop (10 * 4)).take 10).all noStop = true := by kernel_rfl
theorem chunk5 : ((Tryz.prog.funcs.toList.drop (10 * 5)).take 10).all noStop = true := by kernel_rfl
theorem chunk6 : ((Tryz.prog.funcs.toList.drop (10 * 6)).take 10).all noStop = true := by kernel_rfl
theorem chunk7 : ((Tryz.prog.funcs.toList.drop (10 * 7)).take 10).all noStop = true := by kernel_rfl
theorem chunk8 : ((Tryz.prog.funcs.toList.drop (10 * 8)).take 10).all noStop = true := by kernel_rfl
theorem chunk9 : ((Tryz.prog.funcs.toList.drop (10 * 9)).take 10).all noStop = true := by kernel_rfl
theorem chunk10 : ((Tryz.prog.funcs.toList.drop (10 * 10)).take 10).all noStop = true := by kernel_rfl
theorem chunk11 : ((Tryz.prog.funcs.toList.drop (10 * 11)).take 10).all noStop = true := by kernel_rfl
theorem chunk12 : ((Tryz.prog.funcs.toList.drop (10 * 12)).take 10).all noStop = true := by kernel_rfl
theorem chunk13 : ((Tryz.prog.funcs.toList.drop (10 * 13)).take 10).all noStop = true := by kernel_rfl
theorem chunk14 : ((Tryz.prog.funcs.toList.drop (10 * 14)).take 10).all noStop = true := by kernel_rfl
theorem chunk15 : ((Tryz.prog.funcs.toList.drop (10 * 15)).take 10).all noStop = true := by kernel_rfl
theorem chunk16 : ((Tryz.prog.funcs.toList.drop (10 * 16)).take 10).all noStop = true := by kernel_rfl
theorem chunk17 : ((Tryz.prog.funcs.toList.drop (10 * 17)).take 10).all noStop = true := by kernel_rfl
theorem chunk18 : ((Tryz.prog.funcs.toList.drop (10 * 18)).take 10).all noStop = true := by kernel_rfl
theorem chunk19 : ((Tryz.prog.funcs.toList.drop (10 * 19)).take 10).all noStop = true := by kernel_rfl
theorem chunk20 : ((Tryz.prog.funcs.toList.drop (10 * 20)).take 10).all noStop = true := by kernel_rfl
theorem chunk21 : ((Tryz.prog.funcs.toList.drop (10 * 21)).take 10).all noStop = true := by kernel_rfl
theorem chunk22 : ((Tryz.prog.funcs.toList.drop (10 * 22)).take 10).all noStop = true := by kernel_rfl
theorem chunk23 : ((Tryz.prog.funcs.toList.drop (10 * 23)).take 10).all noStop = true := by kernel_rfl
theorem chunk24 : ((Tryz.prog.funcs.toList.drop (10 * 24)).take 10).all noStop = true := by kernel_rfl
theorem chunk25 : ((Tryz.prog.funcs.toList.drop (10 * 25)).take 10).all noStop = true := by kernel_rfl
theorem chunk26 : ((Tryz.prog.funcs.toList.drop (10 * 26)).take 10).all noStop = true := by kernel_rfl
theorem chunk27 : ((Tryz.prog.funcs.toList.drop (10 * 27)).take 10).all noStop = true := by kernel_rfl
theorem chunk28 : ((Tryz.prog.funcs.toList.drop (10 * 28)).take 10).all noStop = true := by kernel_rfl
theorem chunk29 : ((Tryz.prog.funcs.toList.drop (10 * 29)).take 10).all noStop = true := by kernel_rfl
theorem chunk30 : ((Tryz.prog.funcs.toList.drop (10 * 30)).take 10).all noStop = true := by kernel_rfl
theorem chunk31 : ((Tryz.prog.funcs.toList.drop (10 * 31)).take 10).all noStop = true := by kernel_rfl
theorem chunk32 : ((Tryz.prog.funcs.toList.drop (10 * 32)).take 10).all noStop = true := by kernel_rfl
theorem chunk33 : ((Tryz.prog.funcs.toList.drop (10 * 33)).take 10).all noStop = true := by kernel_rfl
theorem chunk34 : ((Tryz.prog.funcs.toList.drop (10 * 34)).take 10).all noStop = true := by kernel_rfl
theorem chunk35 : ((Tryz.prog.funcs.toList.drop (10 * 35)).take 10).all noStop = true := by kernel_rfl
theorem chunk36 : ((Tryz.prog.funcs.toList.drop (10 * 36)).take 10).all noStop = true := by kernel_rfl
theorem chunk37 : ((Tryz.prog.funcs.toList.drop (10 * 37)).take 10).all noStop = true := by kernel_rfl
theorem chunk38 : ((Tryz.prog.funcs.toList.drop (10 * 38)).take 10).all noStop = true := by kernel_rfl
theorem chunk39 : ((Tryz.prog.funcs.toList.drop (10 * 39)).take 10).all noStop = true := by kernel_rfl
theorem chunk40 : ((Tryz.prog.funcs.toList.drop (10 * 40)).take 10).all noStop = true := by kernel_rfl
theorem chunk41 : ((Tryz.prog.funcs.toList.drop (10 * 41)).take 10).all noStop = true := by kernel_rfl
theorem chunk42 : ((Tryz.prog.funcs.toList.drop (10 * 42)).take 10).all noStop = true := by kernel_rfl
theorem chunk43 : ((Tryz.prog.funcs.toList.drop (10 * 43)).take 10).all noStop = true := by kernel_rfl
theorem chunk44 : ((Tryz.prog.funcs.toList.drop (10 * 44)).take 10).all noStop = true := by kernel_rfl
theorem chunk45 : ((Tryz.prog.funcs.toList.drop (10 * 45)).take 10).all noStop = true := by kernel_rfl
theorem chunk46 : ((Tryz.prog.funcs.toList.drop (10 * 46)).take 10).all noStop = true := by kernel_rfl
theorem chunk47 : ((Tryz.prog.funcs.toList.drop (10 * 47)).take 10).all noStop = true := by kernel_rfl
theorem few : Tryz.prog.funcs.toList.length ≤ 10 * 48 := of_decide_eq_true (by kernel_rfl)
theorem unstopped0 : (Tryz.prog.stops == []) = true ∧ (Tryz.prog.stopKnobs == []) = true ∧ Tryz.prog.stopsHeard = true :=
 stops_none (all_chunks noStop 10 _ 48 (fun j hj => by
  match j, hj with
  | 0, _ => exact chunk0
  | 1, _ => exact chunk1
  | 2, _ => exact chunk2
  | 3, _ => exact chunk3
  | 4, _ => exact chunk4
  | 5, _ => exact chunk5
  | 6, _ => exact chunk6
  | 7, _ => exact chunk7
  | 8, _ => exact chunk8
  | 9, _ => exact chunk9
  | 10, _ => exact chunk10
  | 11, _ => exact chunk11
  | 12, _ => exact chunk12
  | 13, _ => exact chunk13
  | 14, _ => exact chunk14
  | 15, _ => exact chunk15
  | 16, _ => exact chunk16
  | 17, _ => exact chunk17
  | 18, _ => exact chunk18
  | 19, _ => exact chunk19
  | 20, _ => exact chunk20
  | 21, _ => exact chunk21
  | 22, _ => exact chunk22
  | 23, _ => exact chunk23
  | 24, _ => exact chunk24
  | 25, _ => exact chunk25
  | 26, _ => exact chunk26
  | 27, _ => exact chunk27
  | 28, _ => exact chunk28
  | 29, _ => exact chunk29
  | 30, _ => exact chunk30
  | 31, _ => exact chunk31
  | 32, _ => exact chunk32
  | 33, _ => exact chunk33
  | 34, _ => exact chunk34
  | 35, _ => exact chunk35
  | 36, _ => exact chunk36
  | 37, _ => exact chunk37
  | 38, _ => exact chunk38
  | 39, _ => exact chunk39
  | 40, _ => exact chunk40
  | 41, _ => exact chunk41
  | 42, _ => exact chunk42
  | 43, _ => exact chunk43
  | 44, _ => exact chunk44
  | 45, _ => exact chunk45
  | 46, _ => exact chunk46
  | 47, _ => exact chunk47
  | n + 48, h => omega) few (by decide))
theorem unstopped : (Tryz.pinned.checked.prog.stops == []) = true ∧ (Tryz.pinned.checked.prog.stopKnobs == []) = true ∧ Tryz.pinned.checked.prog.stopsHeard = true := unstopped0
end Go.Proofs.YtmjplkbmhdkggaaGreat
namespace Go.Proofs.YtmjplkbmhdkggaaGreat
open Go.RowKit
set_option linter.unusedVariables false
set_option linter.unusedSimpArgs false
theorem compact_sorted (d : Array Int) (hs : ∀ i j, i ≤ j → j < d.size → d[i]! ≤ d[j]!) : ∀ m, m ≤ d.size →
  (Go.Lib.compactUpTo d m).Pairwise (· < ·) ∧ (∀ x ∈ Go.Lib.compactUpTo d m, ∃ j, j < m ∧ x = d[j]!) ∧ ∀ j, j < m → d[j]! ∈ Go.Lib.compactUpTo d m
 | 0, _ => by
   have : Go.Lib.compactUpTo d 0 = [] := by simp [Go.Lib.compactUpTo]
   rw [this]
   exact ⟨List.Pairwise.nil, by simp, fun j hj => by omega⟩
 | m + 1, hm => by
   obtain ⟨h1, h2, h3⟩ := compact_sorted d hs m (by omega)
   rw [Go.Lib.compactUpTo_succ]
   by_cases hk : Go.Lib.keeps d m = true
   ·rw [if_pos hk]
    refine ⟨?_, ?_, ?_⟩
    ·rw [List.pairwise_append]
     refine ⟨h1, List.pairwise_singleton _ _, fun x hx y hy => ?_⟩
     obtain rfl := List.mem_singleton.1 hy
     obtain ⟨j, hj, rfl⟩ := h2 x hx
     have hne : d[m]! ≠ d[m - 1]! := by
      intro e
      rw [Go.Lib.keeps_neg (by omega) e] at hk
      cases hk
     have ha := hs j (m - 1) (by omega) (by omega)
     have hb := hs (m - 1) m (by omega) (by omega)
     omega
    ·intro x hx
     rcases List.mem_append.1 hx with hx | hx
     ·obtain ⟨j, hj, e⟩ := h2 x hx; exact ⟨j, by omega, e⟩
     ·exact ⟨m, by omega, List.mem_singleton.1 hx⟩
    ·intro j hj
     by_cases e : j = m
     ·subst e; exact List.mem_append.2 (.inr (List.mem_singleton.2 rfl))
     ·exact List.mem_append.2 (.inl (h3 j (by omega)))
   ·rw [if_neg hk, List.append_nil]
    have hm0 : m ≠ 0 := fun e => hk (by subst e; exact Go.Lib.keeps_lt_one d 0 (by omega))
    have he : d[m]! = d[m - 1]! := Classical.byContradiction fun hne => hk (Go.Lib.keeps_pos hne)
    refine ⟨h1, fun x hx => ?_, fun j hj => ?_⟩
    ·obtain ⟨j, hj, e⟩ := h2 x hx; exact ⟨j, by omega, e⟩
    ·by_cases e : j = m
     ·subst e; rw [he]; exact h3 _ (by omega)
     ·exact h3 j (by omega)
def diffI (l : List Int) : List Int := Go.Lib.compact (l.mergeSort fun x y => decide (x ≤ y))
theorem diffI_sort (l : List Int) : (diffI l).Pairwise (· < ·) ∧ ∀ x, x ∈ diffI l ↔ x ∈ l := by
 have hp := List.pairwise_mergeSort (le := fun x y : Int => decide (x ≤ y)) (fun a b c h1 h2 => by simp at *; omega) (fun a b => by simp; omega) l
 have hm : ∀ x, x ∈ (l.mergeSort fun x y => decide (x ≤ y)) ↔ x ∈ l := fun x => List.mem_mergeSort
 unfold diffI Go.Lib.compact
 generalize (l.mergeSort fun x y => decide (x ≤ y)) = z at hp hm
 have hs : ∀ i j, i ≤ j → j < z.toArray.size → z.toArray[i]! ≤ z.toArray[j]! := fun i j hij hj => by
  have hj' : j < z.length := by simpa using hj
  rw [getElem!_pos _ i (by simpa using (show i < z.length by omega)), getElem!_pos _ j hj]
  simp only [List.getElem_toArray]
  by_cases e : i = j
  ·subst e; exact Int.le_refl _
  ·have := List.pairwise_iff_getElem.1 hp i j (by omega) hj' (by omega)
   simpa using this
 obtain ⟨h1, h2, h3⟩ := compact_sorted z.toArray hs z.length (by simp)
 refine ⟨h1, fun x => ?_⟩
 rw [← hm]
 constructor
 ·intro hx
  obtain ⟨j, hj, rfl⟩ := h2 x hx
  rw [getElem!_pos _ j (by simpa using hj)]
  simp
 ·intro hx
  obtain ⟨j, hj, rfl⟩ := List.getElem_of_mem hx
  have := h3 j hj
  rw [getElem!_pos _ j (by simpa using hj)] at this
  simpa using this
end Go.Proofs.YtmjplkbmhdkggaaGreat
