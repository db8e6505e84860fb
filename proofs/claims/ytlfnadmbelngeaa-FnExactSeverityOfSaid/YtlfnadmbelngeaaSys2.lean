/- What the reference answers on systems, and the laws' helpers on them. No conditions. -/
import Derived.Test.YtlfnadmbelngeaaSys
namespace Go.Proofs.Ytlfnadmbelngeaa
open Go.RowKit
set_option linter.unusedVariables false
set_option linter.unusedSimpArgs false

set_option maxRecDepth 100000 in
theorem isSystemR_any {S : Nat → Prop} (m : Mk) (u : Value) (t : List (List Int)) (W : World) (h : V2 S W u t) :
    Calls Try.prog 109 #[.agg #[.int .i64 m.c, .int .i64 m.d, .int .i64 m.s, .int .i64 m.e, .int .i64 m.l, u]] W fun e' w' => e' = .returned (.bool (isSys m t)) ∧ Below W.heap.size W w' := by
  have hV := h
  obtain ⟨a, c, rfl, hm⟩ := h.form
  obtain ⟨W1, hW1, hB01, hz01, HZ01, hc01, hh01⟩ := box_facts W #[.int .i64 m.c, .int .i64 m.d, .int .i64 m.s, .int .i64 m.e, .int .i64 m.l, .slice a t.length c] 34
  have hV1 := hV.below hB01
  cases hok : m.ok
  · have hfin : isSys m t = false := by rw [isSys, hok]; rfl
    have Hf := Lib.hid hfin; clear hfin
    have Hok := Lib.hid hok; clear hok
    go_enter Try.func109, Try.ntmps109
    go_wp2_with fail
    rw [← hW1]
    refine (isMakerR_any _ _ _ _ _ _).mono ?_; rintro e' w2 ⟨rfl, hb_w2⟩; have hB2 := (Below.refl W1.heap.size W1).trans (hb_w2.mono (Below.refl W1.heap.size W1).size)
    rw [show isMk m.c m.d m.s m.e m.l = false from Hok.out]
    clear hc01 hh01
    go_wp2_with fail
    go_ret
    exact ⟨ret_bool Hf.out.symm, hB01.trans (hB2.mono (by omega))⟩
  · cases htab : isTab t
    · have hfin : isSys m t = false := by rw [isSys, htab]; simp
      have Hf := Lib.hid hfin; clear hfin
      have Hok := Lib.hid hok; clear hok
      have Ht := Lib.hid htab; clear htab
      go_enter Try.func109, Try.ntmps109
      go_wp2_with fail
      rw [← hW1]
      refine (isMakerR_any _ _ _ _ _ _).mono ?_; rintro e' w2 ⟨rfl, hb_w2⟩; have hB2 := (Below.refl W1.heap.size W1).trans (hb_w2.mono (Below.refl W1.heap.size W1).size)
      rw [show isMk m.c m.d m.s m.e m.l = true from Hok.out]
      have hx2 : ∀ o, (w2).cell? ⟨W.heap.size, o, none⟩ = (#[.int .i64 m.c, .int .i64 m.d, .int .i64 m.s, .int .i64 m.e, .int .i64 m.l, .slice a t.length c] : Array Value)[o]? := fun o => by rw [(bcell hB2).1 _ _ hz01, hc01]
      clear hc01 hh01
      go_wp2_with (go_at_call 118; refine (isTableR_b _ _ _ _ Ht.out (hV1.below hB2)).mono ?_; rintro e' w' ⟨rfl, n, rfl⟩)
      go_ret
      exact ⟨ret_bool Hf.out.symm, below_drewN (hB01.trans (hB2.mono (by omega))) _⟩
    · have hfin : isSys m t = upAll (doorOpen t) (getl t 0).length 0 := by rw [isSys, hok, htab]; rfl
      have htabs := isTab_iff.1 htab
      obtain ⟨htl, htr⟩ := htabs
      have ht0 := (htr 0 (by omega)).2.1
      have hcols : ∀ k, k < t.length → (getl t k).length = (getl t 0).length := fun k hk => (htr k hk).1
      have Hcols := Lib.hid hcols; clear hcols htr
      have Hf := Lib.hid hfin; clear hfin
      have Hok := Lib.hid hok; clear hok
      have Ht := Lib.hid htab; clear htab
      obtain ⟨b0, off0, a0, c0, rfl, _, hcc0, hr0⟩ := hV1.cell (k := 0) (by omega)
      simp only [Nat.add_zero] at hcc0
      go_enter Try.func109, Try.ntmps109
      go_wp2_with fail
      rw [← hW1]
      refine (isMakerR_any _ _ _ _ _ _).mono ?_; rintro e' w2 ⟨rfl, hb_w2⟩; have hB2 := (Below.refl W1.heap.size W1).trans (hb_w2.mono (Below.refl W1.heap.size W1).size)
      rw [show isMk m.c m.d m.s m.e m.l = true from Hok.out]
      have hx2 : ∀ o, (w2).cell? ⟨W.heap.size, o, none⟩ = (#[.int .i64 m.c, .int .i64 m.d, .int .i64 m.s, .int .i64 m.e, .int .i64 m.l, .slice (some ⟨b0, off0, none⟩) t.length c] : Array Value)[o]? := fun o => by rw [(bcell hB2).1 _ _ hz01, hc01]
      have Hcc0 := Lib.hid hcc0; clear hcc0
      have Hc01 := Lib.hid hc01; clear hc01
      have Hh01 := Lib.hid hh01; clear hh01
      have HW1 := Lib.hid hW1; clear hW1
      go_wp2_with (go_at_call 118; refine (isTableR_b _ _ _ _ Ht.out (hV1.below hB2)).mono ?_; rintro e' w' ⟨rfl, n, rfl⟩)
      have hB2' := below_drewN hB2 n
      have Hx2 := Lib.hid hx2; clear hx2
      go_loopw [3, 4, 5] (fun i _ _ wr => ∃ k : Nat, k ≤ (getl t 0).length ∧ i = .int .i64 k ∧ isSys m t = upAll (doorOpen t) (getl t 0).length k ∧ Below W1.heap.size W1 wr) (fun i _ _ _ => (getl t 0).length - (intOf i).toNat)
      case atStart => exact ⟨0, Nat.zero_le _, rfl, Hf.out, hB2'⟩
      case round =>
        obtain ⟨k, hk, rfl, hrem, hB⟩ := hrel
        have Hr := Lib.hid hrem; clear hrem
        have hx : ∀ o, wr.cell? ⟨W.heap.size, o, none⟩ = (#[.int .i64 m.c, .int .i64 m.d, .int .i64 m.s, .int .i64 m.e, .int .i64 m.l, .slice (some ⟨b0, off0, none⟩) t.length c] : Array Value)[o]? := fun o => by rw [(bcell hB).1 _ _ hz01, Hc01.out]
        have hcc : wr.cell? ⟨b0, off0, none⟩ = some (.slice a0 (getl t 0).length c0) := cell_keep Hcc0.out (hB.block _ (lt_of_cell Hcc0.out))
        by_cases hkk : k < (getl t 0).length
        · go_wp2_with fail
          go_loopw [4, 5] (fun o j w3 => ∃ q : Nat, q ≤ t.length ∧ j = .int .i64 q ∧ o = .bool (doorTo t k q) ∧ w3 = wr) (fun _ j _ => t.length - (intOf j).toNat)
          case atStart => exact ⟨0, Nat.zero_le _, rfl, rfl, rfl⟩
          case round =>
            obtain ⟨q, hq, rfl, rfl, rfl⟩ := hrel
            by_cases hqq : q < t.length
            · obtain ⟨b1, off1, a1, c1, e1, _, hc1, hr1⟩ := (hV1.below hB).cell hqq
              simp only [Option.some.injEq, Addr.mk.injEq, and_true] at e1
              obtain ⟨rfl, rfl⟩ := e1
              have hkq : k < (getl t q).length := by rw [Hcols.out q hqq]; exact hkk
              obtain ⟨b2, off2, rfl, _, hc2⟩ := hr1.cell hkq
              have hll := hr1.len
              unfold maxLen at hll
              cases hd : doorTo t k q
              · have hst : doorTo t k (q + 1) = decide (geti (getl t q) k = 1) := by rw [doorTo, hd]; rfl
                have Hst := Lib.hid hst; clear hst
                have Hd := Lib.hid hd; clear hd
                go_wp2_with fail
                all_goals go_roundw
                all_goals first | (case rel => exact ⟨q + 1, by omega, by go_num, by rw [Hst.out]; first | rfl | simp_all, by first | rfl | trivial⟩) | skip
                all_goals (simp [intOf]; omega)
              · have hst : doorTo t k (q + 1) = true := by rw [doorTo, hd]; rfl
                have Hst := Lib.hid hst; clear hst
                have Hd := Lib.hid hd; clear hd
                go_wp2_with fail
                go_roundw
                case rel => exact ⟨q + 1, by omega, by go_num, by rw [Hst.out], by first | rfl | trivial⟩
                case measure => simp [intOf]; omega
            · obtain rfl : q = t.length := by omega
              cases hdo : doorTo t k t.length
              · have Hdo := Lib.hid hdo; clear hdo
                go_wp2_with fail
                go_ret
                exact ⟨ret_bool (by rw [Hr.out, upAll_step hkk, doorOpen, Hdo.out]; rfl), hB01.trans (hB.mono (by omega))⟩
              · have Hdo := Lib.hid hdo; clear hdo
                go_wp2_with fail
                go_roundw
                case rel => exact ⟨k + 1, by omega, by go_num, by rw [Hr.out, upAll_step hkk, doorOpen, Hdo.out]; rfl, hB⟩
                case measure => simp [intOf]; omega
        · obtain rfl : k = (getl t 0).length := by omega
          go_wp2_with fail
          go_ret
          exact ⟨ret_bool (by rw [Hr.out, upAll_end]), hB01.trans (hB.mono (by omega))⟩

theorem isSystem_b {S : Nat → Prop} (m : Mk) (u : Value) (t : List (List Int)) (W : World) (r : Bool) (hr : isSys m t = r) (h : V2 S W u t) :
    Calls Try.prog 111 #[.agg #[.int .i64 m.c, .int .i64 m.d, .int .i64 m.s, .int .i64 m.e, .int .i64 m.l, u]] W fun e' w' => e' = .returned (.bool r) ∧ Below W.heap.size W w' := by subst hr; exact isSystem_any m u t W h
theorem isSystemR_b {S : Nat → Prop} (m : Mk) (u : Value) (t : List (List Int)) (W : World) (r : Bool) (hr : isSys m t = r) (h : V2 S W u t) :
    Calls Try.prog 109 #[.agg #[.int .i64 m.c, .int .i64 m.d, .int .i64 m.s, .int .i64 m.e, .int .i64 m.l, u]] W fun e' w' => e' = .returned (.bool r) ∧ Below W.heap.size W w' := by subst hr; exact isSystemR_any m u t W h

theorem szSystem_any {S : Nat → Prop} (m : Mk) (u : Value) (t : List (List Int)) (left : Int) (W : World) (h : V2 S W u t) (h0 : 0 ≤ left) (h1 : left ≤ 1048576) :
    Calls Try.prog 10 #[.agg #[.int .i64 m.c, .int .i64 m.d, .int .i64 m.s, .int .i64 m.e, .int .i64 m.l, u], .int .i64 left] W fun e' w' => e' = .returned (.int .i64 (szL t left)) ∧ Below W.heap.size W w' := by
  have hV := h
  obtain ⟨a, c, rfl, hm⟩ := h.form
  have hle := szL_le (ls := t) h0
  have hge : -1 ≤ szL t left := by
    unfold szL
    split
    · omega
    · exact szR_ge _ _ (by omega)
  go_enter Try.func10, Try.ntmps10
  by_cases hneg : szL t left < 0
  · have hm1 : szL t left = -1 := by omega
    have Hm1 := Lib.hid hm1; clear hm1
    go_wp2_with (go_at_call 11; refine (szInt64SS_any _ _ _ _ (hV.below ((Below.refl _ _).alloc (Nat.le_refl _) _)) h0 h1).mono ?_; rintro e' w' ⟨rfl, rfl⟩)
    go_ret
    exact ⟨ret_int (by rw [Hm1.out]), by (repeat (first | (with_reducible refine Below.setCell ?_ ?_ _) | (with_reducible refine Below.alloc ?_ ?_ _) | (with_reducible refine Below.drew ?_) | (with_reducible refine below_drewN ?_ _) | (with_reducible exact Below.refl _ _) | (with_reducible assumption) | (with_reducible refine Below.trans ?_ (Below.mono (by with_reducible assumption) ?_)) | go_size))⟩
  · go_wp2_with (go_at_call 11; refine (szInt64SS_any _ _ _ _ (hV.below ((Below.refl _ _).alloc (Nat.le_refl _) _)) h0 h1).mono ?_; rintro e' w' ⟨rfl, rfl⟩)
    go_ret
    exact ⟨rfl, by (repeat (first | (with_reducible refine Below.setCell ?_ ?_ _) | (with_reducible refine Below.alloc ?_ ?_ _) | (with_reducible refine Below.drew ?_) | (with_reducible refine below_drewN ?_ _) | (with_reducible exact Below.refl _ _) | (with_reducible assumption) | (with_reducible refine Below.trans ?_ (Below.mono (by with_reducible assumption) ?_)) | go_size))⟩

/-- Equal makers. -/
def eqMk (m n : Mk) : Bool := m.c == n.c && (m.d == n.d && (m.s == n.s && (m.e == n.e && m.l == n.l)))
theorem eqMk_self (m : Mk) : eqMk m m = true := by simp [eqMk]
theorem eqMk_iff {m n : Mk} : eqMk m n = true ↔ m = n := by
  obtain ⟨a, b, c, d, e⟩ := m; obtain ⟨a', b', c', d', e'⟩ := n
  simp [eqMk]
theorem eqMaker_any (m n : Mk) (W : World) :
    Calls Try.prog 43 #[.agg #[.int .i64 m.c, .int .i64 m.d, .int .i64 m.s, .int .i64 m.e, .int .i64 m.l], .agg #[.int .i64 n.c, .int .i64 n.d, .int .i64 n.s, .int .i64 n.e, .int .i64 n.l]] W fun e' w' => e' = .returned (.bool (eqMk m n)) ∧ Below W.heap.size W w' := by
  obtain ⟨a, b, c, d, e⟩ := m; obtain ⟨a', b', c', d', e'⟩ := n
  go_enter Try.func43, Try.ntmps43
  go_wp2
  all_goals go_ret
  all_goals exact ⟨by simp_all [eqMk], by (repeat (first | (with_reducible refine Below.setCell ?_ ?_ _) | (with_reducible refine Below.alloc ?_ ?_ _) | (with_reducible refine Below.drew ?_) | (with_reducible refine below_drewN ?_ _) | (with_reducible exact Below.refl _ _) | (with_reducible assumption) | (with_reducible refine Below.trans ?_ (Below.mono (by with_reducible assumption) ?_)) | go_size))⟩

theorem toSystem_any {S : Nat → Prop} (m : Mk) (u : Value) (t : List (List Int)) (W : World) (h : V2 S W u t) (hlen : t.length ≤ 1048576) (hrow : ∀ r ∈ t, r.length ≤ 1048576) :
    Calls Try.prog 13 #[.agg #[.int .i64 m.c, .int .i64 m.d, .int .i64 m.s, .int .i64 m.e, .int .i64 m.l, u]] W fun e' w' => ∃ v', e' = .returned (.agg #[.int .i64 m.c, .int .i64 m.d, .int .i64 m.s, .int .i64 m.e, .int .i64 m.l, v']) ∧ F2 W.heap.size w' v' t ∧ Below W.heap.size W w' := by
  have hV := h
  obtain ⟨a, c, rfl, hm⟩ := h.form
  have Hrow := Lib.hid hrow; clear hrow
  obtain ⟨mc, md, ms, me, ml⟩ := m
  go_enter Try.func13, Try.ntmps13
  go_wp2_with fail
  refine (toMaker_any _ _ _ _ _ _).mono ?_
  rintro e' w2 ⟨rfl, hb2⟩
  have hB2 : Below W.heap.size W w2 := by (repeat (first | (with_reducible refine Below.setCell ?_ ?_ _) | (with_reducible refine Below.alloc ?_ ?_ _) | (with_reducible refine Below.drew ?_) | (with_reducible refine below_drewN ?_ _) | (with_reducible exact Below.refl _ _) | (with_reducible assumption) | (with_reducible refine Below.trans ?_ (Below.mono (by with_reducible assumption) ?_)) | go_size))
  have hz2 := hb2.size
  simp only [World.size_alloc] at hz2
  have hx0 := fun o => (bcell hb2).1 W.heap.size o (by simp; omega)
  have hx1 := fun o => (bcell hb2).1 (W.heap.size + 1) o (by simp)
  have hx2 := fun o => (bcell hb2).1 (W.heap.size + 1 + 1) o (by simp)
  have hf1 := fun o => (bcell hb2).2 (W.heap.size + 1) o (by simp)
  have hf2 := fun o => (bcell hb2).2 (W.heap.size + 1 + 1) o (by simp)
  go_wp2_with fail
  refine (toInt64SS_any _ t _ (hV.below (by (repeat (first | (with_reducible refine Below.setCell ?_ ?_ _) | (with_reducible refine Below.alloc ?_ ?_ _) | (with_reducible refine Below.drew ?_) | (with_reducible refine below_drewN ?_ _) | (with_reducible exact Below.refl _ _) | (with_reducible assumption) | (with_reducible refine Below.trans ?_ (Below.mono (by with_reducible assumption) ?_)) | go_size)))) hlen Hrow.out).mono ?_
  rintro e' w4 ⟨v4, bk, rfl, hx4, hbk, hsz4, hb4⟩
  have hB4 := Below.trans (b := _) (show Below W.heap.size W _ from by (repeat (first | (with_reducible refine Below.setCell ?_ ?_ _) | (with_reducible refine Below.alloc ?_ ?_ _) | (with_reducible refine Below.drew ?_) | (with_reducible refine below_drewN ?_ _) | (with_reducible exact Below.refl _ _) | (with_reducible assumption) | (with_reducible refine Below.trans ?_ (Below.mono (by with_reducible assumption) ?_)) | go_size))) (hb4.mono (by simp; omega))
  have hz4 := hb4.size
  simp only [World.size_setCell] at hz4
  have hy2 := fun o => (bcell hb4).1 (W.heap.size + 1 + 1) o (by simp; omega)
  have hg2 := fun o => (bcell hb4).2 (W.heap.size + 1 + 1) o (by simp; omega)
  have hy1 := fun o => (bcell hb4).1 (W.heap.size + 1) o (by simp; omega)
  have hg1 := fun o => (bcell hb4).2 (W.heap.size + 1) o (by simp; omega)
  obtain ⟨a4, c4, rfl, _⟩ := (hx4.v2 (S := fun _ => True) (fun _ => trivial) (fun _ _ _ => trivial)).form
  have hF4 : F2 (W.heap.size + 3) w4 (.slice a4 t.length c4) t := ⟨_, bk, hx4, fun _ => by simp; omega, fun k hk _ => by have := hbk k hk; simp at this; omega⟩
  have HF4 := Lib.hid hF4; clear hF4 hx4 hbk
  clear hB2
  go_wp2_with fail
  exact bodyPost_ret (v := .agg #[.int .i64 mc, .int .i64 md, .int .i64 ms, .int .i64 me, .int .i64 ml, .slice a4 t.length c4]) (by simp [results, Try.results13, go_sem, hx0, hx1, hx2, hy1, hy2]) rfl
    ⟨_, rfl, (((((((HF4.out.set (by omega)).set (by omega)).set (by omega)).set (by omega)).set (by omega)).set (by omega)).set (by omega)).mono (by omega), by (repeat (first | (with_reducible refine Below.setCell ?_ ?_ _) | (with_reducible refine Below.alloc ?_ ?_ _) | (with_reducible refine Below.drew ?_) | (with_reducible refine below_drewN ?_ _) | (with_reducible exact Below.refl _ _) | (with_reducible assumption) | (with_reducible refine Below.trans ?_ (Below.mono (by with_reducible assumption) ?_)) | go_size))⟩

theorem eqSystem_any {S S' : Nat → Prop} (m n : Mk) (u v : Value) (t s : List (List Int)) (W : World) (h : V2 S W u t) (h' : V2 S' W v s) :
    Calls Try.prog 17 #[.agg #[.int .i64 m.c, .int .i64 m.d, .int .i64 m.s, .int .i64 m.e, .int .i64 m.l, u], .agg #[.int .i64 n.c, .int .i64 n.d, .int .i64 n.s, .int .i64 n.e, .int .i64 n.l, v]] W fun e' w' => e' = .returned (.bool (eqMk m n && decide (t = s))) ∧ Below W.heap.size W w' := by
  have hV := h
  have hV' := h'
  obtain ⟨a, c, rfl, hm⟩ := h.form
  obtain ⟨a', c', rfl, hm'⟩ := h'.form
  cases he : eqMk m n
  · have He := Lib.hid he; clear he
    go_enter Try.func17, Try.ntmps17
    go_wp2_with (go_at_call 43; refine (eqMaker_any m n _).mono ?_; rintro e' w' ⟨rfl, hb⟩; rw [He.out]; have hzB := hb.size; (try simp only [World.size_alloc, World.size_setCell, World.size_drew] at hzB))
    go_ret
    exact ⟨ret_bool (by rfl), by (repeat (first | (with_reducible refine Below.setCell ?_ ?_ _) | (with_reducible refine Below.alloc ?_ ?_ _) | (with_reducible refine Below.drew ?_) | (with_reducible refine below_drewN ?_ _) | (with_reducible exact Below.refl _ _) | (with_reducible assumption) | (with_reducible refine Below.trans ?_ (Below.mono (by with_reducible assumption) ?_)) | go_size))⟩
  · have He := Lib.hid he; clear he
    go_enter Try.func17, Try.ntmps17
    go_wp2_with fail
    refine (eqMaker_any m n _).mono ?_
    rintro e' w2 ⟨rfl, hb2⟩
    rw [He.out]
    have hB2 : Below W.heap.size W w2 := Below.trans (b := _) (show Below W.heap.size W _ from by (repeat (first | (with_reducible refine Below.setCell ?_ ?_ _) | (with_reducible refine Below.alloc ?_ ?_ _) | (with_reducible refine Below.drew ?_) | (with_reducible refine below_drewN ?_ _) | (with_reducible exact Below.refl _ _) | (with_reducible assumption) | (with_reducible refine Below.trans ?_ (Below.mono (by with_reducible assumption) ?_)) | go_size))) (hb2.mono (by simp; omega))
    have hx0 := fun o => (bcell hb2).1 W.heap.size o (by simp; omega)
    have hx1 := fun o => (bcell hb2).1 (W.heap.size + 1) o (by simp)
    cases hd : decide (t = s)
    · have Hd := Lib.hid hd; clear hd
      go_wp2_with (go_at_call 18; refine (eqInt64SS_b _ _ t s _ _ Hd.out (hV.below hB2) (hV'.below hB2)).mono ?_; rintro e' w' ⟨rfl, n, rfl⟩)
      go_ret
      exact ⟨ret_bool (by rw [Hd.out]; rfl), below_drewN hB2 _⟩
    · have Hd := Lib.hid hd; clear hd
      go_wp2_with (go_at_call 18; refine (eqInt64SS_b _ _ t s _ _ Hd.out (hV.below hB2) (hV'.below hB2)).mono ?_; rintro e' w' ⟨rfl, n, rfl⟩)
      go_ret
      exact ⟨ret_bool (by rw [Hd.out]; rfl), below_drewN hB2 _⟩
theorem eqSystem_b {S S' : Nat → Prop} (m n : Mk) (u v : Value) (t s : List (List Int)) (W : World) (r : Bool) (hr : (eqMk m n && decide (t = s)) = r) (h : V2 S W u t) (h' : V2 S' W v s) :
    Calls Try.prog 17 #[.agg #[.int .i64 m.c, .int .i64 m.d, .int .i64 m.s, .int .i64 m.e, .int .i64 m.l, u], .agg #[.int .i64 n.c, .int .i64 n.d, .int .i64 n.s, .int .i64 n.e, .int .i64 n.l, v]] W fun e' w' => e' = .returned (.bool r) ∧ Below W.heap.size W w' := by subst hr; exact eqSystem_any m n u v t s W h h'
end Go.Proofs.Ytlfnadmbelngeaa
