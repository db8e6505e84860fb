/- What the program and the reference answer on systems: the rows that open a door, valid systems. No conditions. -/
import Derived.Test.YtikdbjaimcciiaaGreatKeys
import Derived.Test.YtikdbjaimcciiaaGreatClos
namespace Go.Proofs.YtikdbjaimcciiaaGreat
open Go.RowKit
set_option linter.unusedVariables false
set_option linter.unusedSimpArgs false

/-- The rows that open door d, among the first k. -/
def rowsF (t : List (List Int)) (d : Nat) : Nat → List Int
  | 0 => []
  | k + 1 => if geti (getl t k) d = 1 then rowsF t d k ++ [(k : Int)] else rowsF t d k
theorem rowsF_len (t : List (List Int)) (d : Nat) : ∀ k, (rowsF t d k).length ≤ k
  | 0 => Nat.le_refl _
  | k + 1 => by have := rowsF_len t d k; unfold rowsF; split <;> simp <;> omega
theorem mem_rowsF {t : List (List Int)} {d : Nat} {x : Int} : ∀ {k}, x ∈ rowsF t d k ↔ ∃ i : Nat, i < k ∧ x = i ∧ geti (getl t i) d = 1
  | 0 => by simp [rowsF]
  | k + 1 => by
    unfold rowsF
    split
    · rename_i h
      rw [List.mem_append, mem_rowsF]
      constructor
      · rintro (⟨i, h1, h2, h3⟩ | h1)
        · exact ⟨i, by omega, h2, h3⟩
        · simp at h1; exact ⟨k, by omega, h1, h⟩
      · rintro ⟨i, h1, h2, h3⟩
        by_cases e : i = k
        · subst e; right; simp [h2]
        · exact .inl ⟨i, by omega, h2, h3⟩
    · rename_i h
      rw [mem_rowsF]
      constructor
      · rintro ⟨i, h1, h2, h3⟩; exact ⟨i, by omega, h2, h3⟩
      · rintro ⟨i, h1, h2, h3⟩
        refine ⟨i, ?_, h2, h3⟩
        by_cases e : i = k
        · subst e; exact absurd h3 h
        · omega

set_option maxRecDepth 100000 in
theorem rowsFor_any {S : Nat → Prop} (m : Mk) (u : Value) (t : List (List Int)) (d : Nat) (W : World) (h : V2 S W u t) (hd : ∀ k, k < t.length → d < (getl t k).length) (hlen : t.length ≤ 1000000) :
    Calls Tryz.prog 152 #[.agg #[.int .i64 m.c, .int .i64 m.d, .int .i64 m.s, .int .i64 m.e, .int .i64 m.l, u], .int .i64 d] W fun e' w' => ∃ v', e' = .returned v' ∧ F1 W.heap.size w' v' (rowsF t d t.length) ∧ Below W.heap.size W w' := by
  have hV := h
  obtain ⟨a, c, rfl, hm⟩ := h.form
  have Hd := Lib.hid hd; clear hd
  obtain ⟨W1, hW1, hB01, hz01, HZ01, hc01, hh01⟩ := box_facts W #[.int .i64 m.c, .int .i64 m.d, .int .i64 m.s, .int .i64 m.e, .int .i64 m.l, .slice a t.length c] 28
  go_enter Tryz.func152, Tryz.ntmps152
  go_wp2_with fail
  rw [← hW1]
  have HW1 := Lib.hid hW1; clear hW1
  have hown0 := own_lit0 W1 W1.heap.size 2 1 (Nat.le_refl _)
  have hV1 := hV.below hB01
  go_loopw [5, 6, 7, 12] (fun o _ _ i wr => ∃ k : Nat, k ≤ t.length ∧ i = .int .i64 k ∧ wr.ownsRow W1.heap.size 2 1 o (rowsF t d k).length ((rowsF t d k).map (Value.int .i64)) ∧ Below W1.heap.size W1 wr) (fun _ _ _ i _ => t.length - (intOf i).toNat)
  case atStart => exact ⟨0, Nat.zero_le _, rfl, by rw [← HZ01.out]; simpa [rowsF] using hown0, (Below.refl _ _).alloc (Nat.le_refl _) _⟩
  case round =>
    obtain ⟨k, hk, rfl, hown, hB⟩ := hrel
    have hrl := rowsF_len t d k
    have hzW := hB.size
    by_cases hkk : k < t.length
    · obtain ⟨b1, off1, a1, c1, rfl, _, hc1, hr1⟩ := (hV1.below hB).cell hkk
      obtain ⟨b2, off2, rfl, _, hc2⟩ := hr1.cell (Hd.out k hkk)
      have hdl : d < (getl t k).length := Hd.out k hkk
      have hll := hr1.len
      unfold maxLen at hll
      by_cases h1 : geti (getl t k) d = 1
      · have e1 : (geti (getl t k) d == 1) = true := by simp [h1]
        have hst : rowsF t d (k + 1) = rowsF t d k ++ [(k : Int)] := by rw [rowsF, if_pos h1]
        have Hst := Lib.hid hst; clear hst
        have H1 := Lib.hid h1; clear h1
        go_wp2_with (at_builtin; refine wp_app1 _ rfl _ _ 35 rfl W1.heap.size 2 (.int .i64 0) 8 Tryz.underlying35 inf_int rfl _ _ _ rfl hown (.int .i64 k) _ rfl rfl (by omega) (by omega) (by omega) ?_; intro v1 w1 hown1 hgrow1 hblk1 hB1)
        go_roundw
        case rel => exact ⟨k + 1, by omega, by go_num, by rw [Hst.out, List.map_append, List.length_append]; exact hown1, hB.trans (hB1.mono (Nat.le_refl _))⟩
        case measure => simp [intOf]; omega
      · have e1 : (geti (getl t k) d == 1) = false := by simp [h1]
        have hst : rowsF t d (k + 1) = rowsF t d k := by rw [rowsF, if_neg h1]
        have Hst := Lib.hid hst; clear hst
        have H1 := Lib.hid h1; clear h1
        go_wp2_with fail
        go_roundw
        case rel => exact ⟨k + 1, by omega, by go_num, by rw [Hst.out]; exact hown, hB⟩
        case measure => simp [intOf]; omega
    · obtain rfl : k = t.length := by omega
      go_wp2_with fail
      go_ret
      obtain ⟨b, hx, hb⟩ := own_F1 hown
      exact ⟨_, rfl, ⟨b, hx, fun hn => by have := hb hn; omega⟩, hB01.trans (hB.mono (by omega))⟩

def doorTo (t : List (List Int)) (d : Nat) : Nat → Bool
  | 0 => false
  | k + 1 => doorTo t d k || decide (geti (getl t k) d = 1)
def doorOpen (t : List (List Int)) (d : Nat) : Bool := doorTo t d t.length
theorem doorTo_iff {t : List (List Int)} {d : Nat} : ∀ {k}, doorTo t d k = true ↔ ∃ i, i < k ∧ geti (getl t i) d = 1
  | 0 => by simp [doorTo]
  | k + 1 => by
    simp only [doorTo, Bool.or_eq_true, decide_eq_true_eq, doorTo_iff (k := k)]
    constructor
    · rintro (⟨i, h1, h2⟩ | h)
      · exact ⟨i, by omega, h2⟩
      · exact ⟨k, by omega, h⟩
    · rintro ⟨i, h1, h2⟩
      by_cases e : i = k
      · subst e; exact .inr h2
      · exact .inl ⟨i, by omega, h2⟩
theorem rowsF_door {t : List (List Int)} {d k : Nat} : ((rowsF t d k).length = 0) ↔ doorTo t d k = false := by
  rw [← Bool.not_eq_true, doorTo_iff]
  constructor
  · rintro h ⟨i, h1, h2⟩
    have : (i : Int) ∈ rowsF t d k := mem_rowsF.2 ⟨i, h1, rfl, h2⟩
    rw [List.eq_nil_of_length_eq_zero h] at this
    cases this
  · intro h
    cases hr : rowsF t d k with
    | nil => rfl
    | cons x xs =>
      obtain ⟨i, h1, _, h3⟩ := mem_rowsF.1 (by rw [hr]; exact List.mem_cons_self .. : x ∈ rowsF t d k)
      exact absurd ⟨i, h1, h3⟩ h
/-- p holds from k on, below n. -/
def upAll (p : Nat → Bool) (n k : Nat) : Bool := (List.range' k (n - k)).all p
theorem upAll_step {p : Nat → Bool} {n k : Nat} (h : k < n) : upAll p n k = (p k && upAll p n (k + 1)) := by
  unfold upAll
  rw [show n - k = (n - (k + 1)) + 1 from by omega, List.range'_succ, List.all_cons]
theorem upAll_end {p : Nat → Bool} {n : Nat} : upAll p n n = true := by unfold upAll; rw [Nat.sub_self]; rfl
theorem upAll_iff {p : Nat → Bool} {n : Nat} : upAll p n 0 = true ↔ ∀ i, i < n → p i = true := by
  unfold upAll
  rw [List.all_eq_true]
  constructor
  · intro h i hi; exact h i (List.mem_range'_1.2 ⟨Nat.zero_le _, by omega⟩)
  · intro h i hi; exact h i (by have := List.mem_range'_1.1 hi; omega)
/-- A system: a valid maker, a table, each column with a 1. -/
def isSys (m : Mk) (t : List (List Int)) : Bool := m.ok && (isTab t && upAll (doorOpen t) (getl t 0).length 0)

theorem isTab_iff {t : List (List Int)} : isTab t = true ↔ (1 ≤ t.length ∧ t.length ≤ 10) ∧ ∀ k, k < t.length → (getl t k).length = (getl t 0).length ∧ (1 ≤ (getl t 0).length ∧ (getl t 0).length ≤ 12) ∧ ∀ x ∈ getl t k, 0 ≤ x ∧ x ≤ 1 := by
  simp only [isTab, Bool.and_eq_true, inB_iff, List.all_eq_true, rowOk, decide_eq_true_eq, allB_iff]
  constructor
  · rintro ⟨h1, h2⟩
    refine ⟨by omega, fun k hk => ?_⟩
    obtain ⟨⟨h3, h4⟩, h5⟩ := h2 _ (getl_mem hk)
    exact ⟨h3, by omega, h5⟩
  · rintro ⟨h1, h2⟩
    refine ⟨by omega, fun r hr => ?_⟩
    obtain ⟨k, hk, rfl⟩ := List.getElem_of_mem hr
    have := h2 k hk
    rw [getl_eq hk] at this
    exact ⟨⟨this.1, by omega⟩, this.2.2⟩

set_option maxRecDepth 100000 in
theorem isSystem_any {S : Nat → Prop} (m : Mk) (u : Value) (t : List (List Int)) (W : World) (h : V2 S W u t) :
    Calls Tryz.prog 63 #[.agg #[.int .i64 m.c, .int .i64 m.d, .int .i64 m.s, .int .i64 m.e, .int .i64 m.l, u]] W fun e' w' => e' = .returned (.bool (isSys m t)) ∧ Below W.heap.size W w' := by
  have hV := h
  obtain ⟨a, c, rfl, hm⟩ := h.form
  obtain ⟨W1, hW1, hB01, hz01, HZ01, hc01, hh01⟩ := box_facts W #[.int .i64 m.c, .int .i64 m.d, .int .i64 m.s, .int .i64 m.e, .int .i64 m.l, .slice a t.length c] 28
  have hV1 := hV.below hB01
  cases hok : m.ok
  · have hfin : isSys m t = false := by rw [isSys, hok]; rfl
    have Hf := Lib.hid hfin; clear hfin
    have Hok := Lib.hid hok; clear hok
    go_enter Tryz.func63, Tryz.ntmps63
    go_wp2_with fail
    rw [← hW1]
    refine (isMaker_any _ _ _ _ _ _).mono ?_; rintro e' w2 ⟨rfl, hb_w2⟩; have hB2 := (Below.refl W1.heap.size W1).trans (hb_w2.mono (Below.refl W1.heap.size W1).size)
    rw [show isMk m.c m.d m.s m.e m.l = false from Hok.out]
    clear hc01 hh01
    go_wp2_with fail
    go_ret
    exact ⟨ret_bool Hf.out.symm, hB01.trans (hB2.mono (by omega))⟩
  · cases htab : isTab t
    · have hfin : isSys m t = false := by rw [isSys, htab]; simp
      have Hf := Lib.hid hfin; clear hfin
      have Hok := Lib.hid hok; clear hok
      have Ht := Lib.hid htab; clear htab
      go_enter Tryz.func63, Tryz.ntmps63
      go_wp2_with fail
      rw [← hW1]
      refine (isMaker_any _ _ _ _ _ _).mono ?_; rintro e' w2 ⟨rfl, hb_w2⟩; have hB2 := (Below.refl W1.heap.size W1).trans (hb_w2.mono (Below.refl W1.heap.size W1).size)
      rw [show isMk m.c m.d m.s m.e m.l = true from Hok.out]
      have hx2 : ∀ o, (w2).cell? ⟨W.heap.size, o, none⟩ = (#[.int .i64 m.c, .int .i64 m.d, .int .i64 m.s, .int .i64 m.e, .int .i64 m.l, .slice a t.length c] : Array Value)[o]? := fun o => by rw [(bcell hB2).1 _ _ hz01, hc01]
      clear hc01 hh01
      go_wp2_with (go_at_call 151; refine (isTable_b _ _ _ _ Ht.out (hV1.below hB2)).mono ?_; rintro e' w' ⟨rfl, rfl⟩)
      go_ret
      exact ⟨ret_bool Hf.out.symm, hB01.trans (hB2.mono (by omega))⟩
    · have hfin : isSys m t = upAll (doorOpen t) (getl t 0).length 0 := by rw [isSys, hok, htab]; rfl
      have htabs := isTab_iff.1 htab
      obtain ⟨htl, htr⟩ := htabs
      have ht0 := (htr 0 (by omega)).2.1
      have hcols : ∀ k, k < t.length → (getl t k).length = (getl t 0).length := fun k hk => (htr k hk).1
      have Hcols := Lib.hid hcols; clear hcols htr
      have Hf := Lib.hid hfin; clear hfin
      have Hok := Lib.hid hok; clear hok
      have Ht := Lib.hid htab; clear htab
      obtain ⟨b0, off0, a0, c0, rfl, _, hcc0, hr0⟩ := hV1.cell (k := 0) (by omega)
      simp only [Nat.add_zero] at hcc0
      go_enter Tryz.func63, Tryz.ntmps63
      go_wp2_with fail
      rw [← hW1]
      refine (isMaker_any _ _ _ _ _ _).mono ?_; rintro e' w2 ⟨rfl, hb_w2⟩; have hB2 := (Below.refl W1.heap.size W1).trans (hb_w2.mono (Below.refl W1.heap.size W1).size)
      rw [show isMk m.c m.d m.s m.e m.l = true from Hok.out]
      have hx2 : ∀ o, (w2).cell? ⟨W.heap.size, o, none⟩ = (#[.int .i64 m.c, .int .i64 m.d, .int .i64 m.s, .int .i64 m.e, .int .i64 m.l, .slice (some ⟨b0, off0, none⟩) t.length c] : Array Value)[o]? := fun o => by rw [(bcell hB2).1 _ _ hz01, hc01]
      have hcc2 : w2.cell? ⟨b0, off0, none⟩ = some (.slice a0 (getl t 0).length c0) := cell_keep hcc0 (hB2.block _ (lt_of_cell hcc0))
      have Hc01 := Lib.hid hc01; clear hc01
      have Hh01 := Lib.hid hh01; clear hh01
      have HW1 := Lib.hid hW1; clear hW1
      clear hcc0
      go_wp2_with (go_at_call 151; refine (isTable_b _ _ _ _ Ht.out (hV1.below hB2)).mono ?_; rintro e' w' ⟨rfl, rfl⟩)
      have Hx2 := Lib.hid hx2; clear hx2
      go_loopw [3, 19] (fun _ i wr => ∃ k : Nat, k ≤ (getl t 0).length ∧ i = .int .i64 k ∧ isSys m t = upAll (doorOpen t) (getl t 0).length k ∧ Below W1.heap.size W1 wr) (fun _ i _ => (getl t 0).length - (intOf i).toNat)
      case atStart => exact ⟨0, Nat.zero_le _, rfl, Hf.out, hB2⟩
      case round =>
        obtain ⟨k, hk, rfl, hrem, hB⟩ := hrel
        have Hr := Lib.hid hrem; clear hrem
        have hx : ∀ o, wr.cell? ⟨W.heap.size, o, none⟩ = (#[.int .i64 m.c, .int .i64 m.d, .int .i64 m.s, .int .i64 m.e, .int .i64 m.l, .slice (some ⟨b0, off0, none⟩) t.length c] : Array Value)[o]? := fun o => by rw [(bcell hB).1 _ _ hz01, Hc01.out]
        by_cases hkk : k < (getl t 0).length
        · have hdd : ∀ j, j < t.length → k < (getl t j).length := fun j hj => by rw [Hcols.out j hj]; exact hkk
          have Hdd := Lib.hid hdd; clear hdd
          go_wp2_with fail
          refine (rowsFor_any m _ t k _ (hV1.below hB) Hdd.out (by omega)).mono ?_
          rintro e' w3 ⟨v3, rfl, hF, hb3⟩
          have hB3 := hB.trans (hb3.mono hB.size)
          obtain ⟨a3, c3, rfl, hl3⟩ := hF.v1.form
          cases hdo : doorOpen t k
          · have hz : (rowsF t k t.length).length = 0 := rowsF_door.2 hdo
            have e1 : (((rowsF t k t.length).length : Int) == 0) = true := by simp [hz]
            have Hdo := Lib.hid hdo; clear hdo
            have Hz := Lib.hid hz; clear hz
            go_wp2_with fail
            go_ret
            exact ⟨ret_bool (by rw [Hr.out, upAll_step hkk, Hdo.out]; rfl), hB01.trans (hB3.mono (by omega))⟩
          · have hz : (rowsF t k t.length).length ≠ 0 := fun e => by
              have := rowsF_door.1 e
              rw [doorOpen, this] at hdo; cases hdo
            have e1 : (((rowsF t k t.length).length : Int) == 0) = false := by simp; simpa using hz
            have Hdo := Lib.hid hdo; clear hdo
            have Hz := Lib.hid hz; clear hz
            go_wp2_with fail
            go_roundw
            case rel => exact ⟨k + 1, by omega, by go_num, by rw [Hr.out, upAll_step hkk, Hdo.out]; rfl, hB3⟩
            case measure => simp [intOf]; omega
        · obtain rfl : k = (getl t 0).length := by omega
          go_wp2_with fail
          go_ret
          exact ⟨ret_bool (by rw [Hr.out, upAll_end]), hB01.trans (hB.mono (by omega))⟩
end Go.Proofs.YtikdbjaimcciiaaGreat

namespace Go.Proofs.YtikdbjaimcciiaaGreat
open Go.RowKit
set_option linter.unusedVariables false
set_option linter.unusedSimpArgs false

set_option maxRecDepth 100000 in
theorem isSystemR_any {S : Nat → Prop} (m : Mk) (u : Value) (t : List (List Int)) (W : World) (h : V2 S W u t) :
    Calls Tryz.prog 129 #[.agg #[.int .i64 m.c, .int .i64 m.d, .int .i64 m.s, .int .i64 m.e, .int .i64 m.l, u]] W fun e' w' => e' = .returned (.bool (isSys m t)) ∧ Below W.heap.size W w' := by
  have hV := h
  obtain ⟨a, c, rfl, hm⟩ := h.form
  obtain ⟨W1, hW1, hB01, hz01, HZ01, hc01, hh01⟩ := box_facts W #[.int .i64 m.c, .int .i64 m.d, .int .i64 m.s, .int .i64 m.e, .int .i64 m.l, .slice a t.length c] 28
  have hV1 := hV.below hB01
  cases hok : m.ok
  · have hfin : isSys m t = false := by rw [isSys, hok]; rfl
    have Hf := Lib.hid hfin; clear hfin
    have Hok := Lib.hid hok; clear hok
    go_enter Tryz.func129, Tryz.ntmps129
    go_wp2_with fail
    rw [← hW1]
    refine (isMakerR_any _ _ _ _ _ _).mono ?_; rintro e' w2 ⟨rfl, hb_w2⟩; have hB2 := (Below.refl W1.heap.size W1).trans (hb_w2.mono (Below.refl W1.heap.size W1).size)
    rw [show isMk m.c m.d m.s m.e m.l = false from Hok.out]
    clear hc01 hh01
    go_wp2_with fail
    go_ret
    exact ⟨ret_bool Hf.out.symm, hB01.trans (hB2.mono (by omega))⟩
  · cases htab : isTab t
    · have hfin : isSys m t = false := by rw [isSys, htab]; simp
      have Hf := Lib.hid hfin; clear hfin
      have Hok := Lib.hid hok; clear hok
      have Ht := Lib.hid htab; clear htab
      go_enter Tryz.func129, Tryz.ntmps129
      go_wp2_with fail
      rw [← hW1]
      refine (isMakerR_any _ _ _ _ _ _).mono ?_; rintro e' w2 ⟨rfl, hb_w2⟩; have hB2 := (Below.refl W1.heap.size W1).trans (hb_w2.mono (Below.refl W1.heap.size W1).size)
      rw [show isMk m.c m.d m.s m.e m.l = true from Hok.out]
      have hx2 : ∀ o, (w2).cell? ⟨W.heap.size, o, none⟩ = (#[.int .i64 m.c, .int .i64 m.d, .int .i64 m.s, .int .i64 m.e, .int .i64 m.l, .slice a t.length c] : Array Value)[o]? := fun o => by rw [(bcell hB2).1 _ _ hz01, hc01]
      clear hc01 hh01
      go_wp2_with (go_at_call 196; refine (isTableR_b _ _ _ _ Ht.out (hV1.below hB2)).mono ?_; rintro e' w' ⟨rfl, n, rfl⟩)
      go_ret
      exact ⟨ret_bool Hf.out.symm, below_drewN (hB01.trans (hB2.mono (by omega))) _⟩
    · have hfin : isSys m t = upAll (doorOpen t) (getl t 0).length 0 := by rw [isSys, hok, htab]; rfl
      have htabs := isTab_iff.1 htab
      obtain ⟨htl, htr⟩ := htabs
      have ht0 := (htr 0 (by omega)).2.1
      have hcols : ∀ k, k < t.length → (getl t k).length = (getl t 0).length := fun k hk => (htr k hk).1
      have Hcols := Lib.hid hcols; clear hcols htr
      have Hf := Lib.hid hfin; clear hfin
      have Hok := Lib.hid hok; clear hok
      have Ht := Lib.hid htab; clear htab
      obtain ⟨b0, off0, a0, c0, rfl, _, hcc0, hr0⟩ := hV1.cell (k := 0) (by omega)
      simp only [Nat.add_zero] at hcc0
      go_enter Tryz.func129, Tryz.ntmps129
      go_wp2_with fail
      rw [← hW1]
      refine (isMakerR_any _ _ _ _ _ _).mono ?_; rintro e' w2 ⟨rfl, hb_w2⟩; have hB2 := (Below.refl W1.heap.size W1).trans (hb_w2.mono (Below.refl W1.heap.size W1).size)
      rw [show isMk m.c m.d m.s m.e m.l = true from Hok.out]
      have hx2 : ∀ o, (w2).cell? ⟨W.heap.size, o, none⟩ = (#[.int .i64 m.c, .int .i64 m.d, .int .i64 m.s, .int .i64 m.e, .int .i64 m.l, .slice (some ⟨b0, off0, none⟩) t.length c] : Array Value)[o]? := fun o => by rw [(bcell hB2).1 _ _ hz01, hc01]
      have Hcc0 := Lib.hid hcc0; clear hcc0
      have Hc01 := Lib.hid hc01; clear hc01
      have Hh01 := Lib.hid hh01; clear hh01
      have HW1 := Lib.hid hW1; clear hW1
      go_wp2_with (go_at_call 196; refine (isTableR_b _ _ _ _ Ht.out (hV1.below hB2)).mono ?_; rintro e' w' ⟨rfl, n, rfl⟩)
      have hB2' := below_drewN hB2 n
      have Hx2 := Lib.hid hx2; clear hx2
      go_loopw [3, 4, 5] (fun i _ _ wr => ∃ k : Nat, k ≤ (getl t 0).length ∧ i = .int .i64 k ∧ isSys m t = upAll (doorOpen t) (getl t 0).length k ∧ Below W1.heap.size W1 wr) (fun i _ _ _ => (getl t 0).length - (intOf i).toNat)
      case atStart => exact ⟨0, Nat.zero_le _, rfl, Hf.out, hB2'⟩
      case round =>
        obtain ⟨k, hk, rfl, hrem, hB⟩ := hrel
        have Hr := Lib.hid hrem; clear hrem
        have hx : ∀ o, wr.cell? ⟨W.heap.size, o, none⟩ = (#[.int .i64 m.c, .int .i64 m.d, .int .i64 m.s, .int .i64 m.e, .int .i64 m.l, .slice (some ⟨b0, off0, none⟩) t.length c] : Array Value)[o]? := fun o => by rw [(bcell hB).1 _ _ hz01, Hc01.out]
        have hcc : wr.cell? ⟨b0, off0, none⟩ = some (.slice a0 (getl t 0).length c0) := cell_keep Hcc0.out (hB.block _ (lt_of_cell Hcc0.out))
        by_cases hkk : k < (getl t 0).length
        · go_wp2_with fail
          go_loopw [4, 5] (fun o j w3 => ∃ q : Nat, q ≤ t.length ∧ j = .int .i64 q ∧ o = .bool (doorTo t k q) ∧ w3 = wr) (fun _ j _ => t.length - (intOf j).toNat)
          case atStart => exact ⟨0, Nat.zero_le _, rfl, rfl, rfl⟩
          case round =>
            obtain ⟨q, hq, rfl, rfl, rfl⟩ := hrel
            by_cases hqq : q < t.length
            · obtain ⟨b1, off1, a1, c1, e1, _, hc1, hr1⟩ := (hV1.below hB).cell hqq
              simp only [Option.some.injEq, Addr.mk.injEq, and_true] at e1
              obtain ⟨rfl, rfl⟩ := e1
              have hkq : k < (getl t q).length := by rw [Hcols.out q hqq]; exact hkk
              obtain ⟨b2, off2, rfl, _, hc2⟩ := hr1.cell hkq
              have hll := hr1.len
              unfold maxLen at hll
              cases hd : doorTo t k q
              · have hst : doorTo t k (q + 1) = decide (geti (getl t q) k = 1) := by rw [doorTo, hd]; rfl
                have Hst := Lib.hid hst; clear hst
                have Hd := Lib.hid hd; clear hd
                go_wp2_with fail
                all_goals go_roundw
                all_goals first | (case rel => exact ⟨q + 1, by omega, by go_num, by rw [Hst.out]; first | rfl | simp_all, by first | rfl | trivial⟩) | skip
                all_goals (simp [intOf]; omega)
              · have hst : doorTo t k (q + 1) = true := by rw [doorTo, hd]; rfl
                have Hst := Lib.hid hst; clear hst
                have Hd := Lib.hid hd; clear hd
                go_wp2_with fail
                go_roundw
                case rel => exact ⟨q + 1, by omega, by go_num, by rw [Hst.out], by first | rfl | trivial⟩
                case measure => simp [intOf]; omega
            · obtain rfl : q = t.length := by omega
              cases hdo : doorTo t k t.length
              · have Hdo := Lib.hid hdo; clear hdo
                go_wp2_with fail
                go_ret
                exact ⟨ret_bool (by rw [Hr.out, upAll_step hkk, doorOpen, Hdo.out]; rfl), hB01.trans (hB.mono (by omega))⟩
              · have Hdo := Lib.hid hdo; clear hdo
                go_wp2_with fail
                go_roundw
                case rel => exact ⟨k + 1, by omega, by go_num, by rw [Hr.out, upAll_step hkk, doorOpen, Hdo.out]; rfl, hB⟩
                case measure => simp [intOf]; omega
        · obtain rfl : k = (getl t 0).length := by omega
          go_wp2_with fail
          go_ret
          exact ⟨ret_bool (by rw [Hr.out, upAll_end]), hB01.trans (hB.mono (by omega))⟩

theorem isSystem_b {S : Nat → Prop} (m : Mk) (u : Value) (t : List (List Int)) (W : World) (r : Bool) (hr : isSys m t = r) (h : V2 S W u t) :
    Calls Tryz.prog 63 #[.agg #[.int .i64 m.c, .int .i64 m.d, .int .i64 m.s, .int .i64 m.e, .int .i64 m.l, u]] W fun e' w' => e' = .returned (.bool r) ∧ Below W.heap.size W w' := by subst hr; exact isSystem_any m u t W h
theorem isSystemR_b {S : Nat → Prop} (m : Mk) (u : Value) (t : List (List Int)) (W : World) (r : Bool) (hr : isSys m t = r) (h : V2 S W u t) :
    Calls Tryz.prog 129 #[.agg #[.int .i64 m.c, .int .i64 m.d, .int .i64 m.s, .int .i64 m.e, .int .i64 m.l, u]] W fun e' w' => e' = .returned (.bool r) ∧ Below W.heap.size W w' := by subst hr; exact isSystemR_any m u t W h

theorem szSystem_any {S : Nat → Prop} (m : Mk) (u : Value) (t : List (List Int)) (left : Int) (W : World) (h : V2 S W u t) (h0 : 0 ≤ left) (h1 : left ≤ 1048576) :
    Calls Tryz.prog 26 #[.agg #[.int .i64 m.c, .int .i64 m.d, .int .i64 m.s, .int .i64 m.e, .int .i64 m.l, u], .int .i64 left] W fun e' w' => e' = .returned (.int .i64 (szL t left)) ∧ Below W.heap.size W w' := by
  have hV := h
  obtain ⟨a, c, rfl, hm⟩ := h.form
  have hle := szL_le (ls := t) h0
  have hge : -1 ≤ szL t left := by
    unfold szL
    split
    · omega
    · exact szR_ge _ _ (by omega)
  go_enter Tryz.func26, Tryz.ntmps26
  by_cases hneg : szL t left < 0
  · have hm1 : szL t left = -1 := by omega
    have Hm1 := Lib.hid hm1; clear hm1
    go_wp2_with (go_at_call 27; refine (szInt64SS_any _ _ _ _ (hV.below ((Below.refl _ _).alloc (Nat.le_refl _) _)) h0 h1).mono ?_; rintro e' w' ⟨rfl, rfl⟩)
    go_ret
    exact ⟨ret_int (by rw [Hm1.out]), by (repeat (first | (with_reducible refine Below.setCell ?_ ?_ _) | (with_reducible refine Below.alloc ?_ ?_ _) | (with_reducible refine Below.drew ?_) | (with_reducible refine below_drewN ?_ _) | (with_reducible exact Below.refl _ _) | (with_reducible assumption) | (with_reducible refine Below.trans ?_ (Below.mono (by with_reducible assumption) ?_)) | go_size))⟩
  · go_wp2_with (go_at_call 27; refine (szInt64SS_any _ _ _ _ (hV.below ((Below.refl _ _).alloc (Nat.le_refl _) _)) h0 h1).mono ?_; rintro e' w' ⟨rfl, rfl⟩)
    go_ret
    exact ⟨rfl, by (repeat (first | (with_reducible refine Below.setCell ?_ ?_ _) | (with_reducible refine Below.alloc ?_ ?_ _) | (with_reducible refine Below.drew ?_) | (with_reducible refine below_drewN ?_ _) | (with_reducible exact Below.refl _ _) | (with_reducible assumption) | (with_reducible refine Below.trans ?_ (Below.mono (by with_reducible assumption) ?_)) | go_size))⟩

/-- Equal makers. -/
def eqMk (m n : Mk) : Bool := m.c == n.c && (m.d == n.d && (m.s == n.s && (m.e == n.e && m.l == n.l)))
theorem eqMk_self (m : Mk) : eqMk m m = true := by simp [eqMk]
theorem eqMk_iff {m n : Mk} : eqMk m n = true ↔ m = n := by
  obtain ⟨a, b, c, d, e⟩ := m; obtain ⟨a', b', c', d', e'⟩ := n
  simp [eqMk]
theorem eqMaker_any (m n : Mk) (W : World) :
    Calls Tryz.prog 112 #[.agg #[.int .i64 m.c, .int .i64 m.d, .int .i64 m.s, .int .i64 m.e, .int .i64 m.l], .agg #[.int .i64 n.c, .int .i64 n.d, .int .i64 n.s, .int .i64 n.e, .int .i64 n.l]] W fun e' w' => e' = .returned (.bool (eqMk m n)) ∧ Below W.heap.size W w' := by
  obtain ⟨a, b, c, d, e⟩ := m; obtain ⟨a', b', c', d', e'⟩ := n
  go_enter Tryz.func112, Tryz.ntmps112
  go_wp2
  all_goals go_ret
  all_goals exact ⟨by simp_all [eqMk], by (repeat (first | (with_reducible refine Below.setCell ?_ ?_ _) | (with_reducible refine Below.alloc ?_ ?_ _) | (with_reducible refine Below.drew ?_) | (with_reducible refine below_drewN ?_ _) | (with_reducible exact Below.refl _ _) | (with_reducible assumption) | (with_reducible refine Below.trans ?_ (Below.mono (by with_reducible assumption) ?_)) | go_size))⟩

theorem toSystem_any {S : Nat → Prop} (m : Mk) (u : Value) (t : List (List Int)) (W : World) (h : V2 S W u t) (hlen : t.length ≤ 1048576) (hrow : ∀ r ∈ t, r.length ≤ 1048576) :
    Calls Tryz.prog 29 #[.agg #[.int .i64 m.c, .int .i64 m.d, .int .i64 m.s, .int .i64 m.e, .int .i64 m.l, u]] W fun e' w' => ∃ v', e' = .returned (.agg #[.int .i64 m.c, .int .i64 m.d, .int .i64 m.s, .int .i64 m.e, .int .i64 m.l, v']) ∧ F2 W.heap.size w' v' t ∧ Below W.heap.size W w' := by
  have hV := h
  obtain ⟨a, c, rfl, hm⟩ := h.form
  have Hrow := Lib.hid hrow; clear hrow
  obtain ⟨mc, md, ms, me, ml⟩ := m
  go_enter Tryz.func29, Tryz.ntmps29
  go_wp2_with fail
  refine (toMaker_any _ _ _ _ _ _).mono ?_
  rintro e' w2 ⟨rfl, hb2⟩
  have hB2 : Below W.heap.size W w2 := by (repeat (first | (with_reducible refine Below.setCell ?_ ?_ _) | (with_reducible refine Below.alloc ?_ ?_ _) | (with_reducible refine Below.drew ?_) | (with_reducible refine below_drewN ?_ _) | (with_reducible exact Below.refl _ _) | (with_reducible assumption) | (with_reducible refine Below.trans ?_ (Below.mono (by with_reducible assumption) ?_)) | go_size))
  have hz2 := hb2.size
  simp only [World.size_alloc] at hz2
  have hx0 := fun o => (bcell hb2).1 W.heap.size o (by simp; omega)
  have hx1 := fun o => (bcell hb2).1 (W.heap.size + 1) o (by simp)
  have hx2 := fun o => (bcell hb2).1 (W.heap.size + 1 + 1) o (by simp)
  have hf1 := fun o => (bcell hb2).2 (W.heap.size + 1) o (by simp)
  have hf2 := fun o => (bcell hb2).2 (W.heap.size + 1 + 1) o (by simp)
  go_wp2_with fail
  refine (toInt64SS_any _ t _ (hV.below (by (repeat (first | (with_reducible refine Below.setCell ?_ ?_ _) | (with_reducible refine Below.alloc ?_ ?_ _) | (with_reducible refine Below.drew ?_) | (with_reducible refine below_drewN ?_ _) | (with_reducible exact Below.refl _ _) | (with_reducible assumption) | (with_reducible refine Below.trans ?_ (Below.mono (by with_reducible assumption) ?_)) | go_size)))) hlen Hrow.out).mono ?_
  rintro e' w4 ⟨v4, bk, rfl, hx4, hbk, ⟨hsz4, _⟩, hb4⟩
  have hB4 := Below.trans (b := _) (show Below W.heap.size W _ from by (repeat (first | (with_reducible refine Below.setCell ?_ ?_ _) | (with_reducible refine Below.alloc ?_ ?_ _) | (with_reducible refine Below.drew ?_) | (with_reducible refine below_drewN ?_ _) | (with_reducible exact Below.refl _ _) | (with_reducible assumption) | (with_reducible refine Below.trans ?_ (Below.mono (by with_reducible assumption) ?_)) | go_size))) (hb4.mono (by simp; omega))
  have hz4 := hb4.size
  simp only [World.size_setCell] at hz4
  have hy2 := fun o => (bcell hb4).1 (W.heap.size + 1 + 1) o (by simp; omega)
  have hg2 := fun o => (bcell hb4).2 (W.heap.size + 1 + 1) o (by simp; omega)
  have hy1 := fun o => (bcell hb4).1 (W.heap.size + 1) o (by simp; omega)
  have hg1 := fun o => (bcell hb4).2 (W.heap.size + 1) o (by simp; omega)
  obtain ⟨a4, c4, rfl, _⟩ := (hx4.v2 (S := fun _ => True) (fun _ => trivial) (fun _ _ _ => trivial)).form
  have hF4 : F2 (W.heap.size + 3) w4 (.slice a4 t.length c4) t := ⟨_, bk, hx4, fun _ => by simp; omega, fun k hk _ => by have := hbk k hk; simp at this; omega⟩
  have HF4 := Lib.hid hF4; clear hF4 hx4 hbk
  clear hB2
  go_wp2_with fail
  exact bodyPost_ret (v := .agg #[.int .i64 mc, .int .i64 md, .int .i64 ms, .int .i64 me, .int .i64 ml, .slice a4 t.length c4]) (by simp [results, Tryz.results29, go_sem, hx0, hx1, hx2, hy1, hy2]) rfl
    ⟨_, rfl, (((((((HF4.out.set (by omega)).set (by omega)).set (by omega)).set (by omega)).set (by omega)).set (by omega)).set (by omega)).mono (by omega), by (repeat (first | (with_reducible refine Below.setCell ?_ ?_ _) | (with_reducible refine Below.alloc ?_ ?_ _) | (with_reducible refine Below.drew ?_) | (with_reducible refine below_drewN ?_ _) | (with_reducible exact Below.refl _ _) | (with_reducible assumption) | (with_reducible refine Below.trans ?_ (Below.mono (by with_reducible assumption) ?_)) | go_size))⟩

theorem eqSystem_any {S S' : Nat → Prop} (m n : Mk) (u v : Value) (t s : List (List Int)) (W : World) (h : V2 S W u t) (h' : V2 S' W v s) :
    Calls Tryz.prog 33 #[.agg #[.int .i64 m.c, .int .i64 m.d, .int .i64 m.s, .int .i64 m.e, .int .i64 m.l, u], .agg #[.int .i64 n.c, .int .i64 n.d, .int .i64 n.s, .int .i64 n.e, .int .i64 n.l, v]] W fun e' w' => e' = .returned (.bool (eqMk m n && decide (t = s))) ∧ Below W.heap.size W w' := by
  have hV := h
  have hV' := h'
  obtain ⟨a, c, rfl, hm⟩ := h.form
  obtain ⟨a', c', rfl, hm'⟩ := h'.form
  cases he : eqMk m n
  · have He := Lib.hid he; clear he
    go_enter Tryz.func33, Tryz.ntmps33
    go_wp2_with (go_at_call 112; refine (eqMaker_any m n _).mono ?_; rintro e' w' ⟨rfl, hb⟩; rw [He.out]; have hzB := hb.size; (try simp only [World.size_alloc, World.size_setCell, World.size_drew] at hzB))
    go_ret
    exact ⟨ret_bool (by rfl), by (repeat (first | (with_reducible refine Below.setCell ?_ ?_ _) | (with_reducible refine Below.alloc ?_ ?_ _) | (with_reducible refine Below.drew ?_) | (with_reducible refine below_drewN ?_ _) | (with_reducible exact Below.refl _ _) | (with_reducible assumption) | (with_reducible refine Below.trans ?_ (Below.mono (by with_reducible assumption) ?_)) | go_size))⟩
  · have He := Lib.hid he; clear he
    go_enter Tryz.func33, Tryz.ntmps33
    go_wp2_with fail
    refine (eqMaker_any m n _).mono ?_
    rintro e' w2 ⟨rfl, hb2⟩
    rw [He.out]
    have hB2 : Below W.heap.size W w2 := Below.trans (b := _) (show Below W.heap.size W _ from by (repeat (first | (with_reducible refine Below.setCell ?_ ?_ _) | (with_reducible refine Below.alloc ?_ ?_ _) | (with_reducible refine Below.drew ?_) | (with_reducible refine below_drewN ?_ _) | (with_reducible exact Below.refl _ _) | (with_reducible assumption) | (with_reducible refine Below.trans ?_ (Below.mono (by with_reducible assumption) ?_)) | go_size))) (hb2.mono (by simp; omega))
    have hx0 := fun o => (bcell hb2).1 W.heap.size o (by simp; omega)
    have hx1 := fun o => (bcell hb2).1 (W.heap.size + 1) o (by simp)
    cases hd : decide (t = s)
    · have Hd := Lib.hid hd; clear hd
      go_wp2_with (go_at_call 32; refine (eqInt64SS_b _ _ t s _ _ Hd.out (hV.below hB2) (hV'.below hB2)).mono ?_; rintro e' w' ⟨rfl, n, rfl⟩)
      go_ret
      exact ⟨ret_bool (by rw [Hd.out]; rfl), below_drewN hB2 _⟩
    · have Hd := Lib.hid hd; clear hd
      go_wp2_with (go_at_call 32; refine (eqInt64SS_b _ _ t s _ _ Hd.out (hV.below hB2) (hV'.below hB2)).mono ?_; rintro e' w' ⟨rfl, n, rfl⟩)
      go_ret
      exact ⟨ret_bool (by rw [Hd.out]; rfl), below_drewN hB2 _⟩
theorem eqSystem_b {S S' : Nat → Prop} (m n : Mk) (u v : Value) (t s : List (List Int)) (W : World) (r : Bool) (hr : (eqMk m n && decide (t = s)) = r) (h : V2 S W u t) (h' : V2 S' W v s) :
    Calls Tryz.prog 33 #[.agg #[.int .i64 m.c, .int .i64 m.d, .int .i64 m.s, .int .i64 m.e, .int .i64 m.l, u], .agg #[.int .i64 n.c, .int .i64 n.d, .int .i64 n.s, .int .i64 n.e, .int .i64 n.l, v]] W fun e' w' => e' = .returned (.bool r) ∧ Below W.heap.size W w' := by subst hr; exact eqSystem_any m n u v t s W h h'
end Go.Proofs.YtikdbjaimcciiaaGreat
