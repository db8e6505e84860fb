/- What the program and the reference answer on tables: equal lists, membership, valid tables, different rows. No conditions. -/
import Derived.Test.YtikdbjaimcciiaaGreatCopy
import Derived.Test.YtikdbjaimcciiaaGreatMaker
namespace Go.Proofs.YtikdbjaimcciiaaGreat
open Go.RowKit
set_option linter.unusedVariables false
set_option linter.unusedSimpArgs false

theorem l01Same_q {S S' : Nat → Prop} (va vb : Value) (a b : List Int) (W : World) (ha : V1 S W va a) (hb : V1 S' W vb b) :
    Calls Tryz.prog 221 #[va, vb] W fun e' w' => e' = .returned (.bool (decide (a = b))) ∧ ∃ n, w' = W.drewN n := by
  have hA := ha
  have hB := hb
  obtain ⟨pa, ca, rfl, hma⟩ := ha.form
  obtain ⟨pb, cb, rfl, hmb⟩ := hb.form
  by_cases hl : a.length = b.length
  · have hle : ((a.length : Int) == (b.length : Int)) = true := by simp; omega
    have hle2 : ((a.length : Int) != (b.length : Int)) = false := by simp; omega
    have Hl := Lib.hid hl; clear hl
    go_enter Tryz.func221, Tryz.ntmps221
    go_wp2_with fail
    go_loopw [5] (fun i wr => ∃ (k n : Nat), k ≤ a.length ∧ i = .int .i64 k ∧ a.take k = b.take k ∧ wr = W.drewN n) (fun i _ => a.length - (intOf i).toNat)
    case atStart => exact ⟨0, 0, Nat.zero_le _, rfl, rfl, rfl⟩
    case round =>
      obtain ⟨k, n, hk, rfl, hpre, rfl⟩ := hrel
      have Hpre := Lib.hid hpre; clear hpre
      by_cases hkk : k < a.length
      · have hkb : k < b.length := by rw [← Hl.out]; exact hkk
        obtain ⟨b1, off1, rfl, _, hc1⟩ := hA.cell hkk
        obtain ⟨b2, off2, rfl, _, hc2⟩ := hB.cell hkb
        by_cases he : geti a k = geti b k
        · have e1 : (geti a k == geti b k) = true := by simp [he]
          have e2 : (geti a k != geti b k) = false := by simp [he]
          have He := Lib.hid he; clear he
          go_wp2_with fail
          go_quiet (fail)
          go_wp2_with fail
          go_roundw
          case rel => exact ⟨k + 1, _, by omega, by go_num, by rw [take_geti hkk, take_geti hkb, Hpre.out, He.out], rfl⟩
          case measure => simp [intOf]; omega
        · have hne : decide (a = b) = false := decide_eq_false (fun e => he (by rw [e]))
          have e1 : (geti a k == geti b k) = false := by simp [he]
          have e2 : (geti a k != geti b k) = true := by simp [he]
          have Hne := Lib.hid hne; clear hne
          have He := Lib.hid he; clear he
          go_wp2_with fail
          go_quiet (fail)
          go_wp2_with fail
          go_ret
          exact ⟨ret_bool Hne.out.symm, _, by first | rfl | rw [World.drewN_drewN]⟩
      · have hab : a = b := by
          have := Hpre.out
          rw [List.take_of_length_le (by omega), List.take_of_length_le (by rw [← Hl.out]; omega)] at this
          exact this
        have heq : decide (a = b) = true := decide_eq_true hab
        have Heq := Lib.hid heq; clear heq hab
        go_wp2_with fail
        go_ret
        exact ⟨ret_bool Heq.out.symm, _, rfl⟩
  · have hne : decide (a = b) = false := decide_eq_false (fun e => hl (by rw [e]))
    rw [hne]
    have hne2 : ((a.length : Int) == (b.length : Int)) = false := by simp; omega
    have hne3 : ((a.length : Int) != (b.length : Int)) = true := by simp; omega
    clear hne
    go_enter Tryz.func221, Tryz.ntmps221
    go_wp2_with fail
    go_ret
    exact ⟨rfl, 0, rfl⟩
theorem l01Same_b {S S' : Nat → Prop} (va vb : Value) (a b : List Int) (W : World) (r : Bool) (hr : decide (a = b) = r) (ha : V1 S W va a) (hb : V1 S' W vb b) :
    Calls Tryz.prog 221 #[va, vb] W fun e' w' => e' = .returned (.bool r) ∧ ∃ n, w' = W.drewN n := by
  subst hr; exact l01Same_q va vb a b W ha hb


theorem slEqual_q {S S' : Nat → Prop} (va vb : Value) (a b : List Int) (W : World) (ha : V1 S W va a) (hb : V1 S' W vb b) :
    Calls Tryz.prog 100 #[va, vb] W fun e' w' => e' = .returned (.bool (decide (a = b))) ∧ ∃ n, w' = W.drewN n := by
  have hA := ha
  have hB := hb
  obtain ⟨pa, ca, rfl, hma⟩ := ha.form
  obtain ⟨pb, cb, rfl, hmb⟩ := hb.form
  by_cases hl : a.length = b.length
  · have hle : ((a.length : Int) == (b.length : Int)) = true := by simp; omega
    have hle2 : ((a.length : Int) != (b.length : Int)) = false := by simp; omega
    have Hl := Lib.hid hl; clear hl
    go_enter Tryz.func100, Tryz.ntmps100
    go_wp2_with fail
    go_loopw [13] (fun i wr => ∃ (k n : Nat), k ≤ a.length ∧ i = .int .i64 k ∧ a.take k = b.take k ∧ wr = W.drewN n) (fun i _ => a.length - (intOf i).toNat)
    case atStart => exact ⟨0, 0, Nat.zero_le _, rfl, rfl, rfl⟩
    case round =>
      obtain ⟨k, n, hk, rfl, hpre, rfl⟩ := hrel
      have Hpre := Lib.hid hpre; clear hpre
      by_cases hkk : k < a.length
      · have hkb : k < b.length := by rw [← Hl.out]; exact hkk
        obtain ⟨b1, off1, rfl, _, hc1⟩ := hA.cell hkk
        obtain ⟨b2, off2, rfl, _, hc2⟩ := hB.cell hkb
        by_cases he : geti a k = geti b k
        · have e1 : (geti a k == geti b k) = true := by simp [he]
          have e2 : (geti a k != geti b k) = false := by simp [he]
          have He := Lib.hid he; clear he
          go_wp2_with fail
          go_quiet (fail)
          go_wp2_with fail
          go_roundw
          case rel => exact ⟨k + 1, _, by omega, by go_num, by rw [take_geti hkk, take_geti hkb, Hpre.out, He.out], rfl⟩
          case measure => simp [intOf]; omega
        · have hne : decide (a = b) = false := decide_eq_false (fun e => he (by rw [e]))
          have e1 : (geti a k == geti b k) = false := by simp [he]
          have e2 : (geti a k != geti b k) = true := by simp [he]
          have Hne := Lib.hid hne; clear hne
          have He := Lib.hid he; clear he
          go_wp2_with fail
          go_quiet (fail)
          go_wp2_with fail
          go_ret
          exact ⟨ret_bool Hne.out.symm, _, by first | rfl | rw [World.drewN_drewN]⟩
      · have hab : a = b := by
          have := Hpre.out
          rw [List.take_of_length_le (by omega), List.take_of_length_le (by rw [← Hl.out]; omega)] at this
          exact this
        have heq : decide (a = b) = true := decide_eq_true hab
        have Heq := Lib.hid heq; clear heq hab
        go_wp2_with fail
        go_ret
        exact ⟨ret_bool Heq.out.symm, _, rfl⟩
  · have hne : decide (a = b) = false := decide_eq_false (fun e => hl (by rw [e]))
    rw [hne]
    have hne2 : ((a.length : Int) == (b.length : Int)) = false := by simp; omega
    have hne3 : ((a.length : Int) != (b.length : Int)) = true := by simp; omega
    clear hne
    go_enter Tryz.func100, Tryz.ntmps100
    go_wp2_with fail
    go_ret
    exact ⟨rfl, 0, rfl⟩
theorem slEqual_b {S S' : Nat → Prop} (va vb : Value) (a b : List Int) (W : World) (r : Bool) (hr : decide (a = b) = r) (ha : V1 S W va a) (hb : V1 S' W vb b) :
    Calls Tryz.prog 100 #[va, vb] W fun e' w' => e' = .returned (.bool r) ∧ ∃ n, w' = W.drewN n := by
  subst hr; exact slEqual_q va vb a b W ha hb


def hasL (ls : List (List Int)) (l : List Int) : Bool := ls.any fun o => decide (o = l)
theorem hasL_iff {ls : List (List Int)} {l : List Int} : hasL ls l = true ↔ l ∈ ls := by
  simp only [hasL, List.any_eq_true, decide_eq_true_eq]
  constructor
  · rintro ⟨x, hx, rfl⟩; exact hx
  · intro h; exact ⟨l, h, rfl⟩
theorem any_step {α : Type} (p : α → Bool) {l : List α} {k : Nat} (h : k < l.length) : (l.drop k).any p = (p l[k] || (l.drop (k + 1)).any p) := by
  rw [List.drop_eq_getElem_cons h, List.any_cons]
theorem hasL_step {ls : List (List Int)} {k : Nat} (h : k < ls.length) (l : List Int) : hasL (ls.drop k) l = (decide (getl ls k = l) || hasL (ls.drop (k + 1)) l) := by
  unfold hasL; rw [any_step _ h, getl_eq h]

theorem l14Has_q {S S' : Nat → Prop} (v u : Value) (ls : List (List Int)) (l : List Int) (W : World) (h : V2 S W v ls) (hl : V1 S' W u l) :
    Calls Tryz.prog 176 #[v, u] W fun e' w' => e' = .returned (.bool (hasL ls l)) ∧ ∃ n, w' = W.drewN n := by
  have hV := h
  obtain ⟨a, c, rfl, hm⟩ := h.form
  go_enter Tryz.func176, Tryz.ntmps176
  go_wp2_with fail
  go_loopw [5] (fun i wr => ∃ (k n : Nat), k ≤ ls.length ∧ i = .int .i64 k ∧ hasL ls l = hasL (ls.drop k) l ∧ wr = W.drewN n) (fun i _ => ls.length - (intOf i).toNat)
  case atStart => exact ⟨0, 0, Nat.zero_le _, rfl, rfl, rfl⟩
  case round =>
    obtain ⟨k, n, hk, rfl, hrem, rfl⟩ := hrel
    have Hr := Lib.hid hrem; clear hrem
    by_cases hkk : k < ls.length
    · obtain ⟨b1, off1, a1, c1, rfl, _, hc1, hr1⟩ := hV.cell hkk
      by_cases he : getl ls k = l
      · have E1 := Lib.hid (decide_eq_true he)
        have He := Lib.hid he; clear he
        go_wp2_with (go_at_call 221; refine (l01Same_b _ _ _ _ _ _ E1.out (V1.drewN hr1) (V1.drewN hl)).mono ?_; rintro e' w' ⟨rfl, m, rfl⟩)
        go_ret
        exact ⟨ret_bool (by rw [Hr.out, hasL_step hkk, E1.out]; rfl), _, by first | rfl | rw [World.drewN_drewN]⟩
      · have E1 := Lib.hid (decide_eq_false he)
        have He := Lib.hid he; clear he
        go_wp2_with (go_at_call 221; refine (l01Same_b _ _ _ _ _ _ E1.out (V1.drewN hr1) (V1.drewN hl)).mono ?_; rintro e' w' ⟨rfl, m, rfl⟩)
        go_roundw
        case rel => exact ⟨k + 1, _, by omega, by go_num, by rw [Hr.out, hasL_step hkk, E1.out]; rfl, by first | rfl | rw [World.drewN_drewN]⟩
        case measure => simp [intOf]; omega
    · have hd : ls.drop k = [] := List.drop_of_length_le (by omega)
      have Hd := Lib.hid hd; clear hd
      go_wp2_with fail
      go_ret
      exact ⟨ret_bool (by rw [Hr.out, Hd.out]; rfl), _, by first | rfl | rw [World.drewN_drewN]⟩

theorem l14Has_b {S S' : Nat → Prop} (v u : Value) (ls : List (List Int)) (l : List Int) (W : World) (r : Bool) (hr : hasL ls l = r) (h : V2 S W v ls) (hl : V1 S' W u l) :
    Calls Tryz.prog 176 #[v, u] W fun e' w' => e' = .returned (.bool r) ∧ ∃ n, w' = W.drewN n := by subst hr; exact l14Has_q v u ls l W h hl

def allB (l : List Int) (lo hi : Int) : Bool := l.all fun n => inB n lo hi
theorem allB_step {l : List Int} {k : Nat} (h : k < l.length) (lo hi : Int) : allB (l.drop k) lo hi = (inB (geti l k) lo hi && allB (l.drop (k + 1)) lo hi) := all_stepi _ h
theorem allB_iff {l : List Int} {lo hi : Int} : allB l lo hi = true ↔ ∀ n ∈ l, lo ≤ n ∧ n ≤ hi := by simp [allB, inB_iff]
theorem allWithin_any {S : Nat → Prop} (v : Value) (l : List Int) (lo hi : Int) (W : World) (h : V1 S W v l) :
    Calls Tryz.prog 180 #[v, .int .i64 lo, .int .i64 hi] W fun e' w' => e' = .returned (.bool (allB l lo hi)) ∧ W = w' := by
  have hV := h
  obtain ⟨a, c, rfl, hm⟩ := h.form
  go_enter Tryz.func180, Tryz.ntmps180
  go_wp2_with fail
  go_loop [8, 11] (fun _ i => ∃ k : Nat, k ≤ l.length ∧ i = .int .i64 k ∧ allB l lo hi = allB (l.drop k) lo hi) (fun _ i => l.length - (intOf i).toNat)
  case atStart => exact ⟨0, Nat.zero_le _, rfl, rfl⟩
  case round =>
    obtain ⟨k, hk, rfl, hrem⟩ := hrel
    have Hr := Lib.hid hrem; clear hrem
    by_cases hkk : k < l.length
    · obtain ⟨b1, off1, rfl, _, hc1⟩ := hV.cell hkk
      cases hin : inB (geti l k) lo hi
      · have E1 := Lib.hid hin; clear hin
        go_wp2_with (go_at_call 106; refine (within_b _ _ _ _ _ E1.out).mono ?_; rintro e' w' ⟨rfl, rfl⟩)
        go_ret
        exact ⟨ret_bool (by rw [Hr.out, allB_step hkk, E1.out]; rfl), rfl⟩
      · have E1 := Lib.hid hin; clear hin
        go_wp2_with (go_at_call 106; refine (within_b _ _ _ _ _ E1.out).mono ?_; rintro e' w' ⟨rfl, rfl⟩)
        go_round
        case rel => exact ⟨k + 1, by omega, by go_num, by rw [Hr.out, allB_step hkk, E1.out]; rfl⟩
        case measure => simp [intOf]; omega
    · have hd : l.drop k = [] := List.drop_of_length_le (by omega)
      have Hd := Lib.hid hd; clear hd
      go_wp2_with fail
      go_ret
      exact ⟨ret_bool (by rw [Hr.out, Hd.out]; rfl), rfl⟩

theorem allWithin_b {S : Nat → Prop} (v : Value) (l : List Int) (lo hi : Int) (W : World) (r : Bool) (hr : allB l lo hi = r) (h : V1 S W v l) :
    Calls Tryz.prog 180 #[v, .int .i64 lo, .int .i64 hi] W fun e' w' => e' = .returned (.bool r) ∧ W = w' := by subst hr; exact allWithin_any v l lo hi W h

/-- A row of a table of n columns; a table. -/
def rowOk (n : Nat) (r : List Int) : Bool := decide (r.length = n) && inB r.length 1 12 && allB r 0 1
def isTab (t : List (List Int)) : Bool := inB t.length 1 10 && t.all (rowOk (getl t 0).length)
def rowsOk (n : Nat) (t : List (List Int)) : Bool := t.all (rowOk n)
theorem rowsOk_step {n : Nat} {t : List (List Int)} {k : Nat} (h : k < t.length) : rowsOk n (t.drop k) = (rowOk n (getl t k) && rowsOk n (t.drop (k + 1))) := all_stepl _ h

theorem isTable_any {S : Nat → Prop} (v : Value) (t : List (List Int)) (W : World) (h : V2 S W v t) :
    Calls Tryz.prog 151 #[v] W fun e' w' => e' = .returned (.bool (isTab t)) ∧ W = w' := by
  have hV := h
  obtain ⟨a, c, rfl, hm⟩ := h.form
  have hfin : isTab t = (inB t.length 1 10 && rowsOk (getl t 0).length t) := rfl
  have Hf := Lib.hid hfin; clear hfin
  go_enter Tryz.func151, Tryz.ntmps151
  go_wp2_with fail
  go_loop [4, 7] (fun _ i => ∃ k : Nat, k ≤ t.length ∧ i = .int .i64 k ∧ rowsOk (getl t 0).length t = rowsOk (getl t 0).length (t.drop k)) (fun _ i => t.length - (intOf i).toNat)
  case atStart => exact ⟨0, Nat.zero_le _, rfl, rfl⟩
  case round =>
    obtain ⟨k, hk, rfl, hrem⟩ := hrel
    have Hr := Lib.hid hrem; clear hrem
    by_cases hkk : k < t.length
    · obtain ⟨b1, off1, a1, c1, rfl, _, hc1, hr1⟩ := hV.cell hkk
      obtain ⟨b2, off2, a2, c2, e2, _, hc2, hr2⟩ := hV.cell (k := 0) (by omega)
      simp only [Option.some.injEq, Addr.mk.injEq, and_true] at e2
      obtain ⟨rfl, rfl⟩ := e2
      simp only [Nat.add_zero] at hc2
      have hl1 := hr1.len
      have hl2 := hr2.len
      unfold maxLen at hl1 hl2
      by_cases h1 : (getl t k).length = (getl t 0).length
      · have e1 : (((getl t k).length : Int) == ((getl t 0).length : Int)) = true := by simp; omega
        have e2 : (((getl t k).length : Int) != ((getl t 0).length : Int)) = false := by simp; omega
        by_cases h2 : 1 ≤ (getl t k).length ∧ (getl t k).length ≤ 12
        · cases h3 : allB (getl t k) 0 1
          · have hrow : rowOk (getl t 0).length (getl t k) = false := by simp [rowOk, h3]
            have Hrow := Lib.hid hrow; clear hrow
            have H3 := Lib.hid h3; clear h3
            have H1 := Lib.hid h1; clear h1
            obtain ⟨h2a, h2b⟩ := h2
            go_wp2_with (go_at_call 180; refine (allWithin_b _ _ _ _ _ _ H3.out hr1).mono ?_; rintro e' w' ⟨rfl, rfl⟩)
            go_ret
            exact ⟨ret_bool (by rw [Hf.out, Hr.out, rowsOk_step hkk, Hrow.out]; simp), rfl⟩
          · have hrow : rowOk (getl t 0).length (getl t k) = true := by simp [rowOk, h3, h1, inB_iff]; omega
            have Hrow := Lib.hid hrow; clear hrow
            have H3 := Lib.hid h3; clear h3
            have H1 := Lib.hid h1; clear h1
            obtain ⟨h2a, h2b⟩ := h2
            go_wp2_with (go_at_call 180; refine (allWithin_b _ _ _ _ _ _ H3.out hr1).mono ?_; rintro e' w' ⟨rfl, rfl⟩)
            go_round
            case rel => exact ⟨k + 1, by omega, by go_num, by rw [Hr.out, rowsOk_step hkk, Hrow.out]; rfl⟩
            case measure => simp [intOf]; omega
        · have hrow : rowOk (getl t 0).length (getl t k) = false := by
            have : inB (getl t k).length 1 12 = false := inB_false.2 (by omega)
            simp [rowOk, this]
          have Hrow := Lib.hid hrow; clear hrow
          have H1 := Lib.hid h1; clear h1
          by_cases h4 : (getl t k).length < 1
          · go_wp2_with fail
            go_ret
            exact ⟨ret_bool (by rw [Hf.out, Hr.out, rowsOk_step hkk, Hrow.out]; simp), rfl⟩
          · have h5 : 12 < (getl t k).length := by omega
            clear h2
            go_wp2_with fail
            go_ret
            exact ⟨ret_bool (by rw [Hf.out, Hr.out, rowsOk_step hkk, Hrow.out]; simp), rfl⟩
      · have e1 : (((getl t k).length : Int) == ((getl t 0).length : Int)) = false := by simp; omega
        have e2 : (((getl t k).length : Int) != ((getl t 0).length : Int)) = true := by simp; omega
        have hrow : rowOk (getl t 0).length (getl t k) = false := by simp [rowOk, h1]
        have Hrow := Lib.hid hrow; clear hrow
        go_wp2_with fail
        go_ret
        exact ⟨ret_bool (by rw [Hf.out, Hr.out, rowsOk_step hkk, Hrow.out]; simp), rfl⟩
    · have hd : t.drop k = [] := List.drop_of_length_le (by omega)
      have Hd := Lib.hid hd; clear hd
      go_wp2_with fail
      all_goals go_ret
      · exact ⟨ret_bool (by rw [Hf.out, Hr.out, Hd.out]; simp [rowsOk, inB]; omega), rfl⟩
      · exact ⟨ret_bool (by rw [Hf.out, Hr.out, Hd.out]; simp [rowsOk, inB]; omega), rfl⟩

theorem isTableR_q {S : Nat → Prop} (v : Value) (t : List (List Int)) (W : World) (h : V2 S W v t) :
    Calls Tryz.prog 196 #[v] W fun e' w' => e' = .returned (.bool (isTab t)) ∧ ∃ n, w' = W.drewN n := by
  have hV := h
  obtain ⟨a, c, rfl, hm⟩ := h.form
  have hfin : isTab t = (inB t.length 1 10 && rowsOk (getl t 0).length t) := rfl
  have Hf := Lib.hid hfin; clear hfin
  cases h0 : inB t.length 1 10
  · have H0 := Lib.hid h0; clear h0
    go_enter Tryz.func196, Tryz.ntmps196
    go_wp2_with (go_at_call 102; refine (l01In_b _ _ _ _ _ H0.out).mono ?_; rintro e' w' ⟨rfl, rfl⟩)
    go_ret
    exact ⟨ret_bool (by rw [Hf.out, H0.out]; rfl), 0, rfl⟩
  · have H0 := Lib.hid h0; clear h0
    go_enter Tryz.func196, Tryz.ntmps196
    go_wp2_with (go_at_call 102; refine (l01In_b _ _ _ _ _ H0.out).mono ?_; rintro e' w' ⟨rfl, rfl⟩)
    go_loopw [3] (fun i wr => ∃ k n : Nat, k ≤ t.length ∧ i = .int .i64 k ∧ rowsOk (getl t 0).length t = rowsOk (getl t 0).length (t.drop k) ∧ wr = W.drewN n) (fun i _ => t.length - (intOf i).toNat)
    case atStart => exact ⟨0, 0, Nat.zero_le _, rfl, rfl, rfl⟩
    case round =>
      obtain ⟨k, n, hk, rfl, hrem, rfl⟩ := hrel
      have Hr := Lib.hid hrem; clear hrem
      by_cases hkk : k < t.length
      · obtain ⟨b1, off1, a1, c1, rfl, _, hc1, hr1⟩ := hV.cell hkk
        obtain ⟨b2, off2, a2, c2, e2, _, hc2, hr2⟩ := hV.cell (k := 0) (by omega)
        simp only [Option.some.injEq, Addr.mk.injEq, and_true] at e2
        obtain ⟨rfl, rfl⟩ := e2
        simp only [Nat.add_zero] at hc2
        have hl1 := hr1.len
        have hl2 := hr2.len
        unfold maxLen at hl1 hl2
        by_cases h1 : (getl t k).length = (getl t 0).length
        · have e1 : (((getl t k).length : Int) == ((getl t 0).length : Int)) = true := by simp; omega
          have e2 : (((getl t k).length : Int) != ((getl t 0).length : Int)) = false := by simp; omega
          cases h2 : inB (getl t k).length 1 12
          · have hrow : rowOk (getl t 0).length (getl t k) = false := by simp [rowOk, h2]
            have Hrow := Lib.hid hrow; clear hrow
            have H2 := Lib.hid h2; clear h2
            have H1 := Lib.hid h1; clear h1
            go_wp2_with fail
            go_quiet ((go_at_call 102; first | exact quiet_same (l01In_b _ _ _ _ _ H2.out) | exact quiet_same0 (l01In_b _ _ _ _ _ H2.out)))
            go_wp2_with fail
            go_ret
            exact ⟨ret_bool (by rw [Hf.out, Hr.out, rowsOk_step hkk, Hrow.out]; simp), _, by first | rfl | rw [World.drewN_drewN]⟩
          · have hrow : rowOk (getl t 0).length (getl t k) = allB (getl t k) 0 1 := by simp [rowOk, h1, h2]; intro _; rw [← h1, h2]
            have Hrow := Lib.hid hrow; clear hrow
            have H2 := Lib.hid h2; clear h2
            have H1 := Lib.hid h1; clear h1
            go_wp2_with fail
            go_quiet ((go_at_call 102; first | exact quiet_same (l01In_b _ _ _ _ _ H2.out) | exact quiet_same0 (l01In_b _ _ _ _ _ H2.out)))
            go_wp2_with fail
            go_loopw [4] (fun j wr => ∃ m n' : Nat, m ≤ (getl t k).length ∧ j = .int .i64 m ∧ allB (getl t k) 0 1 = allB ((getl t k).drop m) 0 1 ∧ wr = W.drewN n') (fun j _ => (getl t k).length - (intOf j).toNat)
            case atStart => exact ⟨0, _, Nat.zero_le _, rfl, rfl, by first | rfl | rw [World.drewN_drewN]⟩
            case round =>
              obtain ⟨m, n', hmm, rfl, hremj, rfl⟩ := hrel
              have Hj := Lib.hid hremj; clear hremj
              by_cases hmk : m < (getl t k).length
              · obtain ⟨b3, off3, rfl, _, hc3⟩ := hr1.cell hmk
                cases hin : inB (geti (getl t k) m) 0 1
                · have E1 := Lib.hid hin; clear hin
                  go_wp2_with (go_at_call 102; refine (l01In_b _ _ _ _ _ E1.out).mono ?_; rintro e' w' ⟨rfl, rfl⟩)
                  go_ret
                  exact ⟨ret_bool (by rw [Hf.out, Hr.out, rowsOk_step hkk, Hrow.out, Hj.out, allB_step hmk, E1.out]; simp), _, by first | rfl | rw [World.drewN_drewN]⟩
                · have E1 := Lib.hid hin; clear hin
                  go_wp2_with (go_at_call 102; refine (l01In_b _ _ _ _ _ E1.out).mono ?_; rintro e' w' ⟨rfl, rfl⟩)
                  go_roundw
                  case rel => exact ⟨m + 1, _, by omega, by go_num, by rw [Hj.out, allB_step hmk, E1.out]; rfl, by first | rfl | rw [World.drewN_drewN]⟩
                  case measure => simp [intOf]; omega
              · have hd : (getl t k).drop m = [] := List.drop_of_length_le (by omega)
                have Hd := Lib.hid hd; clear hd
                go_wp2_with fail
                go_roundw
                case rel => exact ⟨k + 1, _, by omega, by go_num, by rw [Hr.out, rowsOk_step hkk, Hrow.out, Hj.out, Hd.out]; rfl, by first | rfl | rw [World.drewN_drewN]⟩
                case measure => simp [intOf]; omega
        · have e1 : (((getl t k).length : Int) == ((getl t 0).length : Int)) = false := by simp; omega
          have e2 : (((getl t k).length : Int) != ((getl t 0).length : Int)) = true := by simp; omega
          have hrow : rowOk (getl t 0).length (getl t k) = false := by simp [rowOk, h1]
          have Hrow := Lib.hid hrow; clear hrow
          go_wp2_with fail
          go_quiet (fail)
          go_wp2_with fail
          go_ret
          exact ⟨ret_bool (by rw [Hf.out, Hr.out, rowsOk_step hkk, Hrow.out]; simp), _, by first | rfl | rw [World.drewN_drewN]⟩
      · have hd : t.drop k = [] := List.drop_of_length_le (by omega)
        have Hd := Lib.hid hd; clear hd
        go_wp2_with fail
        go_ret
        exact ⟨ret_bool (by rw [Hf.out, Hr.out, Hd.out, H0.out]; rfl), _, by first | rfl | rw [World.drewN_drewN]⟩

theorem isTable_b {S : Nat → Prop} (v : Value) (t : List (List Int)) (W : World) (r : Bool) (hr : isTab t = r) (h : V2 S W v t) :
    Calls Tryz.prog 151 #[v] W fun e' w' => e' = .returned (.bool r) ∧ W = w' := by subst hr; exact isTable_any v t W h
theorem isTableR_b {S : Nat → Prop} (v : Value) (t : List (List Int)) (W : World) (r : Bool) (hr : isTab t = r) (h : V2 S W v t) :
    Calls Tryz.prog 196 #[v] W fun e' w' => e' = .returned (.bool r) ∧ ∃ n, w' = W.drewN n := by subst hr; exact isTableR_q v t W h

/-- How many different rows there are. -/
def diffTo (t : List (List Int)) : Nat → Nat
  | 0 => 0
  | k + 1 => diffTo t k + if hasL (t.take k) (getl t k) = true then 0 else 1
def diffR (t : List (List Int)) : Nat := diffTo t t.length
theorem diffTo_le (t : List (List Int)) : ∀ k, diffTo t k ≤ k
  | 0 => Nat.le_refl _
  | k + 1 => by have := diffTo_le t k; unfold diffTo; split <;> omega

end Go.Proofs.YtikdbjaimcciiaaGreat
