/- Lists of designs: the laws' comparisons and marks. No conditions. -/
import Derived.Test.YtikdbjaimcciiaaGreatRange
import Derived.Test.YtikdbjaimcciiaaGreatMOutT
namespace Go.Proofs.YtikdbjaimcciiaaGreat
open Go.RowKit
set_option linter.unusedVariables false
set_option linter.unusedSimpArgs false

theorem V3.form3 {S : Nat → Prop} {w : World} {v : Value} {l : List (List (List Int))} (h : V3 S w v l) : ∃ a c, v = .slice a l.length c ∧ l.length ≤ 9223372036854775807 := by
  obtain ⟨a, c, rfl, h1, h2, _⟩ := h
  exact ⟨a, c, rfl, by unfold maxLen at h2; omega⟩
theorem V3.cell3 {S : Nat → Prop} {w : World} {a : Option Addr} {n c k : Nat} {l : List (List (List Int))} (h : V3 S w (.slice a n c) l) (hk : k < l.length) : ∃ b off a' c', a = some ⟨b, off, none⟩ ∧ S b ∧ w.cell? ⟨b, off + k, none⟩ = some (.slice a' (getll l k).length c') ∧ V2 S w (.slice a' (getll l k).length c') (getll l k) := by
  obtain ⟨a', c', e, hl, hm, h⟩ := h
  simp only [Value.slice.injEq] at e
  obtain ⟨rfl, rfl, rfl⟩ := e
  obtain ⟨b, off, ev, ha, hb, hc, hr⟩ := h k hk
  have hr' := hr
  obtain ⟨a2, c2, rfl, _⟩ := hr
  exact ⟨b, off, a2, c2, ha, hb, hc, hr'⟩
theorem take_getll3 {l : List (List (List Int))} {k : Nat} (h : k < l.length) : l.take (k + 1) = l.take k ++ [getll l k] := take_getll h
set_option maxRecDepth 100000 in
theorem eqInt64SSS_q {S S' : Nat → Prop} (va vb : Value) (a b : List (List (List Int))) (W : World) (ha : V3 S W va a) (hb : V3 S' W vb b) :
    Calls Tryz.prog 39 #[va, vb] W fun e' w' => e' = .returned (.bool (decide (a = b))) ∧ ∃ n, w' = W.drewN n := by
  have hA := ha
  have hB := hb
  obtain ⟨pa, ca, rfl, hma⟩ := ha.form3
  obtain ⟨pb, cb, rfl, hmb⟩ := hb.form3
  by_cases hl : a.length = b.length
  · have hle : ((a.length : Int) == (b.length : Int)) = true := by simp; omega
    have hle2 : ((a.length : Int) != (b.length : Int)) = false := by simp; omega
    have Hl := Lib.hid hl; clear hl
    go_enter Tryz.func39, Tryz.ntmps39
    go_wp2_with fail
    go_loopw [5] (fun i wr => ∃ (k n : Nat), k ≤ a.length ∧ i = .int .i64 k ∧ a.take k = b.take k ∧ wr = W.drewN n) (fun i _ => a.length - (intOf i).toNat)
    case atStart => exact ⟨0, 0, Nat.zero_le _, rfl, rfl, rfl⟩
    case round =>
      obtain ⟨k, n, hk, rfl, hpre, rfl⟩ := hrel
      have Hpre := Lib.hid hpre; clear hpre
      by_cases hkk : k < a.length
      · have hkb : k < b.length := by rw [← Hl.out]; exact hkk
        obtain ⟨b1, off1, a1, c1, rfl, _, hc1, hr1⟩ := hA.cell3 hkk
        obtain ⟨b2, off2, a2, c2, rfl, _, hc2, hr2⟩ := hB.cell3 hkb
        by_cases he : getll a k = getll b k
        · have e1 : decide (getll a k = getll b k) = true := decide_eq_true he
          have He := Lib.hid he; clear he
          have E1 := Lib.hid e1; clear e1
          go_wp2_with fail
          go_quiet ((go_at_call 32; exact quiet_at (eqInt64SS_b _ _ _ _ _ _ E1.out (V2.drewN hr1) (V2.drewN hr2))))
          go_wp2_with fail
          go_roundw
          case rel => exact ⟨k + 1, _, by omega, by go_num, by rw [take_getll hkk, take_getll hkb, Hpre.out, He.out], by first | rfl | rw [World.drewN_drewN]⟩
          case measure => simp [intOf]; omega
        · have hne : decide (a = b) = false := decide_eq_false (fun e => he (by rw [e]))
          have e1 : decide (getll a k = getll b k) = false := decide_eq_false he
          have Hne := Lib.hid hne; clear hne
          have He := Lib.hid he; clear he
          have E1 := Lib.hid e1; clear e1
          go_wp2_with fail
          go_quiet ((go_at_call 32; exact quiet_at (eqInt64SS_b _ _ _ _ _ _ E1.out (V2.drewN hr1) (V2.drewN hr2))))
          go_wp2_with fail
          go_ret
          exact ⟨ret_bool Hne.out.symm, _, by first | rfl | rw [World.drewN_drewN]⟩
      · have hab : a = b := by
          have := Hpre.out
          rw [List.take_of_length_le (by omega), List.take_of_length_le (by rw [← Hl.out]; omega)] at this
          exact this
        have heq : decide (a = b) = true := decide_eq_true hab
        have Heq := Lib.hid heq; clear heq hab
        go_wp2_with fail
        go_ret
        exact ⟨ret_bool Heq.out.symm, _, rfl⟩
  · have hle : ((a.length : Int) == (b.length : Int)) = false := by simp; omega
    have hle2 : ((a.length : Int) != (b.length : Int)) = true := by simp; omega
    have hne : decide (a = b) = false := decide_eq_false (fun e => hl (by rw [e]))
    have Hne := Lib.hid hne; clear hne
    have Hl := Lib.hid hl; clear hl
    go_enter Tryz.func39, Tryz.ntmps39
    go_wp2_with fail
    go_ret
    exact ⟨ret_bool Hne.out.symm, 0, rfl⟩
theorem eqInt64SSS_b {S S' : Nat → Prop} (va vb : Value) (a b : List (List (List Int))) (W : World) (r : Bool) (hr : decide (a = b) = r) (ha : V3 S W va a) (hb : V3 S' W vb b) :
    Calls Tryz.prog 39 #[va, vb] W fun e' w' => e' = .returned (.bool r) ∧ ∃ n, w' = W.drewN n := by
  subst hr; exact eqInt64SSS_q va vb a b W ha hb

/-- A list of designs between two sizes of the heap: each design between two sizes of its own. -/
def XR3 (lo hi : Nat) (w : World) (v : Value) (ds : List (List (List Int))) : Prop :=
  ∃ a c ob off cs e, ∃ L U : Nat → Nat, v = .slice a ds.length c ∧ ds.length ≤ c ∧ c ≤ maxLen ∧ (ds ≠ [] → a = some ⟨ob, off, none⟩ ∧ w.heap[ob]? = some (.cells cs e (0, 0)) ∧ lo ≤ ob ∧ ob < hi) ∧
    (∀ k, k < ds.length → ∃ rv, cs[off + k]? = some rv ∧ XR2 (L k) (U k) w rv (getll ds k)) ∧
    (∀ k, k < ds.length → lo ≤ L k ∧ L k ≤ U k ∧ U k ≤ hi ∧ (ob < L k ∨ U k ≤ ob) ∧ ∀ j, j < k → U j ≤ L k)
theorem ds_ne {ds : List (List (List Int))} {k : Nat} (h : k < ds.length) : ds ≠ [] := by intro e; subst e; simp at h
section
variable {lo hi lo' hi' s B : Nat} {w w' : World} {v : Value} {ds : List (List (List Int))}
theorem XR3.of_Out3 {L U : Nat → Nat} {vs : List Value} (h : Out3 B L U w v vs ds) : XR3 B w.heap.size w v ds := by
  have hv := h.own.1
  rcases h.own.2 with ⟨rfl, h0⟩ | ⟨g, cap, cur, rfl, hb, hh, hc, hm, hs, ht⟩
  · have : ds = [] := List.eq_nil_of_length_eq_zero h0
    subst this
    exact ⟨none, 0, 0, 0, #[], 2, L, U, rfl, Nat.le_refl _, Nat.zero_le _, fun hn => absurd rfl hn, fun k hk => by simp at hk, fun k hk => by simp at hk⟩
  · refine ⟨_, cap, g, 0, cur, _, L, U, rfl, hc, hm, fun _ => ⟨rfl, hh, hb, lt_of_heap hh⟩, fun k hk => ?_, fun k hk => ?_⟩
    · obtain ⟨rv, h4, h5⟩ := h.each k hk
      refine ⟨rv, ?_, h5⟩
      have h6 : (cur.toList.take (ds.length * 1))[k]? = vs[k]? := by rw [ht]
      rw [List.getElem?_take, if_pos (by omega), h4] at h6
      rw [Nat.zero_add, ← Array.getElem?_toList, h6]
    · obtain ⟨h1, h2, h3, h4, h5⟩ := h.apart k hk
      exact ⟨h1, h2, h3, h4 g rfl, h5⟩
theorem XR3.keep (h : XR3 lo hi w v ds) (hk : ∀ b, lo ≤ b → b < hi → b < w.heap.size → w'.heap[b]? = w.heap[b]?) : XR3 lo hi w' v ds := by
  obtain ⟨a, c, ob, off, cs, e, L, U, rfl, h1, h2, h3, h4, h5⟩ := h
  refine ⟨a, c, ob, off, cs, e, L, U, rfl, h1, h2, fun hn => ?_, fun k hlt => ?_, h5⟩
  · obtain ⟨g1, g2, g3, g4⟩ := h3 hn
    exact ⟨g1, by rw [hk ob g3 g4 (lt_of_heap g2)]; exact g2, g3, g4⟩
  · obtain ⟨rv, g1, ob2, bk2, g2, g3, g4⟩ := h4 k hlt
    obtain ⟨e1, e2, e3, _⟩ := h5 k hlt
    exact ⟨rv, g1, ob2, bk2, g2.keep (fun hn => hk _ (by have := g3 hn; omega) (by have := g3 hn; omega) (g2.lt hn).1) (fun j hj hn => hk _ (by have := g4 j hj hn; omega) (by have := g4 j hj hn; omega) ((g2.lt (rows_ne hj)).2 j hj hn)), g3, g4⟩
theorem XR3.below (h : XR3 lo hi w v ds) (hb : Below w.heap.size w w') : XR3 lo hi w' v ds := h.keep fun b _ _ hl => hb.block b hl
theorem XR3.chg (h : XR3 lo hi w v ds) (hc : Chg (Rg lo' hi') w w') (hd : hi ≤ lo' ∨ hi' ≤ lo) : XR3 lo hi w' v ds :=
  h.keep fun b h1 h2 hl => hc.block b hl (fun hf => by obtain ⟨g1, g2⟩ := hf; omega)
theorem XR3.v3 (h : XR3 lo hi w v ds) : V3 (fun _ => True) w v ds := by
  obtain ⟨a, c, ob, off, cs, e, L, U, rfl, h1, h2, h3, h4, h5⟩ := h
  refine ⟨a, c, rfl, h1, h2, fun k hk => ?_⟩
  obtain ⟨g1, g2, _⟩ := h3 (ds_ne hk)
  obtain ⟨rv, g4, g5⟩ := h4 k hk
  exact ⟨ob, off, rv, g1, trivial, by rw [cell_of_block g2]; exact g4, g5.v2⟩
theorem XR3.form (h : XR3 lo hi w v ds) : ∃ a c, v = .slice a ds.length c := by
  obtain ⟨a, c, ob, off, cs, e, L, U, rfl, _⟩ := h; exact ⟨a, c, rfl⟩
theorem V3.chgR (h : V3 (fun b => b < s) w v ds) (hc : Chg (Rg lo hi) w w') (hs : s ≤ lo) : V3 (fun b => b < s) w' v ds :=
  h.mono (fun _ h _ => h) (hc.keep fun b hb hf => by have h1 : b < s := hb; obtain ⟨g1, g2⟩ := hf; omega)
end
/-! ### Marks -/
def tot3 (ds : List (List (List Int))) : Nat → Nat
  | 0 => 0
  | j + 1 => tot3 ds j + totTo (getll ds j) (getll ds j).length
def desM (ds : List (List (List Int))) (k : Int) (j : Nat) : List (List (List Int)) := (List.range ds.length).map fun i => if i < j then marks2 (getll ds i) (k + tot3 ds i) else getll ds i
def marks3 (ds : List (List (List Int))) (k : Int) : List (List (List Int)) := desM ds k ds.length
theorem desM_len (ds : List (List (List Int))) (k : Int) (j : Nat) : (desM ds k j).length = ds.length := by simp [desM]
theorem desM_get {ds : List (List (List Int))} {k : Int} {j i : Nat} (h : i < ds.length) : getll (desM ds k j) i = if i < j then marks2 (getll ds i) (k + tot3 ds i) else getll ds i := by simp [getll, desM, h]
theorem desM_0 (ds : List (List (List Int))) (k : Int) : desM ds k 0 = ds := by
  refine List.ext_getElem (by rw [desM_len]) fun i h1 h2 => ?_
  rw [← getll_eq h1, ← getll_eq h2, desM_get h2]; rfl
theorem totTo_mono (ls : List (List Int)) {i j : Nat} (h : i ≤ j) : totTo ls i ≤ totTo ls j := by
  induction j with
  | zero => rw [show i = 0 by omega]; exact Nat.le_refl _
  | succ j ih =>
    by_cases e : i = j + 1
    · rw [e]; exact Nat.le_refl _
    · have := ih (by omega)
      rw [totTo]; omega
set_option maxRecDepth 100000 in
theorem markInt64SSS_r (lo hi : Nat) (v : Value) (ds : List (List (List Int))) (k : Int) (W : World) (h : XR3 lo hi W v ds) (hk : 0 ≤ k) (hk2 : ∀ j, j ≤ ds.length → k + tot3 ds j ≤ 1152921504606846976) :
    Calls Tryz.prog 40 #[v, .int .i64 k] W fun e' w' => e' = .returned (.int .i64 (k + tot3 ds ds.length)) ∧ XR3 lo hi w' v (marks3 ds k) ∧ Chg (Rg lo hi) W w' := by
  have hX := h
  obtain ⟨a, c, ob, off, cs, e, L, U, rfl, h1, h2, h3, h4, h5⟩ := h
  unfold maxLen at h2
  have Hk2 := Lib.hid hk2; clear hk2
  have H0 := Lib.hid (And.intro h3 (And.intro h4 h5)); clear h3 h4 h5
  go_enter Tryz.func40, Tryz.ntmps40
  go_wp2_with fail
  go_loopw [1, 5] (fun q i wr => ∃ j : Nat, j ≤ ds.length ∧ i = .int .i64 j ∧ q = .int .i64 (k + tot3 ds j) ∧ (∀ i, i < ds.length → ∃ rv, cs[off + i]? = some rv ∧ XR2 (L i) (U i) wr rv (getll (desM ds k j) i)) ∧ Chg (Rg lo hi) W wr ∧ (ds ≠ [] → wr.heap[ob]? = some (.cells cs e (0, 0)))) (fun _ i _ => ds.length - (intOf i).toNat)
  case atStart => exact ⟨0, Nat.zero_le _, rfl, by simp [tot3], by rw [desM_0]; exact H0.out.2.1, Chg.refl _ _, fun hn => (H0.out.1 hn).2.1⟩
  case round =>
    obtain ⟨j, hj, rfl, rfl, hR, hB, hob⟩ := hrel
    by_cases hjj : j < ds.length
    · obtain ⟨ea, _, hl1, hl2⟩ := H0.out.1 (ds_ne hjj)
      have hh := hob (ds_ne hjj)
      subst ea
      obtain ⟨rv, hcj, hxj⟩ := hR j hjj
      rw [desM_get hjj, if_neg (by omega)] at hxj
      obtain ⟨ar, cr, rfl⟩ := hxj.form
      have hc1 : wr.cell? ⟨ob, off + j, none⟩ = some (.slice ar (getll ds j).length cr) := by rw [cell_of_block hh]; exact hcj
      have hb1 := Hk2.out (j + 1) (by omega)
      rw [tot3, Int.natCast_add] at hb1
      have hin : ∀ i, i ≤ (getll ds j).length → k + (tot3 ds j : Int) + totTo (getll ds j) i ≤ 1152921504606846976 := fun i hi => by
        have := totTo_mono (getll ds j) hi
        omega
      have hst : k + (tot3 ds j : Int) + (totTo (getll ds j) (getll ds j).length : Int) = k + (tot3 ds (j + 1) : Int) := by rw [tot3]; omega
      have Hcj := Lib.hid hcj; clear hcj
      have HR := Lib.hid (And.intro hR (And.intro hob hin)); clear hR hob hin hh hb1
      have Hst := Lib.hid hst; clear hst
      go_wp2_with fail
      refine (markInt64SS_r (L j) (U j) _ _ _ _ hxj (by omega) HR.out.2.2).mono ?_
      rintro e' w2 ⟨rfl, hx2, hb2⟩
      rw [Hst.out]
      have Hx2 := Lib.hid hx2; clear hx2
      go_wp2_with fail
      go_roundw
      case rel =>
        obtain ⟨p1, p2, p3, p4, p5⟩ := H0.out.2.2 j hjj
        refine ⟨j + 1, by omega, by go_num, rfl, fun i hi => ?_, hB.trans hb2 (fun i ⟨hi1, hi2⟩ => .inl ⟨by omega, by omega⟩), fun hn => ?_⟩
        · by_cases hij : i = j
          · subst hij
            exact ⟨_, Hcj.out, by rw [desM_get hi, if_pos (by omega)]; exact Hx2.out⟩
          · obtain ⟨rv, g1, g2⟩ := HR.out.1 i hi
            refine ⟨rv, g1, ?_⟩
            have hrow : getll (desM ds k (j + 1)) i = getll (desM ds k j) i := by
              rw [desM_get hi, desM_get hi]
              by_cases hlt : i < j
              · rw [if_pos hlt, if_pos (by omega)]
              · rw [if_neg hlt, if_neg (by omega)]
            rw [hrow]
            refine g2.chg hb2 ?_
            by_cases hlt : i < j
            · exact .inl (p5 i hlt)
            · exact .inr ((H0.out.2.2 i hi).2.2.2.2 j (by omega))
        · rw [hb2.block ob (lt_of_heap (HR.out.2.1 hn)) (fun ⟨hi1, hi2⟩ => by omega)]
          exact HR.out.2.1 hn
      case measure => simp [intOf]; omega
    · obtain rfl : j = ds.length := by omega
      have HR := Lib.hid (And.intro hR (And.intro hob hB)); clear hR hob hB
      go_wp2_with fail
      go_ret
      refine ⟨rfl, ⟨a, c, ob, off, cs, e, L, U, by rw [marks3, desM_len], by rw [marks3, desM_len]; exact h1, by unfold maxLen; exact h2, fun hn => ?_, fun i hi => ?_, fun i hi => ?_⟩, HR.out.2.2⟩
      · have hn' : ds ≠ [] := by intro e; subst e; exact hn rfl
        obtain ⟨g1, _, g3, g4⟩ := H0.out.1 hn'
        exact ⟨g1, HR.out.2.1 hn', g3, g4⟩
      · rw [marks3, desM_len] at hi
        exact HR.out.1 i hi
      · rw [marks3, desM_len] at hi
        exact H0.out.2.2 i hi
set_option maxRecDepth 100000 in
theorem heldInt64SSS_any {S : Nat → Prop} (v : Value) (ds : List (List (List Int))) (k : Int) (W : World) (h : V3 S W v (marks3 ds k)) (hk : 0 ≤ k) (hk2 : ∀ j, j ≤ ds.length → k + tot3 ds j ≤ 1152921504606846976) :
    Calls Tryz.prog 41 #[v, .int .i64 k] W fun e' w' => e' = .returned (.int .i64 (k + tot3 ds ds.length)) ∧ W = w' := by
  have hV := h
  have hl : (marks3 ds k).length = ds.length := desM_len _ _ _
  obtain ⟨a, c, rfl, hm⟩ := h.form3
  rw [hl] at hm ⊢
  have Hk2 := Lib.hid hk2; clear hk2
  go_enter Tryz.func41, Tryz.ntmps41
  go_wp2_with fail
  go_loop [1, 5] (fun q i => ∃ j : Nat, j ≤ ds.length ∧ i = .int .i64 j ∧ q = .int .i64 (k + tot3 ds j)) (fun _ i => ds.length - (intOf i).toNat)
  case atStart => exact ⟨0, Nat.zero_le _, rfl, by simp [tot3]⟩
  case round =>
    obtain ⟨j, hj, rfl, rfl⟩ := hrel
    by_cases hjj : j < ds.length
    · obtain ⟨b1, off1, a1, c1, rfl, _, hc1, hr1⟩ := hV.cell3 (show j < (marks3 ds k).length by omega)
      rw [show getll (marks3 ds k) j = marks2 (getll ds j) (k + tot3 ds j) by rw [marks3, desM_get hjj, if_pos hjj]] at hr1 hc1
      rw [marks2_len] at hr1 hc1
      have hb1 := Hk2.out (j + 1) (by omega)
      rw [tot3, Int.natCast_add] at hb1
      have hin : ∀ i, i ≤ (getll ds j).length → k + (tot3 ds j : Int) + totTo (getll ds j) i ≤ 1152921504606846976 := fun i hi => by
        have := totTo_mono (getll ds j) hi
        omega
      have hst : k + (tot3 ds j : Int) + (totTo (getll ds j) (getll ds j).length : Int) = k + (tot3 ds (j + 1) : Int) := by rw [tot3]; omega
      have hp : 0 ≤ k + (tot3 ds (j + 1) : Int) := by omega
      have Hst := Lib.hid (And.intro hst hin); clear hst hin
      go_wp2_with fail
      refine (heldInt64SS_any _ _ _ _ hr1 (by omega) Hst.out.2).mono ?_
      rintro e' w2 ⟨rfl, rfl⟩
      rw [Hst.out.1]
      go_wp2_with fail
      go_round
      case rel => exact ⟨j + 1, by omega, by go_num, rfl⟩
      case measure => simp [intOf]; omega
    · obtain rfl : j = ds.length := by omega
      go_wp2_with fail
      go_ret
      exact ⟨rfl, rfl⟩
theorem tot3_small {ds : List (List (List Int))} (h : ds.length ≤ 10) (h2 : ∀ k, k < ds.length → (getll ds k).length ≤ 1048576 ∧ ∀ r ∈ getll ds k, r.length ≤ 1048576) : ∀ j, j ≤ ds.length → (tot3 ds j : Int) ≤ 10995116277760 := by
  have key : ∀ j, j ≤ ds.length → tot3 ds j ≤ j * 1099511627776 := by
    intro j
    induction j with
    | zero => intro _; simp [tot3]
    | succ j ih =>
      intro hj
      have h3 := h2 j (by omega)
      have h4 := totSmall h3.1 h3.2 (getll ds j).length (Nat.le_refl _)
      have := ih (by omega)
      rw [tot3]
      omega
  intro j hj
  have := key j hj
  have : j * 1099511627776 ≤ 10 * 1099511627776 := Nat.mul_le_mul_right _ (by omega)
  omega
end Go.Proofs.YtikdbjaimcciiaaGreat
