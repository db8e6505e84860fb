/- The reference's count of keys. No conditions. -/
import Derived.Test.YtcdgechaehljgaaRefOwn
namespace Go.Proofs.Ytcdgechaehljgaa
open Go.RowKit
set_option linter.unusedVariables false
set_option linter.unusedSimpArgs false

theorem own_V1T {w : World} {B : Nat} {e : TypeId} {v : Value} {n : Nat} {l : List Int} {xs : List Value} (h : w.ownsRow B e 1 v n xs) (hx : xs = l.map (Value.int .i64)) : V1 (fun _ => True) w v l := by
  subst hx; exact (own_V1 h).mono (fun _ _ _ => trivial) (fun _ _ _ => rfl)
def cntTo (m : Mk) (rem : Nat) (l : List Int) (x : Nat) : Nat := ((depths 0 x).flatMap fun y => genB m rem (l ++ [y])).length
theorem cntTo_succ (m : Mk) (rem : Nat) (l : List Int) (x : Nat) : cntTo m rem l (x + 1) = cntTo m rem l x + (genB m rem (l ++ [(x : Int)])).length := by
  unfold cntTo; rw [depths_snoc (Nat.zero_le _)]; simp
theorem genB_le {m : Mk} (hd : m.d.toNat ≤ 8) (rem : Nat) (l : List Int) (hr : rem ≤ 6) : (genB m rem l).length ≤ 262144 := by
  unfold genB
  split
  · refine Nat.le_trans (gen_length 8 hd rem l) ?_
    exact Nat.le_trans (Nat.pow_le_pow_right (by decide) hr) (by decide)
  · simp
theorem cntTo_le {m : Mk} (hd : m.d.toNat ≤ 8) (rem : Nat) (l : List Int) (hr : rem ≤ 6) : ∀ x, cntTo m rem l x ≤ x * 262144
  | 0 => by simp [cntTo, depths]
  | x + 1 => by rw [cntTo_succ]; have := cntTo_le hd rem l hr x; have := genB_le hd rem (l ++ [(x : Int)]) hr; omega

theorem mkB_keep {b B : Nat} {w0 w w' : World} {c0 c1 c2 c3 c4 : Value} (hbB : b < B) (h : w.cell? ⟨b, 0, none⟩ = some c0 ∧ w.cell? ⟨b, 1, none⟩ = some c1 ∧ w.cell? ⟨b, 2, none⟩ = some c2 ∧ w.cell? ⟨b, 3, none⟩ = some c3 ∧ w.cell? ⟨b, 4, none⟩ = some c4 ∧ Below B w0 w) (hb : Below B w w') :
    w'.cell? ⟨b, 0, none⟩ = some c0 ∧ w'.cell? ⟨b, 1, none⟩ = some c1 ∧ w'.cell? ⟨b, 2, none⟩ = some c2 ∧ w'.cell? ⟨b, 3, none⟩ = some c3 ∧ w'.cell? ⟨b, 4, none⟩ = some c4 ∧ Below B w0 w' := by
  obtain ⟨h0, h1, h2, h3, h4, h5⟩ := h
  have hk := hb.block b hbB
  exact ⟨cell_keep h0 hk, cell_keep h1 hk, cell_keep h2 hk, cell_keep h3 hk, cell_keep h4 hk, h5.trans hb⟩

def MkS (b B : Nat) (m : Mk) (w0 w : World) : Prop :=
  w.cell? ⟨b, 0, none⟩ = some (.int .i64 m.c) ∧ w.cell? ⟨b, 1, none⟩ = some (.int .i64 m.d) ∧ w.cell? ⟨b, 2, none⟩ = some (.int .i64 m.s) ∧ w.cell? ⟨b, 3, none⟩ = some (.int .i64 m.e) ∧ w.cell? ⟨b, 4, none⟩ = some (.int .i64 m.l) ∧ Below B w0 w
section
variable {b : Nat} {w0 w w' : World} {c0 c1 c2 c3 c4 : Value}
theorem mkB_call (hbB : b < w0.heap.size) (h : w.cell? ⟨b, 0, none⟩ = some c0 ∧ w.cell? ⟨b, 1, none⟩ = some c1 ∧ w.cell? ⟨b, 2, none⟩ = some c2 ∧ w.cell? ⟨b, 3, none⟩ = some c3 ∧ w.cell? ⟨b, 4, none⟩ = some c4 ∧ Below w0.heap.size w0 w) (hb : Below w.heap.size w w') :
    w'.cell? ⟨b, 0, none⟩ = some c0 ∧ w'.cell? ⟨b, 1, none⟩ = some c1 ∧ w'.cell? ⟨b, 2, none⟩ = some c2 ∧ w'.cell? ⟨b, 3, none⟩ = some c3 ∧ w'.cell? ⟨b, 4, none⟩ = some c4 ∧ Below w0.heap.size w0 w' :=
  mkB_keep hbB h (hb.mono h.2.2.2.2.2.size)
theorem mkB_alloc (hbB : b < w0.heap.size) (h : w.cell? ⟨b, 0, none⟩ = some c0 ∧ w.cell? ⟨b, 1, none⟩ = some c1 ∧ w.cell? ⟨b, 2, none⟩ = some c2 ∧ w.cell? ⟨b, 3, none⟩ = some c3 ∧ w.cell? ⟨b, 4, none⟩ = some c4 ∧ Below w0.heap.size w0 w) (o : Obj) :
    (w.alloc o).cell? ⟨b, 0, none⟩ = some c0 ∧ (w.alloc o).cell? ⟨b, 1, none⟩ = some c1 ∧ (w.alloc o).cell? ⟨b, 2, none⟩ = some c2 ∧ (w.alloc o).cell? ⟨b, 3, none⟩ = some c3 ∧ (w.alloc o).cell? ⟨b, 4, none⟩ = some c4 ∧ Below w0.heap.size w0 (w.alloc o) :=
  mkB_call hbB h ((Below.refl _ _).alloc (Nat.le_refl _) _)
theorem mkB_grown {ob : Option Nat} (hbB : b < w0.heap.size) (h : w.cell? ⟨b, 0, none⟩ = some c0 ∧ w.cell? ⟨b, 1, none⟩ = some c1 ∧ w.cell? ⟨b, 2, none⟩ = some c2 ∧ w.cell? ⟨b, 3, none⟩ = some c3 ∧ w.cell? ⟨b, 4, none⟩ = some c4 ∧ Below w0.heap.size w0 w) (hg : w.grownBy w' ob) (ho : ∀ k, ob = some k → w0.heap.size ≤ k) :
    w'.cell? ⟨b, 0, none⟩ = some c0 ∧ w'.cell? ⟨b, 1, none⟩ = some c1 ∧ w'.cell? ⟨b, 2, none⟩ = some c2 ∧ w'.cell? ⟨b, 3, none⟩ = some c3 ∧ w'.cell? ⟨b, 4, none⟩ = some c4 ∧ Below w0.heap.size w0 w' :=
  mkB_keep hbB h ((Below.refl _ _).grown hg h.2.2.2.2.2.size ho)
theorem mkB_below (h : w.cell? ⟨b, 0, none⟩ = some c0 ∧ w.cell? ⟨b, 1, none⟩ = some c1 ∧ w.cell? ⟨b, 2, none⟩ = some c2 ∧ w.cell? ⟨b, 3, none⟩ = some c3 ∧ w.cell? ⟨b, 4, none⟩ = some c4 ∧ Below w0.heap.size w0 w) : Below w0.heap.size w0 w := h.2.2.2.2.2
theorem mkB_size (h : w.cell? ⟨b, 0, none⟩ = some c0 ∧ w.cell? ⟨b, 1, none⟩ = some c1 ∧ w.cell? ⟨b, 2, none⟩ = some c2 ∧ w.cell? ⟨b, 3, none⟩ = some c3 ∧ w.cell? ⟨b, 4, none⟩ = some c4 ∧ Below w0.heap.size w0 w) : w0.heap.size ≤ w.heap.size := h.2.2.2.2.2.size
end
theorem news_old {w w' : World} {cs : Array Value} {T : TypeId} (hb : Below (w.alloc (.cells cs T)).drew.heap.size (w.alloc (.cells cs T)).drew w') : ∀ j u, cs.toList[j]? = some u → w'.cell? ((⟨w.heap.size, 0, none⟩ : Addr).add j) = some u :=
  World.news_of_block (heap_below (w := (w.alloc (.cells cs T)).drew) (heap_alloc_new w _) hb (by simp))
theorem range_snoc {l : List Int} {x : Nat} (h : ∀ k, k < l.length → 0 ≤ geti l k ∧ geti l k ≤ 7) (hx : x < 8) : ∀ k, k < (l ++ [(x : Int)]).length → 0 ≤ geti (l ++ [(x : Int)]) k ∧ geti (l ++ [(x : Int)]) k ≤ 7 := by
  intro k hk
  by_cases hkl : k < l.length
  · rw [geti_append hkl]; exact h k hkl
  · rw [show k = l.length from by simp at hk; omega, geti_snoc]; omega

set_option maxRecDepth 100000 in
set_option maxHeartbeats 2000000 in
theorem l02Count_any (m : Mk) (hm : m.ok = true) : ∀ (rem : Nat) (S : Nat → Prop) (v : Value) (l : List Int) (W : World), V1 S W v l → (l = [] → PV v) → (l.length : Int) + rem = m.c → (∀ k, k < l.length → 0 ≤ geti l k ∧ geti l k ≤ 7) →
    Calls Try.prog 62 #[.agg #[.int .i64 m.c, .int .i64 m.d, .int .i64 m.s, .int .i64 m.e, .int .i64 m.l], v] W fun e' w' => e' = .returned (.int .i64 ((genB m rem l).length : Int)) ∧ Below W.heap.size W w' := by
  have hmk := Mk.ok_iff.1 hm
  obtain ⟨i0, hi, hz0, hz1, hz2⟩ := info_parts inf_int
  intro rem
  induction rem with
  | zero =>
    intro S v l W h hp hlr hrange
    have hV := h
    have Hrange := Lib.hid hrange; clear hrange
    have Hmk := Lib.hid hmk
    obtain ⟨a, c, rfl, hmx⟩ := h.form
    clear hp hm
    have hlen : l.length ≤ 6 := by omega
    have hl : (l.length : Int) = m.c := by omega
    have e2 : ((l.length : Int) == m.c) = true := by simp [hl]
    have Hl := Lib.hid hl; clear hl hlr hmk
    obtain ⟨W1, hW1, hB01, hz01, HZ01, hc01, hh01⟩ := box_facts W #[.int .i64 m.c, .int .i64 m.d, .int .i64 m.s, .int .i64 m.e, .int .i64 m.l] 30
    have hV1 := hV.below hB01
    cases hb : begins m l
    · have hfin : genB m 0 l = [] := by unfold genB; rw [if_neg (by rw [hb]; decide)]
      have Hf := Lib.hid hfin; clear hfin
      have Hb := Lib.hid hb; clear hb
      go_enter Try.func62, Try.ntmps62
      go_wp2_with fail
      rw [← hW1]
      go_wp2_with fail
      refine (l02Begins_b m _ l _ _ Hb.out hV1 (by omega) Hrange.out).mono ?_; rintro e' w2 ⟨rfl, hb_w2⟩; have hB2 := (Below.refl W1.heap.size W1).trans (hb_w2.mono (Below.refl W1.heap.size W1).size)
      clear hc01 hh01
      go_wp2_with fail
      go_ret
      exact ⟨ret_int (by rw [Hf.out]; rfl), hB01.trans (hB2.mono (by omega))⟩
    · have Hb := Lib.hid hb; clear hb
      by_cases hk : (kinds l : Int) < m.l
      · have hfin : genB m 0 l = [] := by unfold genB gen; rw [if_pos Hb.out, if_neg (by omega)]
        have Hf := Lib.hid hfin; clear hfin
        go_enter Try.func62, Try.ntmps62
        go_wp2_with fail
        rw [← hW1]
        go_wp2_with fail
        refine (l02Begins_b m _ l _ _ Hb.out hV1 (by omega) Hrange.out).mono ?_; rintro e' w2 ⟨rfl, hb_w2⟩; have hB2 := (Below.refl W1.heap.size W1).trans (hb_w2.mono (Below.refl W1.heap.size W1).size)
        have hx2 : ∀ o, (w2).cell? ⟨W.heap.size, o, none⟩ = (#[.int .i64 m.c, .int .i64 m.d, .int .i64 m.s, .int .i64 m.e, .int .i64 m.l] : Array Value)[o]? := fun o => by rw [(bcell hB2).1 _ _ hz01, hc01]
        clear hc01 hh01
        go_wp2_with fail
        go_quiet ((go_at_call 113; first | exact quiet_at (l02Kinds_q _ _ _ (V1.drewN (hV1.below hB2))) | exact quiet_at0 (l02Kinds_q _ _ _ (V1.drewN (hV1.below hB2)))))
        go_wp2_with fail
        go_ret
        exact ⟨ret_int (by rw [Hf.out]; rfl), by repeat' first | refine below_drewN ?_ _ | exact hB01.trans (hB2.mono (by omega))⟩
      · have hfin : genB m 0 l = [l] := by unfold genB gen; rw [if_pos Hb.out, if_pos (by omega)]
        have Hf := Lib.hid hfin; clear hfin
        have hd : decide ((kinds l : Int) < m.l) = false := decide_eq_false hk
        go_enter Try.func62, Try.ntmps62
        go_wp2_with fail
        rw [← hW1]
        go_wp2_with fail
        refine (l02Begins_b m _ l _ _ Hb.out hV1 (by omega) Hrange.out).mono ?_; rintro e' w2 ⟨rfl, hb_w2⟩; have hB2 := (Below.refl W1.heap.size W1).trans (hb_w2.mono (Below.refl W1.heap.size W1).size)
        have hx2 : ∀ o, (w2).cell? ⟨W.heap.size, o, none⟩ = (#[.int .i64 m.c, .int .i64 m.d, .int .i64 m.s, .int .i64 m.e, .int .i64 m.l] : Array Value)[o]? := fun o => by rw [(bcell hB2).1 _ _ hz01, hc01]
        clear hc01 hh01
        go_wp2_with fail
        go_quiet ((go_at_call 113; first | exact quiet_at (l02Kinds_q _ _ _ (V1.drewN (hV1.below hB2))) | exact quiet_at0 (l02Kinds_q _ _ _ (V1.drewN (hV1.below hB2)))))
        go_wp2_with fail
        go_ret
        exact ⟨ret_int (by rw [Hf.out]; rfl), by repeat' first | refine below_drewN ?_ _ | exact hB01.trans (hB2.mono (by omega))⟩
  | succ rem ih =>
    intro S v l W h hp hlr hrange
    have hV := h
    have Hrange := Lib.hid hrange; clear hrange
    have Hmk := Lib.hid hmk
    obtain ⟨a, c, rfl, hmx⟩ := h.form
    have hlen : l.length ≤ 6 ∧ rem ≤ 5 := by omega
    have hl : ¬ (l.length : Int) = m.c := by omega
    have e2 : ((l.length : Int) == m.c) = false := by simp [hl]
    have Hl := Lib.hid hl; clear hl
    have IH := Lib.hid ih; clear ih
    have Hp := Lib.hid hp; clear hp
    obtain ⟨W1, hW1, hB01, hz01, HZ01, hc01, hh01⟩ := box_facts W #[.int .i64 m.c, .int .i64 m.d, .int .i64 m.s, .int .i64 m.e, .int .i64 m.l] 30
    have hV1 := hV.below hB01
    cases hb : begins m l
    · have hfin : genB m (rem + 1) l = [] := by unfold genB; rw [if_neg (by rw [hb]; decide)]
      have Hf := Lib.hid hfin; clear hfin
      have Hb := Lib.hid hb; clear hb hlr hmk
      go_enter Try.func62, Try.ntmps62
      go_wp2_with fail
      rw [← hW1]
      go_wp2_with fail
      refine (l02Begins_b m _ l _ _ Hb.out hV1 (by omega) Hrange.out).mono ?_; rintro e' w2 ⟨rfl, hb_w2⟩; have hB2 := (Below.refl W1.heap.size W1).trans (hb_w2.mono (Below.refl W1.heap.size W1).size)
      clear hc01 hh01
      go_wp2_with fail
      go_ret
      exact ⟨ret_int (by rw [Hf.out]; rfl), hB01.trans (hB2.mono (by omega))⟩
    · have hfin : (genB m (rem + 1) l).length = cntTo m rem l m.d.toNat := by rw [genB_succ hb]; rfl
      have Hf := Lib.hid hfin; clear hfin
      have Hb := Lib.hid hb; clear hb
      have Hlr := Lib.hid hlr; clear hlr
      obtain ⟨d, hd1, hd2, hd8, hdn⟩ : ∃ d : Nat, m.d ≤ d ∧ (d : Int) ≤ m.d ∧ d ≤ 8 ∧ m.d.toNat = d := ⟨m.d.toNat, by omega, by omega, by omega, rfl⟩
      have hcb := cntTo_le (m := m) (by omega) rem l (by omega)
      have hgb := fun x : Nat => genB_le (m := m) (by omega) rem (l ++ [(x : Int)]) (by omega)
      have Hcb := Lib.hid hcb; clear hcb
      have Hgb := Lib.hid hgb; clear hgb
      have Hdn := Lib.hid hdn; clear hdn
      clear hmk
      have Hm := Lib.hid hm; clear hm
      go_enter Try.func62, Try.ntmps62
      go_wp2_with fail
      rw [← hW1]
      go_wp2_with fail
      refine (l02Begins_b m _ l _ _ Hb.out hV1 (by omega) Hrange.out).mono ?_; rintro e' w2 ⟨rfl, hb_w2⟩; have hB2 := (Below.refl W1.heap.size W1).trans (hb_w2.mono (Below.refl W1.heap.size W1).size)
      have hx2 : ∀ o, (w2).cell? ⟨W.heap.size, o, none⟩ = (#[.int .i64 m.c, .int .i64 m.d, .int .i64 m.s, .int .i64 m.e, .int .i64 m.l] : Array Value)[o]? := fun o => by rw [(bcell hB2).1 _ _ hz01, hc01]
      have Hc01 := Lib.hid hc01; clear hc01
      have HW1 := Lib.hid hW1; clear hW1
      clear hh01
      go_wp2_with fail
      have Hx2 := Lib.hid hx2; clear hx2
      go_loopw [5, 6] (fun s i wr => ∃ x : Nat, x ≤ d ∧ i = .int .i64 (x : Int) ∧ s = .int .i64 (cntTo m rem l x : Int) ∧ Below W1.heap.size W1 wr) (fun _ i _ => d - (intOf i).toNat)
      case atStart => exact ⟨0, Nat.zero_le _, rfl, by simp [cntTo, depths], hB2⟩
      case round =>
        obtain ⟨x, hx, rfl, rfl, hB⟩ := hrel
        have hxr : ∀ o, wr.cell? ⟨W.heap.size, o, none⟩ = (#[.int .i64 m.c, .int .i64 m.d, .int .i64 m.s, .int .i64 m.e, .int .i64 m.l] : Array Value)[o]? := fun o => by rw [(bcell hB).1 _ _ hz01, Hc01.out]
        have hcx := Hcb.out x
        have hzr := hB.size
        by_cases hxx : x < d
        · have hg1 := Hgb.out x
          have hw : IntKind.i64.wrap ((cntTo m rem l x : Int) + ((genB m rem (l ++ [(x : Int)])).length : Int)) = (cntTo m rem l x : Int) + ((genB m rem (l ++ [(x : Int)])).length : Int) := IntWalk.i64_in _ (by omega)
          have hcell0 := hxr 0
          have hcell1 := hxr 1
          have hcell2 := hxr 2
          have hcell3 := hxr 3
          have hcell4 := hxr 4
          simp at hcell0 hcell1 hcell2 hcell3 hcell4
          have Hxr := Lib.hid hxr
          have hbB : W.heap.size < wr.heap.size := by omega
          go_wp2_with fail
          go_region_held3 (fun w' => w'.cell? ⟨W.heap.size, 0, none⟩ = some (.int .i64 m.c) ∧ w'.cell? ⟨W.heap.size, 1, none⟩ = some (.int .i64 m.d) ∧ w'.cell? ⟨W.heap.size, 2, none⟩ = some (.int .i64 m.s) ∧ w'.cell? ⟨W.heap.size, 3, none⟩ = some (.int .i64 m.e) ∧ w'.cell? ⟨W.heap.size, 4, none⟩ = some (.int .i64 m.l) ∧ Below wr.heap.size wr w')
            (first | exact ⟨hcell0, hcell1, hcell2, hcell3, hcell4, (Below.refl _ _).drew⟩ | exact mkB_call hbB (by assumption) (by assumption) | exact mkB_alloc hbB (by assumption) _ | exact mkB_grown hbB (by assumption) (by assumption) (own_lo hown1 (Nat.le_refl _)))
            (first | (go_at_call 74; refine (l01Own_any _ l _ (hV1.below (hB.trans ((mkB_below (by assumption)).mono hzr))) Hp.out (by omega)).mono ?_; rintro e' w' ⟨v1, rfl, hown0, hb⟩; have hzz := Nat.le_trans (mkB_size (by assumption)) hb.size; have hown1 := own_base hown0 (mkB_size (by assumption)); clear hown0) | (refine step_append_lies _ (by rfl) _ _ _ (by rfl) wr.heap.size 2 i0 _ 1 8 Try.underlying43 hi hz0 hz1 hz2 rfl (by omega) _ l.length _ (by rfl) (hown1.alloc _) ⟨_, 0, none⟩ 1 1 [.int .i64 x] (by rfl) (by rfl) (World.news_of_block (heap_alloc_new _ _)) (by simp [Value.oneCell']) (by omega) (by unfold maxLen; omega) (by omega) (by simp; omega) _ rfl ?_; intro gg cap w1 hown2 hgrow hat hlt) | (refine step_append_lies _ (by rfl) _ _ _ (by rfl) wr.heap.size 2 i0 _ 1 8 Try.underlying43 hi hz0 hz1 hz2 rfl (by omega) _ l.length _ (by rfl) hown1 ⟨_, 0, none⟩ 1 1 [.int .i64 x] (by rfl) (by rfl) (news_old hb) (by simp [Value.oneCell']) (by omega) (by unfold maxLen; omega) (by omega) (by omega) _ rfl ?_; intro gg cap w1 hown2 hgrow hat hlt) | (go_at_call 62; refine (IH.out _ _ (l ++ [(x : Int)]) _ (own_V1T (by assumption) (by simp)) (fun h => by simp at h) (by have := Hlr.out; simp; omega) (range_snoc Hrange.out (by omega))).mono ?_; rintro e' w' ⟨rfl, hb⟩))
          all_goals
            have hBw := mkB_below (w0 := wr) (by assumption)
            go_wp2_with fail
            go_roundw
            case rel => exact ⟨x + 1, by omega, by go_num, by rw [cntTo_succ]; go_num, hB.trans (hBw.mono hzr)⟩
            case measure => simp [intOf]; omega
        · have hfx : cntTo m rem l x = (genB m (rem + 1) l).length := by rw [Hf.out, Hdn.out, show x = d from by omega]
          have Hfx := Lib.hid hfx; clear hfx
          go_wp2_with fail
          go_ret
          exact ⟨ret_int (by rw [Hfx.out]), hB01.trans (hB.mono (by omega))⟩
end Go.Proofs.Ytcdgechaehljgaa
