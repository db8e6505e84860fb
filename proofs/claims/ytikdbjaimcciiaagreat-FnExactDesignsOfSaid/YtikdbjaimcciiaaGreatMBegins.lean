/- What the reference answers on the beginnings of keys. No conditions. -/
import Derived.Laws.AppendOwnNone
import Derived.Deep.RegionHeld3
import Derived.Deep.AppendLies
import Derived.Test.YtikdbjaimcciiaaGreatMFault
namespace Go.Proofs.YtikdbjaimcciiaaGreat
open Go.RowKit
set_option linter.unusedVariables false
set_option linter.unusedSimpArgs false

theorem fit_run {m : Mk} {l : List Int} {k : Nat} {r : Int} (hr : (runAt l k : Int) = r) (h : m.e < r) : fitAt m l k = false := by
  unfold fitAt; rw [hr, decide_eq_false (by omega)]; rfl
theorem fit_step {m : Mk} {l : List Int} {k : Nat} {q : Int} (hq : absI (geti l k - geti l (k - 1)) = q) (h0 : 0 < k) (h : m.s < q) : fitAt m l k = false := by
  unfold fitAt; rw [hq]
  have h1 : (k == 0) = false := by simp; omega
  rw [h1, decide_eq_false (show ¬ q ≤ m.s by omega)]; simp
theorem fit_ok {m : Mk} {l : List Int} {k : Nat} {r : Int} (hr : (runAt l k : Int) = r) (h : ¬ m.e < r) (hs : k = 0 ∨ ¬ m.s < absI (geti l k - geti l (k - 1))) : fitAt m l k = true := by
  unfold fitAt; rw [hr, decide_eq_true (show r ≤ m.e by omega), Bool.true_and]
  rcases hs with h | h
  · subst h; rfl
  · rw [decide_eq_true (show absI (geti l k - geti l (k - 1)) ≤ m.s by omega)]; simp
theorem begins_not {m : Mk} {l : List Int} {k : Nat} (h : k < l.length) (hf : fitAt m l k = false) : begins m l = false := by
  rw [← Bool.not_eq_true, begins_iff]; intro hc; rw [hc k h] at hf; cases hf

set_option maxRecDepth 100000 in
theorem l02Begins_any {S : Nat → Prop} (m : Mk) (v : Value) (l : List Int) (W : World) (h : V1 S W v l) (hlen : l.length ≤ 1000) (hrange : ∀ k, k < l.length → 0 ≤ geti l k ∧ geti l k ≤ 7) :
    Calls Tryz.prog 220 #[.agg #[.int .i64 m.c, .int .i64 m.d, .int .i64 m.s, .int .i64 m.e, .int .i64 m.l], v] W fun e' w' => e' = .returned (.bool (begins m l)) ∧ Below W.heap.size W w' := by
  have hV := h
  have Hrange := Lib.hid hrange; clear hrange
  obtain ⟨a, c, rfl, hmx⟩ := h.form
  obtain ⟨W1, hW1, hB01, hz01, HZ01, hc01, hh01⟩ := box_facts W #[.int .i64 m.c, .int .i64 m.d, .int .i64 m.s, .int .i64 m.e, .int .i64 m.l] 25
  have hV1 := hV.below hB01
  go_enter Tryz.func220, Tryz.ntmps220
  go_wp2_with fail
  rw [← hW1]
  have HW1 := Lib.hid hW1; clear hW1
  clear hh01
  go_wp2_with fail
  go_loopw [5, 6] (fun ru i wr => ∃ k n : Nat, k ≤ l.length ∧ i = .int .i64 (k : Int) ∧ ru = .int .i64 (lastRun l k : Int) ∧ (∀ j, j < k → fitAt m l j = true) ∧ wr = W1.drewN n) (fun _ i _ => l.length - (intOf i).toNat)
  case atStart => exact ⟨0, 0, Nat.zero_le _, rfl, rfl, fun j hj => by omega, rfl⟩
  case round =>
    obtain ⟨k, n, hk, rfl, rfl, hpre, rfl⟩ := hrel
    have Hpre := Lib.hid hpre; clear hpre
    have hlr := lastRun_le l k
    by_cases hkk : k < l.length
    · obtain ⟨b1, off1, rfl, _, hc1⟩ := hV1.cell hkk
      have hr1 := Hrange.out _ hkk
      by_cases h0 : k = 0
      · have hru : runAt l k = lastRun l k + 1 := runAt_last (.inl h0)
        have hd : decide (0 < k) = false := by simp [h0]
        have H0 := Lib.hid h0; clear h0
        have hru' : (runAt l k : Int) = (lastRun l k : Int) + 1 := by rw [hru]; rfl
        have Hru := Lib.hid hru; clear hru
        have Hru' := Lib.hid hru'; clear hru'
        by_cases hbad : m.e < (lastRun l k : Int) + 1
        · have hfin := begins_not hkk (fit_run Hru'.out hbad)
          have Hf := Lib.hid hfin; clear hfin
          generalize hLR : lastRun l k = lr at *
          have HLR := Lib.hid hLR; clear hLR
          have hdd : decide (m.e < (lr : Int) + 1) = true := decide_eq_true hbad
          go_wp2_with fail
          go_quiet (fail)
          go_wp2_with fail
          go_quiet (fail)
          go_wp2_with fail
          go_ret
          exact ⟨ret_bool Hf.out.symm, by repeat' first | refine below_drewN ?_ _ | exact hB01⟩
        · have hfit := fit_ok Hru'.out hbad (.inl H0.out)
          have Hfit := Lib.hid hfit; clear hfit
          generalize hLR : lastRun l k = lr at *
          have HLR := Lib.hid hLR; clear hLR
          have hdd : decide (m.e < (lr : Int) + 1) = false := decide_eq_false hbad
          go_wp2_with fail
          go_quiet (fail)
          go_wp2_with fail
          go_quiet (fail)
          go_wp2_with fail
          go_roundw
          case rel => exact ⟨k + 1, _, by omega, by go_num, by rw [show lastRun l (k + 1) = runAt l k from rfl, Hru.out]; go_num, fun j hj => by
            by_cases e : j = k
            · subst e; exact Hfit.out
            · exact Hpre.out j (by omega), by first | rfl | simp only [World.drewN_drewN]⟩
          case measure => simp [intOf]; omega
      · have h1 : 0 < k := by omega
        obtain ⟨b2, off2, e3, _, hc2⟩ := hV1.cell (k := k - 1) (by omega)
        simp only [Option.some.injEq, Addr.mk.injEq, and_true] at e3
        obtain ⟨rfl, rfl⟩ := e3
        have hr2 := Hrange.out (k - 1) (by omega)
        obtain ⟨q, hq⟩ : ∃ q, absI (geti l k - geti l (k - 1)) = q := ⟨_, rfl⟩
        have hw : IntKind.i64.wrap (geti l k - geti l (k - 1)) = geti l k - geti l (k - 1) := IntWalk.i64_in _ (by omega)
        have Hq := Lib.hid hq; clear hq
        clear h0
        by_cases he : geti l k = geti l (k - 1)
        · have e4 : (geti l k != geti l (k - 1)) = false := by simp [he]
          have hru : runAt l k = lastRun l k + 1 := runAt_last (.inr he)
          have hru' : (runAt l k : Int) = (lastRun l k : Int) + 1 := by rw [hru]; rfl
          have Hru := Lib.hid hru; clear hru
          have Hru' := Lib.hid hru'; clear hru'
          have He := Lib.hid he; clear he
          by_cases hbad : m.e < (lastRun l k : Int) + 1
          · have hfin := begins_not hkk (fit_run Hru'.out hbad)
            have Hf := Lib.hid hfin; clear hfin
            generalize hLR : lastRun l k = lr at *
            have HLR := Lib.hid hLR; clear hLR
            have hdd : decide (m.e < (lr : Int) + 1) = true := decide_eq_true hbad
            go_wp2_with fail
            go_quiet (fail)
            go_wp2_with fail
            go_quiet (fail)
            go_wp2_with fail
            go_ret
            exact ⟨ret_bool Hf.out.symm, by repeat' first | refine below_drewN ?_ _ | exact hB01⟩
          · by_cases hstep : m.s < q
            · have hfin := begins_not hkk (fit_step Hq.out h1 hstep)
              have Hf := Lib.hid hfin; clear hfin
              generalize hLR : lastRun l k = lr at *
              have HLR := Lib.hid hLR; clear hLR
              have hdd : decide (m.e < (lr : Int) + 1) = false := decide_eq_false hbad
              go_wp2_with fail
              go_quiet (fail)
              go_wp2_with fail
              go_quiet ((go_at_call 237; first | exact quiet_same (l01Abs_b _ _ _ Hq.out (by omega)) | exact quiet_same0 (l01Abs_b _ _ _ Hq.out (by omega))))
              go_wp2_with fail
              go_ret
              exact ⟨ret_bool Hf.out.symm, by repeat' first | refine below_drewN ?_ _ | exact hB01⟩
            · have hfit := fit_ok Hru'.out hbad (.inr (by rw [Hq.out]; exact hstep))
              have Hfit := Lib.hid hfit; clear hfit
              generalize hLR : lastRun l k = lr at *
              have HLR := Lib.hid hLR; clear hLR
              have hdd : decide (m.e < (lr : Int) + 1) = false := decide_eq_false hbad
              have hds : decide (m.s < q) = false := decide_eq_false hstep
              go_wp2_with fail
              go_quiet (fail)
              go_wp2_with fail
              go_quiet ((go_at_call 237; first | exact quiet_same (l01Abs_b _ _ _ Hq.out (by omega)) | exact quiet_same0 (l01Abs_b _ _ _ Hq.out (by omega))))
              go_wp2_with fail
              go_roundw
              case rel => exact ⟨k + 1, _, by omega, by go_num, by rw [show lastRun l (k + 1) = runAt l k from rfl, Hru.out]; go_num, fun j hj => by
                by_cases e : j = k
                · subst e; exact Hfit.out
                · exact Hpre.out j (by omega), by first | rfl | simp only [World.drewN_drewN]⟩
              case measure => simp [intOf]; omega
        · have e4 : (geti l k != geti l (k - 1)) = true := by simp [he]
          have hru : runAt l k = 1 := runAt_new h1 he
          have hru' : (runAt l k : Int) = 1 := by rw [hru]; rfl
          have Hru := Lib.hid hru; clear hru
          have Hru' := Lib.hid hru'; clear hru'
          have He := Lib.hid he; clear he
          by_cases hbad : m.e < 1
          · have hfin := begins_not hkk (fit_run Hru'.out hbad)
            have Hf := Lib.hid hfin; clear hfin
            generalize hLR : lastRun l k = lr at *
            have HLR := Lib.hid hLR; clear hLR
            have hdd : decide (m.e < 1) = true := decide_eq_true hbad
            go_wp2_with fail
            go_quiet (fail)
            go_wp2_with fail
            go_quiet (fail)
            go_wp2_with fail
            go_ret
            exact ⟨ret_bool Hf.out.symm, by repeat' first | refine below_drewN ?_ _ | exact hB01⟩
          · by_cases hstep : m.s < q
            · have hfin := begins_not hkk (fit_step Hq.out h1 hstep)
              have Hf := Lib.hid hfin; clear hfin
              generalize hLR : lastRun l k = lr at *
              have HLR := Lib.hid hLR; clear hLR
              have hdd : decide (m.e < 1) = false := decide_eq_false hbad
              go_wp2_with fail
              go_quiet (fail)
              go_wp2_with fail
              go_quiet ((go_at_call 237; first | exact quiet_same (l01Abs_b _ _ _ Hq.out (by omega)) | exact quiet_same0 (l01Abs_b _ _ _ Hq.out (by omega))))
              go_wp2_with fail
              go_ret
              exact ⟨ret_bool Hf.out.symm, by repeat' first | refine below_drewN ?_ _ | exact hB01⟩
            · have hfit := fit_ok Hru'.out hbad (.inr (by rw [Hq.out]; exact hstep))
              have Hfit := Lib.hid hfit; clear hfit
              generalize hLR : lastRun l k = lr at *
              have HLR := Lib.hid hLR; clear hLR
              have hdd : decide (m.e < 1) = false := decide_eq_false hbad
              have hds : decide (m.s < q) = false := decide_eq_false hstep
              go_wp2_with fail
              go_quiet (fail)
              go_wp2_with fail
              go_quiet ((go_at_call 237; first | exact quiet_same (l01Abs_b _ _ _ Hq.out (by omega)) | exact quiet_same0 (l01Abs_b _ _ _ Hq.out (by omega))))
              go_wp2_with fail
              go_roundw
              case rel => exact ⟨k + 1, _, by omega, by go_num, by rw [show lastRun l (k + 1) = runAt l k from rfl, Hru.out]; rfl, fun j hj => by
                by_cases e : j = k
                · subst e; exact Hfit.out
                · exact Hpre.out j (by omega), by first | rfl | simp only [World.drewN_drewN]⟩
              case measure => simp [intOf]; omega
    · obtain rfl : k = l.length := by omega
      have hfin : begins m l = true := begins_iff.2 Hpre.out
      have Hf := Lib.hid hfin; clear hfin
      generalize hLR : lastRun l l.length = lr at *
      have HLR := Lib.hid hLR; clear hLR
      go_wp2_with fail
      go_ret
      exact ⟨ret_bool Hf.out.symm, by repeat' first | refine below_drewN ?_ _ | exact hB01⟩
theorem l02Begins_b {S : Nat → Prop} (m : Mk) (v : Value) (l : List Int) (W : World) (r : Bool) (hr : begins m l = r) (h : V1 S W v l) (hlen : l.length ≤ 1000) (hrange : ∀ k, k < l.length → 0 ≤ geti l k ∧ geti l k ≤ 7) :
    Calls Tryz.prog 220 #[.agg #[.int .i64 m.c, .int .i64 m.d, .int .i64 m.s, .int .i64 m.e, .int .i64 m.l], v] W fun e' w' => e' = .returned (.bool r) ∧ Below W.heap.size W w' := by subst hr; exact l02Begins_any m v l W h hlen hrange
end Go.Proofs.YtikdbjaimcciiaaGreat

namespace Go.Proofs.YtikdbjaimcciiaaGreat
open Go.RowKit
set_option linter.unusedVariables false
set_option linter.unusedSimpArgs false

theorem V1.pv {S : Nat → Prop} {w : World} {v : Value} {l : List Int} (h : V1 S w v l) (hn : l ≠ []) : PV v := by
  obtain ⟨a, c, rfl, _, _, h⟩ := h
  obtain ⟨b, off, ev, rfl, _⟩ := h 0 (by cases l with | nil => exact absurd rfl hn | cons x xs => simp)
  exact .inr ⟨_, _, _, _, rfl⟩
theorem own_pv {w : World} {B : Nat} {e : TypeId} {v : Value} {n : Nat} {xs : List Value} (h : w.ownsRow B e 1 v n xs) : PV v := by
  rcases h.2 with ⟨rfl, h0⟩ | ⟨g, cap, cur, rfl, _⟩
  · exact .inl rfl
  · exact .inr ⟨_, _, _, _, rfl⟩

def OwnPost (W : World) (l : List Int) (e' : Ending) (w' : World) : Prop := ∃ v', e' = .returned v' ∧ w'.ownsRow W.heap.size 2 1 v' l.length (l.map (Value.int .i64)) ∧ Below W.heap.size W w'
theorem l01Own_any {S : Nat → Prop} (v : Value) (l : List Int) (W : World) (h : V1 S W v l) (hp : l = [] → PV v) (hlen : l.length ≤ 1000000) :
    Calls Tryz.prog 141 #[v] W (OwnPost W l) := by
  obtain ⟨i0, hi, hz0, hz1, hz2⟩ := info_parts inf_int
  have hV := h
  obtain ⟨a, c, rfl, hm⟩ := h.form
  by_cases hn : l = []
  · subst hn
    rcases hp rfl with e | ⟨b, off, n, c', e⟩
    · simp only [List.length_nil, Value.slice.injEq] at e
      obtain ⟨rfl, _, rfl⟩ := e
      have hown0 := own_lit0 W W.heap.size 2 1 (Nat.le_refl _)
      go_enter Tryz.func141, Tryz.ntmps141
      go_wp2_with (at_builtin; refine wpList_append_own_none rfl _ _ 35 rfl W.heap.size 2 i0 1 Tryz.underlying35 hi _ _ _ rfl hown0 rfl ?_)
      go_ret
      exact ⟨_, rfl, hown0, (Below.refl _ _).alloc (Nat.le_refl _) _⟩
    · simp only [List.length_nil, Value.slice.injEq] at e
      obtain ⟨rfl, rfl, rfl⟩ := e
      have hown0 := own_lit0 W W.heap.size 2 1 (Nat.le_refl _)
      go_enter Tryz.func141, Tryz.ntmps141
      go_wp2_with (at_builtin; refine wp_app rfl _ _ 35 rfl W.heap.size 2 (.int .i64 0) 1 8 Tryz.underlying35 inf_int rfl (by omega) _ _ _ rfl hown0 _ _ _ [] rfl rfl (fun j u hj => by simp at hj) (by simp) (by unfold maxLen; omega) (by omega) (by simp) ?_; intro v1 w1 hown1 hgrow1 hblk1)
      go_ret
      exact ⟨_, rfl, hown1, ((Below.refl _ _).alloc (Nat.le_refl _) _).grown hgrow1 (by simp) (fun k hk => by have := hown0.lt k hk; exact this.1)⟩
  · obtain ⟨b, off, rfl, _, _⟩ := hV.cell (k := 0) (by cases l with | nil => exact absurd rfl hn | cons x xs => simp)
    have hown0 := own_lit0 W W.heap.size 2 1 (Nat.le_refl _)
    have hV2 := hV.below ((Below.refl W.heap.size W).alloc (Nat.le_refl _) (.cells #[] 2))
    have hnews : ∀ j u, (l.map (Value.int .i64))[j]? = some u → (W.alloc (.cells #[] 2)).cell? ((⟨b, off, none⟩ : Addr).add j) = some u := by
      intro j u hj
      have hjl : j < l.length := by
        rw [List.getElem?_map] at hj
        by_cases hjl : j < l.length
        · exact hjl
        · rw [List.getElem?_eq_none (by omega)] at hj; cases hj
      obtain ⟨b', off', e, _, hc⟩ := hV2.cell hjl
      simp only [Option.some.injEq, Addr.mk.injEq, and_true] at e
      obtain ⟨rfl, rfl⟩ := e
      rw [List.getElem?_map, List.getElem?_eq_getElem hjl] at hj
      have hadd : (⟨b, off, none⟩ : Addr).add j = ⟨b, off + j, none⟩ := by unfold Addr.add; split <;> simp_all
      rw [hadd, hc, ← hj, geti_eq hjl]; rfl
    have Hnews := Lib.hid hnews; clear hnews
    have Hn := Lib.hid hn; clear hn hp
    go_enter Tryz.func141, Tryz.ntmps141
    go_wp2_with (at_builtin; refine wp_app rfl _ _ 35 rfl W.heap.size 2 (.int .i64 0) 1 8 Tryz.underlying35 inf_int rfl (by omega) _ _ _ rfl hown0 _ _ _ (l.map (Value.int .i64)) rfl (by simp) Hnews.out (by intro u hu; simp at hu; obtain ⟨x, _, rfl⟩ := hu; rfl) (by unfold maxLen; omega) (by omega) (by simp) ?_; intro v1 w1 hown1 hgrow1 hblk1)
    go_ret
    refine ⟨_, rfl, ?_, ((Below.refl _ _).alloc (Nat.le_refl _) _).grown hgrow1 (by simp) (fun k hk => by have := hown0.lt k hk; exact this.1)⟩
    simpa using hown1
end Go.Proofs.YtikdbjaimcciiaaGreat

namespace Go.Proofs.YtikdbjaimcciiaaGreat
open Go.RowKit
set_option linter.unusedVariables false
set_option linter.unusedSimpArgs false

theorem own_V1T {w : World} {B : Nat} {e : TypeId} {v : Value} {n : Nat} {l : List Int} {xs : List Value} (h : w.ownsRow B e 1 v n xs) (hx : xs = l.map (Value.int .i64)) : V1 (fun _ => True) w v l := by
  subst hx; exact (own_V1 h).mono (fun _ _ _ => trivial) (fun _ _ _ => rfl)
def cntTo (m : Mk) (rem : Nat) (l : List Int) (x : Nat) : Nat := ((depths 0 x).flatMap fun y => genB m rem (l ++ [y])).length
theorem cntTo_succ (m : Mk) (rem : Nat) (l : List Int) (x : Nat) : cntTo m rem l (x + 1) = cntTo m rem l x + (genB m rem (l ++ [(x : Int)])).length := by
  unfold cntTo; rw [depths_snoc (Nat.zero_le _)]; simp
theorem genB_le {m : Mk} (hd : m.d.toNat ≤ 8) (rem : Nat) (l : List Int) (hr : rem ≤ 6) : (genB m rem l).length ≤ 262144 := by
  unfold genB
  split
  · refine Nat.le_trans (gen_length 8 hd rem l) ?_
    exact Nat.le_trans (Nat.pow_le_pow_right (by decide) hr) (by decide)
  · simp
theorem cntTo_le {m : Mk} (hd : m.d.toNat ≤ 8) (rem : Nat) (l : List Int) (hr : rem ≤ 6) : ∀ x, cntTo m rem l x ≤ x * 262144
  | 0 => by simp [cntTo, depths]
  | x + 1 => by rw [cntTo_succ]; have := cntTo_le hd rem l hr x; have := genB_le hd rem (l ++ [(x : Int)]) hr; omega

theorem mkB_keep {b B : Nat} {w0 w w' : World} {c0 c1 c2 c3 c4 : Value} (hbB : b < B) (h : w.cell? ⟨b, 0, none⟩ = some c0 ∧ w.cell? ⟨b, 1, none⟩ = some c1 ∧ w.cell? ⟨b, 2, none⟩ = some c2 ∧ w.cell? ⟨b, 3, none⟩ = some c3 ∧ w.cell? ⟨b, 4, none⟩ = some c4 ∧ Below B w0 w) (hb : Below B w w') :
    w'.cell? ⟨b, 0, none⟩ = some c0 ∧ w'.cell? ⟨b, 1, none⟩ = some c1 ∧ w'.cell? ⟨b, 2, none⟩ = some c2 ∧ w'.cell? ⟨b, 3, none⟩ = some c3 ∧ w'.cell? ⟨b, 4, none⟩ = some c4 ∧ Below B w0 w' := by
  obtain ⟨h0, h1, h2, h3, h4, h5⟩ := h
  have hk := hb.block b hbB
  exact ⟨cell_keep h0 hk, cell_keep h1 hk, cell_keep h2 hk, cell_keep h3 hk, cell_keep h4 hk, h5.trans hb⟩

def MkS (b B : Nat) (m : Mk) (w0 w : World) : Prop :=
  w.cell? ⟨b, 0, none⟩ = some (.int .i64 m.c) ∧ w.cell? ⟨b, 1, none⟩ = some (.int .i64 m.d) ∧ w.cell? ⟨b, 2, none⟩ = some (.int .i64 m.s) ∧ w.cell? ⟨b, 3, none⟩ = some (.int .i64 m.e) ∧ w.cell? ⟨b, 4, none⟩ = some (.int .i64 m.l) ∧ Below B w0 w
section
variable {b : Nat} {w0 w w' : World} {c0 c1 c2 c3 c4 : Value}
theorem mkB_call (hbB : b < w0.heap.size) (h : w.cell? ⟨b, 0, none⟩ = some c0 ∧ w.cell? ⟨b, 1, none⟩ = some c1 ∧ w.cell? ⟨b, 2, none⟩ = some c2 ∧ w.cell? ⟨b, 3, none⟩ = some c3 ∧ w.cell? ⟨b, 4, none⟩ = some c4 ∧ Below w0.heap.size w0 w) (hb : Below w.heap.size w w') :
    w'.cell? ⟨b, 0, none⟩ = some c0 ∧ w'.cell? ⟨b, 1, none⟩ = some c1 ∧ w'.cell? ⟨b, 2, none⟩ = some c2 ∧ w'.cell? ⟨b, 3, none⟩ = some c3 ∧ w'.cell? ⟨b, 4, none⟩ = some c4 ∧ Below w0.heap.size w0 w' :=
  mkB_keep hbB h (hb.mono h.2.2.2.2.2.size)
theorem mkB_alloc (hbB : b < w0.heap.size) (h : w.cell? ⟨b, 0, none⟩ = some c0 ∧ w.cell? ⟨b, 1, none⟩ = some c1 ∧ w.cell? ⟨b, 2, none⟩ = some c2 ∧ w.cell? ⟨b, 3, none⟩ = some c3 ∧ w.cell? ⟨b, 4, none⟩ = some c4 ∧ Below w0.heap.size w0 w) (o : Obj) :
    (w.alloc o).cell? ⟨b, 0, none⟩ = some c0 ∧ (w.alloc o).cell? ⟨b, 1, none⟩ = some c1 ∧ (w.alloc o).cell? ⟨b, 2, none⟩ = some c2 ∧ (w.alloc o).cell? ⟨b, 3, none⟩ = some c3 ∧ (w.alloc o).cell? ⟨b, 4, none⟩ = some c4 ∧ Below w0.heap.size w0 (w.alloc o) :=
  mkB_call hbB h ((Below.refl _ _).alloc (Nat.le_refl _) _)
theorem mkB_grown {ob : Option Nat} (hbB : b < w0.heap.size) (h : w.cell? ⟨b, 0, none⟩ = some c0 ∧ w.cell? ⟨b, 1, none⟩ = some c1 ∧ w.cell? ⟨b, 2, none⟩ = some c2 ∧ w.cell? ⟨b, 3, none⟩ = some c3 ∧ w.cell? ⟨b, 4, none⟩ = some c4 ∧ Below w0.heap.size w0 w) (hg : w.grownBy w' ob) (ho : ∀ k, ob = some k → w0.heap.size ≤ k) :
    w'.cell? ⟨b, 0, none⟩ = some c0 ∧ w'.cell? ⟨b, 1, none⟩ = some c1 ∧ w'.cell? ⟨b, 2, none⟩ = some c2 ∧ w'.cell? ⟨b, 3, none⟩ = some c3 ∧ w'.cell? ⟨b, 4, none⟩ = some c4 ∧ Below w0.heap.size w0 w' :=
  mkB_keep hbB h ((Below.refl _ _).grown hg h.2.2.2.2.2.size ho)
theorem mkB_below (h : w.cell? ⟨b, 0, none⟩ = some c0 ∧ w.cell? ⟨b, 1, none⟩ = some c1 ∧ w.cell? ⟨b, 2, none⟩ = some c2 ∧ w.cell? ⟨b, 3, none⟩ = some c3 ∧ w.cell? ⟨b, 4, none⟩ = some c4 ∧ Below w0.heap.size w0 w) : Below w0.heap.size w0 w := h.2.2.2.2.2
theorem mkB_size (h : w.cell? ⟨b, 0, none⟩ = some c0 ∧ w.cell? ⟨b, 1, none⟩ = some c1 ∧ w.cell? ⟨b, 2, none⟩ = some c2 ∧ w.cell? ⟨b, 3, none⟩ = some c3 ∧ w.cell? ⟨b, 4, none⟩ = some c4 ∧ Below w0.heap.size w0 w) : w0.heap.size ≤ w.heap.size := h.2.2.2.2.2.size
end
theorem news_old {w w' : World} {cs : Array Value} {T : TypeId} (hb : Below (w.alloc (.cells cs T)).drew.heap.size (w.alloc (.cells cs T)).drew w') : ∀ j u, cs.toList[j]? = some u → w'.cell? ((⟨w.heap.size, 0, none⟩ : Addr).add j) = some u :=
  World.news_of_block (heap_below (w := (w.alloc (.cells cs T)).drew) (heap_alloc_new w _) hb (by simp))
theorem range_snoc {l : List Int} {x : Nat} (h : ∀ k, k < l.length → 0 ≤ geti l k ∧ geti l k ≤ 7) (hx : x < 8) : ∀ k, k < (l ++ [(x : Int)]).length → 0 ≤ geti (l ++ [(x : Int)]) k ∧ geti (l ++ [(x : Int)]) k ≤ 7 := by
  intro k hk
  by_cases hkl : k < l.length
  · rw [geti_append hkl]; exact h k hkl
  · rw [show k = l.length from by simp at hk; omega, geti_snoc]; omega

end Go.Proofs.YtikdbjaimcciiaaGreat
