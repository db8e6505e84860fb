/- What the reference answers on the beginnings of keys. No conditions. -/
import Derived.Laws.AppendOwnNone
import Derived.Deep.RegionHeld3
import Derived.Deep.AppendLies
import Derived.Laws.OwnMore
import Derived.Test.YtmjplkbmhdkggaaGreatMFalse
import Derived.Test.YtmjplkbmhdkggaaGreatMLib
import Derived.Test.YtmjplkbmhdkggaaGreatMTable
import Derived.Test.YtmjplkbmhdkggaaGreatMGen
import Derived.Test.YtmjplkbmhdkggaaGreatMShelf0
namespace Go.Proofs.YtmjplkbmhdkggaaGreat
open Go.RowKit
set_option linter.unusedVariables false
set_option linter.unusedSimpArgs false
theorem fit_run {m : Mk} {l : List Int} {k : Nat} {r : Int} (hr : (runAt l k : Int) = r) (h : m.e < r) : fitAt m l k = false := by
 unfold fitAt; rw [hr, decide_eq_false (by omega)]; rfl
theorem fit_step {m : Mk} {l : List Int} {k : Nat} {q : Int} (hq : absI (geti l k - geti l (k - 1)) = q) (h0 : 0 < k) (h : m.s < q) : fitAt m l k = false := by
 unfold fitAt; rw [hq]
 have h1 : (k == 0) = false := by simp; omega
 rw [h1, decide_eq_false (show ¬ q ≤ m.s by omega)]; simp
theorem fit_ok {m : Mk} {l : List Int} {k : Nat} {r : Int} (hr : (runAt l k : Int) = r) (h : ¬ m.e < r) (hs : k = 0 ∨ ¬ m.s < absI (geti l k - geti l (k - 1))) : fitAt m l k = true := by
 unfold fitAt; rw [hr, decide_eq_true (show r ≤ m.e by omega), Bool.true_and]
 rcases hs with h | h
 ·subst h; rfl
 ·rw [decide_eq_true (show absI (geti l k - geti l (k - 1)) ≤ m.s by omega)]; simp
theorem begins_not {m : Mk} {l : List Int} {k : Nat} (h : k < l.length) (hf : fitAt m l k = false) : begins m l = false := by
 rw [← Bool.not_eq_true, begins_iff]; intro hc; rw [hc k h] at hf; cases hf
set_option maxRecDepth 100000 in
theorem l02Begins_any {S : Nat → Prop} (m : Mk) (v : Value) (l : List Int) (W : World) (h : V1 S W v l) (hlen : l.length ≤ 1000) (hrange : ∀ k, k < l.length → 0 ≤ geti l k ∧ geti l k ≤ 7) :
  Calls Tryz.prog 176 #[.agg #[.int .i64 m.c, .int .i64 m.d, .int .i64 m.s, .int .i64 m.e, .int .i64 m.l], v] W fun e' w' => e' = .returned (.bool (begins m l)) ∧ Below W.heap.size W w' := by
 have hV := h
 have Hrange := Lib.hid hrange; clear hrange
 obtain ⟨a, c, rfl, hmx⟩ := h.form
 obtain ⟨W1, hW1, hB01, hz01, HZ01, hc01, hh01⟩ := box_facts W #[.int .i64 m.c, .int .i64 m.d, .int .i64 m.s, .int .i64 m.e, .int .i64 m.l] 31
 have hV1 := hV.below hB01
 go_enter Tryz.func176, Tryz.ntmps176
 go_wp2_with fail
 rw [← hW1]
 have HW1 := Lib.hid hW1; clear hW1
 clear hh01
 go_wp2_with fail
 go_loopw [5, 6] (fun ru i wr => ∃ k n : Nat, k ≤ l.length ∧ i = .int .i64 (k : Int) ∧ ru = .int .i64 (lastRun l k : Int) ∧ (∀ j, j < k → fitAt m l j = true) ∧ wr = W1.drewN n) (fun _ i _ => l.length - (intOf i).toNat)
 case atStart => exact ⟨0, 0, Nat.zero_le _, rfl, rfl, fun j hj => by omega, rfl⟩
 case round =>
  obtain ⟨k, n, hk, rfl, rfl, hpre, rfl⟩ := hrel
  have Hpre := Lib.hid hpre; clear hpre
  have hlr := lastRun_le l k
  by_cases hkk : k < l.length
  ·obtain ⟨b1, off1, rfl, _, hc1⟩ := hV1.cell hkk
   have hr1 := Hrange.out _ hkk
   by_cases h0 : k = 0
   ·have hru : runAt l k = lastRun l k + 1 := runAt_last (.inl h0)
    have hd : decide (0 < k) = false := by simp [h0]
    have H0 := Lib.hid h0; clear h0
    have hru' : (runAt l k : Int) = (lastRun l k : Int) + 1 := by rw [hru]; rfl
    have Hru := Lib.hid hru; clear hru
    have Hru' := Lib.hid hru'; clear hru'
    by_cases hbad : m.e < (lastRun l k : Int) + 1
    ·have hfin := begins_not hkk (fit_run Hru'.out hbad)
     have Hf := Lib.hid hfin; clear hfin
     generalize hLR : lastRun l k = lr at *
     have HLR := Lib.hid hLR; clear hLR
     have hdd : decide (m.e < (lr : Int) + 1) = true := decide_eq_true hbad
     go_wp2_with fail
     go_quiet (fail)
     go_wp2_with fail
     go_quiet (fail)
     go_wp2_with fail
     go_ret
     exact ⟨ret_bool Hf.out.symm, by repeat' first | refine below_drewN ?_ _ | exact hB01⟩
    ·have hfit := fit_ok Hru'.out hbad (.inl H0.out)
     have Hfit := Lib.hid hfit; clear hfit
     generalize hLR : lastRun l k = lr at *
     have HLR := Lib.hid hLR; clear hLR
     have hdd : decide (m.e < (lr : Int) + 1) = false := decide_eq_false hbad
     go_wp2_with fail
     go_quiet (fail)
     go_wp2_with fail
     go_quiet (fail)
     go_wp2_with fail
     go_roundw
     case rel => exact ⟨k + 1, _, by omega, by go_num, by rw [show lastRun l (k + 1) = runAt l k from rfl, Hru.out]; go_num, fun j hj => by
      by_cases e : j = k
      ·subst e; exact Hfit.out
      ·exact Hpre.out j (by omega), by first | rfl | simp only [World.drewN_drewN]⟩
     case measure => simp [intOf]; omega
   ·have h1 : 0 < k := by omega
    obtain ⟨b2, off2, e3, _, hc2⟩ := hV1.cell (k := k - 1) (by omega)
    simp only [Option.some.injEq, Addr.mk.injEq, and_true] at e3
    obtain ⟨rfl, rfl⟩ := e3
    have hr2 := Hrange.out (k - 1) (by omega)
    obtain ⟨q, hq⟩ : ∃ q, absI (geti l k - geti l (k - 1)) = q := ⟨_, rfl⟩
    have hw : IntKind.i64.wrap (geti l k - geti l (k - 1)) = geti l k - geti l (k - 1) := IntWalk.i64_in _ (by omega)
    have Hq := Lib.hid hq; clear hq
    clear h0
    by_cases he : geti l k = geti l (k - 1)
    ·have e4 : (geti l k != geti l (k - 1)) = false := by simp [he]
     have hru : runAt l k = lastRun l k + 1 := runAt_last (.inr he)
     have hru' : (runAt l k : Int) = (lastRun l k : Int) + 1 := by rw [hru]; rfl
     have Hru := Lib.hid hru; clear hru
     have Hru' := Lib.hid hru'; clear hru'
     have He := Lib.hid he; clear he
     by_cases hbad : m.e < (lastRun l k : Int) + 1
     ·have hfin := begins_not hkk (fit_run Hru'.out hbad)
      have Hf := Lib.hid hfin; clear hfin
      generalize hLR : lastRun l k = lr at *
      have HLR := Lib.hid hLR; clear hLR
      have hdd : decide (m.e < (lr : Int) + 1) = true := decide_eq_true hbad
      go_wp2_with fail
      go_quiet (fail)
      go_wp2_with fail
      go_quiet (fail)
      go_wp2_with fail
      go_ret
      exact ⟨ret_bool Hf.out.symm, by repeat' first | refine below_drewN ?_ _ | exact hB01⟩
     ·by_cases hstep : m.s < q
      ·have hfin := begins_not hkk (fit_step Hq.out h1 hstep)
       have Hf := Lib.hid hfin; clear hfin
       generalize hLR : lastRun l k = lr at *
       have HLR := Lib.hid hLR; clear hLR
       have hdd : decide (m.e < (lr : Int) + 1) = false := decide_eq_false hbad
       go_wp2_with fail
       go_quiet (fail)
       go_wp2_with fail
       go_quiet ((go_at_call 199; first | exact quiet_same (l01Abs_b _ _ _ Hq.out (by omega)) | exact quiet_same0 (l01Abs_b _ _ _ Hq.out (by omega))))
       go_wp2_with fail
       go_ret
       exact ⟨ret_bool Hf.out.symm, by repeat' first | refine below_drewN ?_ _ | exact hB01⟩
      ·have hfit := fit_ok Hru'.out hbad (.inr (by rw [Hq.out]; exact hstep))
       have Hfit := Lib.hid hfit; clear hfit
       generalize hLR : lastRun l k = lr at *
       have HLR := Lib.hid hLR; clear hLR
       have hdd : decide (m.e < (lr : Int) + 1) = false := decide_eq_false hbad
       have hds : decide (m.s < q) = false := decide_eq_false hstep
       go_wp2_with fail
       go_quiet (fail)
       go_wp2_with fail
       go_quiet ((go_at_call 199; first | exact quiet_same (l01Abs_b _ _ _ Hq.out (by omega)) | exact quiet_same0 (l01Abs_b _ _ _ Hq.out (by omega))))
       go_wp2_with fail
       go_roundw
       case rel => exact ⟨k + 1, _, by omega, by go_num, by rw [show lastRun l (k + 1) = runAt l k from rfl, Hru.out]; go_num, fun j hj => by
        by_cases e : j = k
        ·subst e; exact Hfit.out
        ·exact Hpre.out j (by omega), by first | rfl | simp only [World.drewN_drewN]⟩
       case measure => simp [intOf]; omega
    ·have e4 : (geti l k != geti l (k - 1)) = true := by simp [he]
     have hru : runAt l k = 1 := runAt_new h1 he
     have hru' : (runAt l k : Int) = 1 := by rw [hru]; rfl
     have Hru := Lib.hid hru; clear hru
     have Hru' := Lib.hid hru'; clear hru'
     have He := Lib.hid he; clear he
     by_cases hbad : m.e < 1
     ·have hfin := begins_not hkk (fit_run Hru'.out hbad)
      have Hf := Lib.hid hfin; clear hfin
      generalize hLR : lastRun l k = lr at *
      have HLR := Lib.hid hLR; clear hLR
      have hdd : decide (m.e < 1) = true := decide_eq_true hbad
      go_wp2_with fail
      go_quiet (fail)
      go_wp2_with fail
      go_quiet (fail)
      go_wp2_with fail
      go_ret
      exact ⟨ret_bool Hf.out.symm, by repeat' first | refine below_drewN ?_ _ | exact hB01⟩
     ·by_cases hstep : m.s < q
      ·have hfin := begins_not hkk (fit_step Hq.out h1 hstep)
       have Hf := Lib.hid hfin; clear hfin
       generalize hLR : lastRun l k = lr at *
       have HLR := Lib.hid hLR; clear hLR
       have hdd : decide (m.e < 1) = false := decide_eq_false hbad
       go_wp2_with fail
       go_quiet (fail)
       go_wp2_with fail
       go_quiet ((go_at_call 199; first | exact quiet_same (l01Abs_b _ _ _ Hq.out (by omega)) | exact quiet_same0 (l01Abs_b _ _ _ Hq.out (by omega))))
       go_wp2_with fail
       go_ret
       exact ⟨ret_bool Hf.out.symm, by repeat' first | refine below_drewN ?_ _ | exact hB01⟩
      ·have hfit := fit_ok Hru'.out hbad (.inr (by rw [Hq.out]; exact hstep))
       have Hfit := Lib.hid hfit; clear hfit
       generalize hLR : lastRun l k = lr at *
       have HLR := Lib.hid hLR; clear hLR
       have hdd : decide (m.e < 1) = false := decide_eq_false hbad
       have hds : decide (m.s < q) = false := decide_eq_false hstep
       go_wp2_with fail
       go_quiet (fail)
       go_wp2_with fail
       go_quiet ((go_at_call 199; first | exact quiet_same (l01Abs_b _ _ _ Hq.out (by omega)) | exact quiet_same0 (l01Abs_b _ _ _ Hq.out (by omega))))
       go_wp2_with fail
       go_roundw
       case rel => exact ⟨k + 1, _, by omega, by go_num, by rw [show lastRun l (k + 1) = runAt l k from rfl, Hru.out]; rfl, fun j hj => by
        by_cases e : j = k
        ·subst e; exact Hfit.out
        ·exact Hpre.out j (by omega), by first | rfl | simp only [World.drewN_drewN]⟩
       case measure => simp [intOf]; omega
  ·obtain rfl : k = l.length := by omega
   have hfin : begins m l = true := begins_iff.2 Hpre.out
   have Hf := Lib.hid hfin; clear hfin
   generalize hLR : lastRun l l.length = lr at *
   have HLR := Lib.hid hLR; clear hLR
   go_wp2_with fail
   go_ret
   exact ⟨ret_bool Hf.out.symm, by repeat' first | refine below_drewN ?_ _ | exact hB01⟩
theorem l02Begins_b {S : Nat → Prop} (m : Mk) (v : Value) (l : List Int) (W : World) (r : Bool) (hr : begins m l = r) (h : V1 S W v l) (hlen : l.length ≤ 1000) (hrange : ∀ k, k < l.length → 0 ≤ geti l k ∧ geti l k ≤ 7) :
  Calls Tryz.prog 176 #[.agg #[.int .i64 m.c, .int .i64 m.d, .int .i64 m.s, .int .i64 m.e, .int .i64 m.l], v] W fun e' w' => e' = .returned (.bool r) ∧ Below W.heap.size W w' := by subst hr; exact l02Begins_any m v l W h hlen hrange
theorem V1.pv {S : Nat → Prop} {w : World} {v : Value} {l : List Int} (h : V1 S w v l) (hn : l ≠ []) : PV v := by
 obtain ⟨a, c, rfl, _, _, h⟩ := h
 obtain ⟨b, off, ev, rfl, _⟩ := h 0 (by cases l with | nil => exact absurd rfl hn | cons x xs => simp)
 exact .inr ⟨_, _, _, _, rfl⟩
def OwnPost (W : World) (l : List Int) (e' : Ending) (w' : World) : Prop := ∃ v', e' = .returned v' ∧ w'.ownsRow W.heap.size 2 1 v' l.length (l.map (Value.int .i64)) ∧ Below W.heap.size W w'
theorem l01Own_any {S : Nat → Prop} (v : Value) (l : List Int) (W : World) (h : V1 S W v l) (hp : l = [] → PV v) (hlen : l.length ≤ 1000000) :
  Calls Tryz.prog 77 #[v] W (OwnPost W l) := by
 obtain ⟨i0, hi, hz0, hz1, hz2⟩ := info_parts inf_int
 have hV := h
 obtain ⟨a, c, rfl, hm⟩ := h.form
 by_cases hn : l = []
 ·subst hn
  rcases hp rfl with e | ⟨b, off, n, c', e⟩
  ·simp only [List.length_nil, Value.slice.injEq] at e
   obtain ⟨rfl, _, rfl⟩ := e
   have hown0 := own_lit0 W W.heap.size 2 1 (Nat.le_refl _)
   go_enter Tryz.func77, Tryz.ntmps77
   go_wp2_with (at_builtin; refine wpList_append_own_none rfl _ _ 44 rfl W.heap.size 2 i0 1 Tryz.underlying44 hi _ _ _ rfl hown0 rfl ?_)
   go_ret
   exact ⟨_, rfl, hown0, (Below.refl _ _).alloc (Nat.le_refl _) _⟩
  ·simp only [List.length_nil, Value.slice.injEq] at e
   obtain ⟨rfl, rfl, rfl⟩ := e
   have hown0 := own_lit0 W W.heap.size 2 1 (Nat.le_refl _)
   go_enter Tryz.func77, Tryz.ntmps77
   go_wp2_with (at_builtin; refine wp_app rfl _ _ 44 rfl W.heap.size 2 (.int .i64 0) 1 8 Tryz.underlying44 inf_int rfl (by omega) _ _ _ rfl hown0 _ _ _ [] rfl rfl (fun j u hj => by simp at hj) (by simp) (by unfold maxLen; omega) (by omega) (by simp) ?_; intro v1 w1 hown1 hgrow1 hblk1)
   go_ret
   exact ⟨_, rfl, hown1, ((Below.refl _ _).alloc (Nat.le_refl _) _).grown hgrow1 (by simp) (fun k hk => by have := hown0.lt k hk; exact this.1)⟩
 ·obtain ⟨b, off, rfl, _, _⟩ := hV.cell (k := 0) (by cases l with | nil => exact absurd rfl hn | cons x xs => simp)
  have hown0 := own_lit0 W W.heap.size 2 1 (Nat.le_refl _)
  have hV2 := hV.below ((Below.refl W.heap.size W).alloc (Nat.le_refl _) (.cells #[] 2))
  have hnews : ∀ j u, (l.map (Value.int .i64))[j]? = some u → (W.alloc (.cells #[] 2)).cell? ((⟨b, off, none⟩ : Addr).add j) = some u := by
   intro j u hj
   have hjl : j < l.length := by
    rw [List.getElem?_map] at hj
    by_cases hjl : j < l.length
    ·exact hjl
    ·rw [List.getElem?_eq_none (by omega)] at hj; cases hj
   obtain ⟨b', off', e, _, hc⟩ := hV2.cell hjl
   simp only [Option.some.injEq, Addr.mk.injEq, and_true] at e
   obtain ⟨rfl, rfl⟩ := e
   rw [List.getElem?_map, List.getElem?_eq_getElem hjl] at hj
   have hadd : (⟨b, off, none⟩ : Addr).add j = ⟨b, off + j, none⟩ := by unfold Addr.add; split <;> simp_all
   rw [hadd, hc, ← hj, geti_eq hjl]; rfl
  have Hnews := Lib.hid hnews; clear hnews
  have Hn := Lib.hid hn; clear hn hp
  go_enter Tryz.func77, Tryz.ntmps77
  go_wp2_with (at_builtin; refine wp_app rfl _ _ 44 rfl W.heap.size 2 (.int .i64 0) 1 8 Tryz.underlying44 inf_int rfl (by omega) _ _ _ rfl hown0 _ _ _ (l.map (Value.int .i64)) rfl (by simp) Hnews.out (by intro u hu; simp at hu; obtain ⟨x, _, rfl⟩ := hu; rfl) (by unfold maxLen; omega) (by omega) (by simp) ?_; intro v1 w1 hown1 hgrow1 hblk1)
  go_ret
  refine ⟨_, rfl, ?_, ((Below.refl _ _).alloc (Nat.le_refl _) _).grown hgrow1 (by simp) (fun k hk => by have := hown0.lt k hk; exact this.1)⟩
  simpa using hown1
theorem mkB_keep {b B : Nat} {w0 w w' : World} {c0 c1 c2 c3 c4 : Value} (hbB : b < B) (h : w.cell? ⟨b, 0, none⟩ = some c0 ∧ w.cell? ⟨b, 1, none⟩ = some c1 ∧ w.cell? ⟨b, 2, none⟩ = some c2 ∧ w.cell? ⟨b, 3, none⟩ = some c3 ∧ w.cell? ⟨b, 4, none⟩ = some c4 ∧ Below B w0 w) (hb : Below B w w') :
  w'.cell? ⟨b, 0, none⟩ = some c0 ∧ w'.cell? ⟨b, 1, none⟩ = some c1 ∧ w'.cell? ⟨b, 2, none⟩ = some c2 ∧ w'.cell? ⟨b, 3, none⟩ = some c3 ∧ w'.cell? ⟨b, 4, none⟩ = some c4 ∧ Below B w0 w' := by
 obtain ⟨h0, h1, h2, h3, h4, h5⟩ := h
 have hk := hb.block b hbB
 exact ⟨cell_keep h0 hk, cell_keep h1 hk, cell_keep h2 hk, cell_keep h3 hk, cell_keep h4 hk, h5.trans hb⟩
section
variable {b : Nat} {w0 w w' : World} {c0 c1 c2 c3 c4 : Value}
theorem mkB_call (hbB : b < w0.heap.size) (h : w.cell? ⟨b, 0, none⟩ = some c0 ∧ w.cell? ⟨b, 1, none⟩ = some c1 ∧ w.cell? ⟨b, 2, none⟩ = some c2 ∧ w.cell? ⟨b, 3, none⟩ = some c3 ∧ w.cell? ⟨b, 4, none⟩ = some c4 ∧ Below w0.heap.size w0 w) (hb : Below w.heap.size w w') :
  w'.cell? ⟨b, 0, none⟩ = some c0 ∧ w'.cell? ⟨b, 1, none⟩ = some c1 ∧ w'.cell? ⟨b, 2, none⟩ = some c2 ∧ w'.cell? ⟨b, 3, none⟩ = some c3 ∧ w'.cell? ⟨b, 4, none⟩ = some c4 ∧ Below w0.heap.size w0 w' :=
 mkB_keep hbB h (hb.mono h.2.2.2.2.2.size)
theorem mkB_alloc (hbB : b < w0.heap.size) (h : w.cell? ⟨b, 0, none⟩ = some c0 ∧ w.cell? ⟨b, 1, none⟩ = some c1 ∧ w.cell? ⟨b, 2, none⟩ = some c2 ∧ w.cell? ⟨b, 3, none⟩ = some c3 ∧ w.cell? ⟨b, 4, none⟩ = some c4 ∧ Below w0.heap.size w0 w) (o : Obj) :
  (w.alloc o).cell? ⟨b, 0, none⟩ = some c0 ∧ (w.alloc o).cell? ⟨b, 1, none⟩ = some c1 ∧ (w.alloc o).cell? ⟨b, 2, none⟩ = some c2 ∧ (w.alloc o).cell? ⟨b, 3, none⟩ = some c3 ∧ (w.alloc o).cell? ⟨b, 4, none⟩ = some c4 ∧ Below w0.heap.size w0 (w.alloc o) :=
 mkB_call hbB h ((Below.refl _ _).alloc (Nat.le_refl _) _)
theorem mkB_grown {ob : Option Nat} (hbB : b < w0.heap.size) (h : w.cell? ⟨b, 0, none⟩ = some c0 ∧ w.cell? ⟨b, 1, none⟩ = some c1 ∧ w.cell? ⟨b, 2, none⟩ = some c2 ∧ w.cell? ⟨b, 3, none⟩ = some c3 ∧ w.cell? ⟨b, 4, none⟩ = some c4 ∧ Below w0.heap.size w0 w) (hg : w.grownBy w' ob) (ho : ∀ k, ob = some k → w0.heap.size ≤ k) :
  w'.cell? ⟨b, 0, none⟩ = some c0 ∧ w'.cell? ⟨b, 1, none⟩ = some c1 ∧ w'.cell? ⟨b, 2, none⟩ = some c2 ∧ w'.cell? ⟨b, 3, none⟩ = some c3 ∧ w'.cell? ⟨b, 4, none⟩ = some c4 ∧ Below w0.heap.size w0 w' :=
 mkB_keep hbB h ((Below.refl _ _).grown hg h.2.2.2.2.2.size ho)
theorem mkB_below (h : w.cell? ⟨b, 0, none⟩ = some c0 ∧ w.cell? ⟨b, 1, none⟩ = some c1 ∧ w.cell? ⟨b, 2, none⟩ = some c2 ∧ w.cell? ⟨b, 3, none⟩ = some c3 ∧ w.cell? ⟨b, 4, none⟩ = some c4 ∧ Below w0.heap.size w0 w) : Below w0.heap.size w0 w := h.2.2.2.2.2
theorem mkB_size (h : w.cell? ⟨b, 0, none⟩ = some c0 ∧ w.cell? ⟨b, 1, none⟩ = some c1 ∧ w.cell? ⟨b, 2, none⟩ = some c2 ∧ w.cell? ⟨b, 3, none⟩ = some c3 ∧ w.cell? ⟨b, 4, none⟩ = some c4 ∧ Below w0.heap.size w0 w) : w0.heap.size ≤ w.heap.size := h.2.2.2.2.2.size
end
theorem news_old {w w' : World} {cs : Array Value} {T : TypeId} (hb : Below (w.alloc (.cells cs T)).drew.heap.size (w.alloc (.cells cs T)).drew w') : ∀ j u, cs.toList[j]? = some u → w'.cell? ((⟨w.heap.size, 0, none⟩ : Addr).add j) = some u :=
 World.news_of_block (heap_below (w := (w.alloc (.cells cs T)).drew) (heap_alloc_new w _) hb (by simp))
theorem range_snoc {l : List Int} {x : Nat} (h : ∀ k, k < l.length → 0 ≤ geti l k ∧ geti l k ≤ 7) (hx : x < 8) : ∀ k, k < (l ++ [(x : Int)]).length → 0 ≤ geti (l ++ [(x : Int)]) k ∧ geti (l ++ [(x : Int)]) k ≤ 7 := by
 intro k hk
 by_cases hkl : k < l.length
 ·rw [geti_append hkl]; exact h k hkl
 ·rw [show k = l.length from by simp at hk; omega, geti_snoc]; omega
theorem isSys_parts {m : Mk} {t : List (List Int)} (h : isSys m t = true) : m.ok = true ∧ isTab t = true ∧ upAll (doorOpen t) (getl t 0).length 0 = true := by
 simp only [isSys, Bool.and_eq_true] at h; exact ⟨h.1, h.2.1, h.2.2⟩
theorem one1_keep {b b' off : Nat} {w0 w w' : World} {cs : Array Value} {v : Value} (hb1 : b < w0.heap.size ∧ b' < w0.heap.size) (h : (∀ o, w.cell? ⟨b, o, none⟩ = cs[o]?) ∧ w.cell? ⟨b', off, none⟩ = some v ∧ Below w0.heap.size w0 w) (hb : Below w.heap.size w w') :
  (∀ o, w'.cell? ⟨b, o, none⟩ = cs[o]?) ∧ w'.cell? ⟨b', off, none⟩ = some v ∧ Below w0.heap.size w0 w' := by
 obtain ⟨h1, h2, h3⟩ := h
 have := h3.size
 exact ⟨fun o => by rw [(bcell hb).1 _ _ (by omega), h1], by rw [(bcell hb).1 _ _ (by omega), h2], h3.trans (hb.mono h3.size)⟩
theorem one1_below {b b' off : Nat} {w0 w : World} {cs : Array Value} {v : Value} (h : (∀ o, w.cell? ⟨b, o, none⟩ = cs[o]?) ∧ w.cell? ⟨b', off, none⟩ = some v ∧ Below w0.heap.size w0 w) : Below w0.heap.size w0 w := h.2.2
def allKeys (m : Mk) (cuts : List (List Int)) : Bool := cuts.all (isKeyB m)
theorem allKeys_step {m : Mk} {l : List (List Int)} {k : Nat} (h : k < l.length) : allKeys m (l.drop k) = (isKeyB m (getl l k) && allKeys m (l.drop (k + 1))) := all_stepl _ h
theorem allKeys_iff {m : Mk} {l : List (List Int)} : allKeys m l = true ↔ ∀ k, k < l.length → isKeyB m (getl l k) = true := by
 simp only [allKeys, List.all_eq_true]
 constructor
 ·intro h k hk; exact h _ (getl_mem hk)
 ·intro h x hx
  obtain ⟨k, hk, rfl⟩ := List.getElem_of_mem hx
  have := h k hk
  rwa [getl_eq hk] at this
theorem any_notKey (m : Mk) (l : List (List Int)) : (l.any fun x => !isKeyB m x) = !allKeys m l := by
 unfold allKeys; induction l with
 | nil => rfl
 | cons x l ih => simp [ih]
theorem enters_areKeys : Enters 185 := fun args w => by kernel_rfl
theorem areKeys1_any {S : Nat → Prop} (m : Mk) (hm : m.ok = true) (v : Value) (l : List Int) (b : Nat) (W : World) (h : V1 S W v l) (hc : ∀ o, W.cell? ⟨b, o, none⟩ = (#[.int .i64 m.c, .int .i64 m.d, .int .i64 m.s, .int .i64 m.e, .int .i64 m.l] : Array Value)[o]?) :
  Calls Tryz.prog 185 #[v, .pointer (some ⟨b, 0, none⟩)] W fun e' w' => e' = .returned (.bool (!isKeyB m l)) ∧ Below W.heap.size W w' := by
 obtain ⟨a, c, rfl, hmx⟩ := h.form
 cases hk : isKeyB m l
 all_goals
  have Hk := Lib.hid hk; clear hk
  go_enter Tryz.func185, Tryz.ntmps185
  go_wp2_with fail
  refine (isKey_b m _ l _ _ Hk.out hm h).mono ?_
  rintro e' w' ⟨rfl, hb⟩
  clear hc
  go_wp2_with fail
  go_ret
  exact ⟨rfl, hb⟩
theorem areKeys_any {S : Nat → Prop} (m : Mk) (hm : m.ok = true) (v : Value) (ls : List (List Int)) (W : World) (h : V2 S W v ls) :
  Calls Tryz.prog 140 #[.agg #[.int .i64 m.c, .int .i64 m.d, .int .i64 m.s, .int .i64 m.e, .int .i64 m.l], v] W fun e' w' => e' = .returned (.bool (allKeys m ls)) ∧ Below W.heap.size W w' := by
 have hk := any_notKey m ls
 have Hk := Lib.hid hk; clear hk
 obtain ⟨W1, hW1, hB01, hz01, HZ01, hc01, hh01⟩ := box_facts W #[.int .i64 m.c, .int .i64 m.d, .int .i64 m.s, .int .i64 m.e, .int .i64 m.l] 31
 have hV := h.below hB01
 obtain ⟨a, c, rfl, hmx⟩ := h.form
 cases hkk : allKeys m ls
 all_goals
  have Hkk := Lib.hid hkk; clear hkk
  go_enter Tryz.func140, Tryz.ntmps140
  go_wp2_with fail
  rw [← hW1]
  refine (containsFunc_any (S := S) _ ls _ _ (fun o => !isKeyB m o) _ hV enters_areKeys ?_).mono ?_
  ·intro S2 w v2 l hb hv
   exact areKeys1_any m hm v2 l W.heap.size w hv (fun o => by rw [(bcell hb).1 _ _ hz01, hc01])
  ·rintro e' w' ⟨rfl, hb⟩
   clear hc01 hh01
   rw [Hk.out, Hkk.out]
   go_wp2_with fail
   go_ret
   exact ⟨rfl, hB01.trans (hb.mono (by omega))⟩
theorem areKeys_b {S : Nat → Prop} (m : Mk) (hm : m.ok = true) (v : Value) (ls : List (List Int)) (W : World) (r : Bool) (hr : allKeys m ls = r) (h : V2 S W v ls) :
  Calls Tryz.prog 140 #[.agg #[.int .i64 m.c, .int .i64 m.d, .int .i64 m.s, .int .i64 m.e, .int .i64 m.l], v] W fun e' w' => e' = .returned (.bool r) ∧ Below W.heap.size W w' := by subst hr; exact areKeys_any m hm v ls W h
theorem l04Keys_any {S : Nat → Prop} (m : Mk) (hm : m.ok = true) (v : Value) (ls : List (List Int)) (W : World) (h : V2 S W v ls) (hlen : ls.length ≤ 300) :
  Calls Tryz.prog 142 #[.agg #[.int .i64 m.c, .int .i64 m.d, .int .i64 m.s, .int .i64 m.e, .int .i64 m.l], v] W fun e' w' => e' = .returned (.bool (allKeys m ls)) ∧ Below W.heap.size W w' := by
 obtain ⟨W1, hW1, hB01, hz01, HZ01, hc01, hh01⟩ := box_facts W #[.int .i64 m.c, .int .i64 m.d, .int .i64 m.s, .int .i64 m.e, .int .i64 m.l] 31
 have hV := h.below hB01
 obtain ⟨a, c, rfl, hmx⟩ := h.form
 go_enter Tryz.func142, Tryz.ntmps142
 go_wp2_with fail
 rw [← hW1]
 have HW1 := Lib.hid hW1; clear hW1 hh01
 have Hc01 := Lib.hid hc01; clear hc01
 go_wp2_with fail
 go_loopw [5] (fun i wr => ∃ k : Nat, k ≤ ls.length ∧ i = .int .i64 (k : Int) ∧ allKeys m ls = allKeys m (ls.drop k) ∧ Below W1.heap.size W1 wr) (fun i _ => ls.length - (intOf i).toNat)
 case atStart => exact ⟨0, Nat.zero_le _, rfl, rfl, Below.refl _ _⟩
 case round =>
  obtain ⟨k, hk, rfl, hrem, hB⟩ := hrel
  have Hr := Lib.hid hrem; clear hrem
  have hzr := hB.size
  have hx : ∀ o, wr.cell? ⟨W.heap.size, o, none⟩ = (#[.int .i64 m.c, .int .i64 m.d, .int .i64 m.s, .int .i64 m.e, .int .i64 m.l] : Array Value)[o]? := fun o => by rw [(bcell hB).1 _ _ hz01, Hc01.out]
  by_cases hkk : k < ls.length
  ·obtain ⟨b1, off1, a1, c1, rfl, _, hc1, hr1⟩ := (hV.below hB).cell hkk
   have hbb : W.heap.size < wr.heap.size ∧ b1 < wr.heap.size := ⟨by omega, lt_of_cell hc1⟩
   have hk2 : isKeyB m (getl ls k) = decide (fault m (getl ls k) = 0) := rfl
   have Hx := Lib.hid hx
   by_cases hf : fault m (getl ls k) = 0
   ·have e1 : (fault m (getl ls k) != 0) = false := by simp [hf]
    have Hk2 := Lib.hid (hk2.trans (decide_eq_true hf)); clear hk2
    have Hf := Lib.hid hf; clear hf
    go_wp2_with fail
    go_region_held3 (fun w' => (∀ o, w'.cell? ⟨W.heap.size, o, none⟩ = (#[.int .i64 m.c, .int .i64 m.d, .int .i64 m.s, .int .i64 m.e, .int .i64 m.l] : Array Value)[o]?) ∧ w'.cell? ⟨b1, off1 + k, none⟩ = some (.slice a1 (getl ls k).length c1) ∧ Below wr.heap.size wr w')
     (first | exact one1_keep hbb (by assumption) (by assumption) | exact ⟨hx, hc1, (Below.refl _ _).drew⟩)
     (first | (go_at_call 172; refine (l02Fault_any m _ (getl ls k) _ hm (hr1.below (one1_below (by assumption)))).mono ?_; rintro e' w' ⟨rfl, hb⟩))
    have hBw := one1_below (w0 := wr) (by assumption)
    go_wp2_with fail
    go_roundw
    case rel => exact ⟨k + 1, by omega, by go_num, by rw [Hr.out, allKeys_step hkk, Hk2.out]; rfl, hB.trans (hBw.mono hzr)⟩
    case measure => simp [intOf]; omega
   ·have e1 : (fault m (getl ls k) != 0) = true := by simp [hf]
    have Hk2 := Lib.hid (hk2.trans (decide_eq_false hf)); clear hk2
    have Hf := Lib.hid hf; clear hf
    go_wp2_with fail
    go_region_held3 (fun w' => (∀ o, w'.cell? ⟨W.heap.size, o, none⟩ = (#[.int .i64 m.c, .int .i64 m.d, .int .i64 m.s, .int .i64 m.e, .int .i64 m.l] : Array Value)[o]?) ∧ w'.cell? ⟨b1, off1 + k, none⟩ = some (.slice a1 (getl ls k).length c1) ∧ Below wr.heap.size wr w')
     (first | exact one1_keep hbb (by assumption) (by assumption) | exact ⟨hx, hc1, (Below.refl _ _).drew⟩)
     (first | (go_at_call 172; refine (l02Fault_any m _ (getl ls k) _ hm (hr1.below (one1_below (by assumption)))).mono ?_; rintro e' w' ⟨rfl, hb⟩))
    have hBw := one1_below (w0 := wr) (by assumption)
    go_wp2_with fail
    go_ret
    exact ⟨ret_bool (by rw [Hr.out, allKeys_step hkk, Hk2.out]; rfl), hB01.trans ((hB.trans (hBw.mono hzr)).mono (by omega))⟩
  ·have hd : ls.drop k = [] := List.drop_of_length_le (by omega)
   have Hd := Lib.hid hd; clear hd
   go_wp2_with fail
   go_ret
   exact ⟨ret_bool (by rw [Hr.out, Hd.out]; simp [allKeys]; omega), hB01.trans (hB.mono (by omega))⟩
theorem l04Keys_b {S : Nat → Prop} (m : Mk) (hm : m.ok = true) (v : Value) (ls : List (List Int)) (W : World) (r : Bool) (hr : allKeys m ls = r) (h : V2 S W v ls) (hlen : ls.length ≤ 300) :
  Calls Tryz.prog 142 #[.agg #[.int .i64 m.c, .int .i64 m.d, .int .i64 m.s, .int .i64 m.e, .int .i64 m.l], v] W fun e' w' => e' = .returned (.bool r) ∧ Below W.heap.size W w' := by subst hr; exact l04Keys_any m hm v ls W h hlen
/-- The code of a system and partial cuts. -/
def partC (m : Mk) (t cuts : List (List Int)) : Int := if isSys m t = false then 1 else if t.length < cuts.length then 2 else if allKeys m cuts = false then 2 else 0
theorem partC_ok {m : Mk} {t cuts : List (List Int)} : partC m t cuts = 0 ↔ isSys m t = true ∧ cuts.length ≤ t.length ∧ allKeys m cuts = true := by
 unfold partC
 cases isSys m t <;> cases allKeys m cuts <;> simp <;> split <;> simp_all <;> omega
set_option maxRecDepth 100000 in
theorem partCode_any {S S' : Nat → Prop} (m : Mk) (u v : Value) (t cuts : List (List Int)) (W : World) (h : V2 S W u t) (hc : V2 S' W v cuts) :
  Calls Tryz.prog 79 #[.agg #[.int .i64 m.c, .int .i64 m.d, .int .i64 m.s, .int .i64 m.e, .int .i64 m.l, u], v] W fun e' w' => e' = .returned (.int .i64 (partC m t cuts)) ∧ Below W.heap.size W w' := by
 obtain ⟨a, c, rfl, hmx⟩ := h.form
 obtain ⟨a', c', rfl, hmx'⟩ := hc.form
 obtain ⟨W1, hW1, hB01, hz01, HZ01, hc01, hh01⟩ := box_facts W #[.int .i64 m.c, .int .i64 m.d, .int .i64 m.s, .int .i64 m.e, .int .i64 m.l, .slice a t.length c] 33
 have hV1 : V2 (fun _ => True) W1 (.slice a t.length c) t := (h.below hB01).mono (fun _ _ _ => trivial) (fun _ _ _ => rfl)
 have hC1 : V2 (fun _ => True) W1 (.slice a' cuts.length c') cuts := (hc.below hB01).mono (fun _ _ _ => trivial) (fun _ _ _ => rfl)
 cases hs : isSys m t
 ·have hfin : partC m t cuts = 1 := by unfold partC; rw [if_pos hs]
  rw [hfin]
  have Hs := Lib.hid hs; clear hs
  go_enter Tryz.func79, Tryz.ntmps79
  go_wp2_with fail
  rw [← hW1]
  refine (isSystem_b m _ t _ _ Hs.out hV1).mono ?_
  rintro e' w2 ⟨rfl, hb2⟩
  clear hc01 hh01
  go_wp2_with fail
  go_ret
  exact ⟨rfl, hB01.trans (hb2.mono (by omega))⟩
 ·obtain ⟨hok, htab, _⟩ := isSys_parts hs
  have htl := (isTab_iff.1 htab).1
  clear htab
  by_cases hl : t.length < cuts.length
  ·have hfin : partC m t cuts = 2 := by unfold partC; rw [if_neg (by rw [hs]; decide), if_pos hl]
   rw [hfin]
   have Hs := Lib.hid hs; clear hs hok hfin
   go_enter Tryz.func79, Tryz.ntmps79
   go_wp2_with fail
   rw [← hW1]
   refine (isSystem_b m _ t _ _ Hs.out hV1).mono ?_
   rintro e' w2 ⟨rfl, hb2⟩
   have hx2 : ∀ o, w2.cell? ⟨W.heap.size, o, none⟩ = (#[.int .i64 m.c, .int .i64 m.d, .int .i64 m.s, .int .i64 m.e, .int .i64 m.l, .slice a t.length c] : Array Value)[o]? := fun o => by rw [(bcell hb2).1 _ _ hz01, hc01]
   clear hc01 hh01
   go_wp2_with fail
   go_ret
   exact ⟨rfl, hB01.trans (hb2.mono (by omega))⟩
  ·have hd : decide (t.length < cuts.length) = false := decide_eq_false hl
   cases hk : allKeys m cuts
   ·have hfin : partC m t cuts = 2 := by unfold partC; rw [if_neg (by rw [hs]; decide), if_neg hl, if_pos hk]
    rw [hfin]
    have Hs := Lib.hid hs; clear hs hfin
    have Hk := Lib.hid hk; clear hk
    have Hok := Lib.hid hok; clear hok
    go_enter Tryz.func79, Tryz.ntmps79
    go_wp2_with fail
    rw [← hW1]
    refine (isSystem_b m _ t _ _ Hs.out hV1).mono ?_
    rintro e' w2 ⟨rfl, hb2⟩
    have hx2 : ∀ o, w2.cell? ⟨W.heap.size, o, none⟩ = (#[.int .i64 m.c, .int .i64 m.d, .int .i64 m.s, .int .i64 m.e, .int .i64 m.l, .slice a t.length c] : Array Value)[o]? := fun o => by rw [(bcell hb2).1 _ _ hz01, hc01]
    clear hc01 hh01
    go_wp2_with (refine (areKeys_b m Hok.out _ cuts _ _ Hk.out (hC1.below hb2) ).mono ?_; rintro e' w' ⟨rfl, hb3⟩)
    go_ret
    exact ⟨rfl, hB01.trans ((hb2.trans (hb3.mono hb2.size)).mono (by omega))⟩
   ·have hfin : partC m t cuts = 0 := by unfold partC; rw [if_neg (by rw [hs]; decide), if_neg hl, if_neg (by rw [hk]; decide)]
    rw [hfin]
    have Hs := Lib.hid hs; clear hs hfin
    have Hk := Lib.hid hk; clear hk
    have Hok := Lib.hid hok; clear hok
    go_enter Tryz.func79, Tryz.ntmps79
    go_wp2_with fail
    rw [← hW1]
    refine (isSystem_b m _ t _ _ Hs.out hV1).mono ?_
    rintro e' w2 ⟨rfl, hb2⟩
    have hx2 : ∀ o, w2.cell? ⟨W.heap.size, o, none⟩ = (#[.int .i64 m.c, .int .i64 m.d, .int .i64 m.s, .int .i64 m.e, .int .i64 m.l, .slice a t.length c] : Array Value)[o]? := fun o => by rw [(bcell hb2).1 _ _ hz01, hc01]
    clear hc01 hh01
    go_wp2_with (refine (areKeys_b m Hok.out _ cuts _ _ Hk.out (hC1.below hb2) ).mono ?_; rintro e' w' ⟨rfl, hb3⟩)
    go_ret
    exact ⟨rfl, hB01.trans ((hb2.trans (hb3.mono hb2.size)).mono (by omega))⟩
set_option maxRecDepth 100000 in
theorem l16Code_any {S S' : Nat → Prop} (m : Mk) (u v : Value) (t cuts : List (List Int)) (W : World) (h : V2 S W u t) (hc : V2 S' W v cuts) :
  Calls Tryz.prog 83 #[.agg #[.int .i64 m.c, .int .i64 m.d, .int .i64 m.s, .int .i64 m.e, .int .i64 m.l, u], v] W fun e' w' => e' = .returned (.int .i64 (partC m t cuts)) ∧ Below W.heap.size W w' := by
 obtain ⟨a, c, rfl, hmx⟩ := h.form
 obtain ⟨a', c', rfl, hmx'⟩ := hc.form
 obtain ⟨W1, hW1, hB01, hz01, HZ01, hc01, hh01⟩ := box_facts W #[.int .i64 m.c, .int .i64 m.d, .int .i64 m.s, .int .i64 m.e, .int .i64 m.l, .slice a t.length c] 33
 have hV1 : V2 (fun _ => True) W1 (.slice a t.length c) t := (h.below hB01).mono (fun _ _ _ => trivial) (fun _ _ _ => rfl)
 have hC1 : V2 (fun _ => True) W1 (.slice a' cuts.length c') cuts := (hc.below hB01).mono (fun _ _ _ => trivial) (fun _ _ _ => rfl)
 cases hs : isSys m t
 ·have hfin : partC m t cuts = 1 := by unfold partC; rw [if_pos hs]
  rw [hfin]
  have Hs := Lib.hid hs; clear hs
  go_enter Tryz.func83, Tryz.ntmps83
  go_wp2_with fail
  rw [← hW1]
  refine (isSystemR_b m _ t _ _ Hs.out hV1).mono ?_
  rintro e' w2 ⟨rfl, hb2⟩
  clear hc01 hh01
  go_wp2_with fail
  go_ret
  exact ⟨rfl, hB01.trans (hb2.mono (by omega))⟩
 ·obtain ⟨hok, htab, _⟩ := isSys_parts hs
  have htl := (isTab_iff.1 htab).1
  clear htab
  by_cases hl : t.length < cuts.length
  ·have hfin : partC m t cuts = 2 := by unfold partC; rw [if_neg (by rw [hs]; decide), if_pos hl]
   rw [hfin]
   have Hs := Lib.hid hs; clear hs hok hfin
   go_enter Tryz.func83, Tryz.ntmps83
   go_wp2_with fail
   rw [← hW1]
   refine (isSystemR_b m _ t _ _ Hs.out hV1).mono ?_
   rintro e' w2 ⟨rfl, hb2⟩
   have hx2 : ∀ o, w2.cell? ⟨W.heap.size, o, none⟩ = (#[.int .i64 m.c, .int .i64 m.d, .int .i64 m.s, .int .i64 m.e, .int .i64 m.l, .slice a t.length c] : Array Value)[o]? := fun o => by rw [(bcell hb2).1 _ _ hz01, hc01]
   clear hc01 hh01
   go_wp2_with fail
   go_ret
   exact ⟨rfl, hB01.trans (hb2.mono (by omega))⟩
  ·have hd : decide (t.length < cuts.length) = false := decide_eq_false hl
   cases hk : allKeys m cuts
   ·have hfin : partC m t cuts = 2 := by unfold partC; rw [if_neg (by rw [hs]; decide), if_neg hl, if_pos hk]
    rw [hfin]
    have Hs := Lib.hid hs; clear hs hfin
    have Hk := Lib.hid hk; clear hk
    have Hok := Lib.hid hok; clear hok
    go_enter Tryz.func83, Tryz.ntmps83
    go_wp2_with fail
    rw [← hW1]
    refine (isSystemR_b m _ t _ _ Hs.out hV1).mono ?_
    rintro e' w2 ⟨rfl, hb2⟩
    have hx2 : ∀ o, w2.cell? ⟨W.heap.size, o, none⟩ = (#[.int .i64 m.c, .int .i64 m.d, .int .i64 m.s, .int .i64 m.e, .int .i64 m.l, .slice a t.length c] : Array Value)[o]? := fun o => by rw [(bcell hb2).1 _ _ hz01, hc01]
    clear hc01 hh01
    go_wp2_with (refine (l04Keys_b m Hok.out _ cuts _ _ Hk.out (hC1.below hb2) (by omega)).mono ?_; rintro e' w' ⟨rfl, hb3⟩)
    go_ret
    exact ⟨rfl, hB01.trans ((hb2.trans (hb3.mono hb2.size)).mono (by omega))⟩
   ·have hfin : partC m t cuts = 0 := by unfold partC; rw [if_neg (by rw [hs]; decide), if_neg hl, if_neg (by rw [hk]; decide)]
    rw [hfin]
    have Hs := Lib.hid hs; clear hs hfin
    have Hk := Lib.hid hk; clear hk
    have Hok := Lib.hid hok; clear hok
    go_enter Tryz.func83, Tryz.ntmps83
    go_wp2_with fail
    rw [← hW1]
    refine (isSystemR_b m _ t _ _ Hs.out hV1).mono ?_
    rintro e' w2 ⟨rfl, hb2⟩
    have hx2 : ∀ o, w2.cell? ⟨W.heap.size, o, none⟩ = (#[.int .i64 m.c, .int .i64 m.d, .int .i64 m.s, .int .i64 m.e, .int .i64 m.l, .slice a t.length c] : Array Value)[o]? := fun o => by rw [(bcell hb2).1 _ _ hz01, hc01]
    clear hc01 hh01
    go_wp2_with (refine (l04Keys_b m Hok.out _ cuts _ _ Hk.out (hC1.below hb2) (by omega)).mono ?_; rintro e' w' ⟨rfl, hb3⟩)
    go_ret
    exact ⟨rfl, hB01.trans ((hb2.trans (hb3.mono hb2.size)).mono (by omega))⟩
/-- The rows among the first k that open the door and have the cut of the row key in chamber c. -/
def reasRow (t cuts : List (List Int)) (key door c : Nat) : Nat → List Int
 | 0 => []
 | k + 1 => if geti (getl t k) door = 1 ∧ geti (getl cuts k) c = geti (getl cuts key) c then reasRow t cuts key door c k ++ [(k : Int)] else reasRow t cuts key door c k
def reasRows (t cuts : List (List Int)) (key door : Nat) (n : Nat) : List (List Int) := (List.range n).map fun c => reasRow t cuts key door c cuts.length
theorem reasRow_len (t cuts : List (List Int)) (key door c : Nat) : ∀ k, (reasRow t cuts key door c k).length ≤ k
 | 0 => Nat.le_refl _
 | k + 1 => by have := reasRow_len t cuts key door c k; unfold reasRow; split <;> simp <;> omega
theorem mem_reasRow {t cuts : List (List Int)} {key door c : Nat} {x : Int} : ∀ {k}, x ∈ reasRow t cuts key door c k ↔ ∃ i : Nat, i < k ∧ x = i ∧ geti (getl t i) door = 1 ∧ geti (getl cuts i) c = geti (getl cuts key) c
 | 0 => by simp [reasRow]
 | k + 1 => by
   unfold reasRow
   split
   ·rename_i h
    rw [List.mem_append, mem_reasRow]
    constructor
    ·rintro (⟨i, h1, h2, h3⟩ | h1)
     ·exact ⟨i, by omega, h2, h3⟩
     ·simp at h1; exact ⟨k, by omega, h1, h⟩
    ·rintro ⟨i, h1, h2, h3⟩
     by_cases e : i = k
     ·subst e; right; simp [h2]
     ·exact .inl ⟨i, by omega, h2, h3⟩
   ·rename_i h
    rw [mem_reasRow]
    constructor
    ·rintro ⟨i, h1, h2, h3⟩; exact ⟨i, by omega, h2, h3⟩
    ·rintro ⟨i, h1, h2, h3⟩
     refine ⟨i, ?_, h2, h3⟩
     by_cases e : i = k
     ·subst e; exact absurd h3 h
     ·omega
theorem reasRows_succ (t cuts : List (List Int)) (key door n : Nat) : reasRows t cuts key door (n + 1) = reasRows t cuts key door n ++ [reasRow t cuts key door n cuts.length] := by
 unfold reasRows; rw [List.range_succ, List.map_append]; rfl
theorem reasRows_len (t cuts : List (List Int)) (key door n : Nat) : (reasRows t cuts key door n).length = n := by simp [reasRows]
theorem reasRows_get {t cuts : List (List Int)} {key door n c : Nat} (h : c < n) : getl (reasRows t cuts key door n) c = reasRow t cuts key door c cuts.length := by
 rw [getl_eq (by rw [reasRows_len]; exact h)]; simp [reasRows]
theorem fits_of {m : Mk} {t cuts : List (List Int)} (h : partC m t cuts = 0) : Fits m t cuts := by
 obtain ⟨h1, h2, h3⟩ := partC_ok.1 h
 obtain ⟨hok, htab, _⟩ := isSys_parts h1
 obtain ⟨htl, htr⟩ := isTab_iff.1 htab
 have hk := allKeys_iff.1 h3
 exact ⟨hok, htl, fun k hk => (htr k hk).1, (htr 0 (by omega)).2.1, fun k hk => (htr k hk).2.2, h2, hk, fun k hkk => (isKey_iff.1 (hk k hkk)).1, fun k hkk c hc => (isKey_iff.1 (hk k hkk)).2.1 _ (geti_mem hc)⟩
set_option maxRecDepth 100000 in
theorem reasonRows_any {S S' : Nat → Prop} (m : Mk) (u v : Value) (t cuts : List (List Int)) (key door n : Nat) (W : World) (hf : Fits m t cuts) (hk : key < cuts.length) (hd : door < (getl t 0).length) (hn : (n : Int) = m.c) (h : V2 S W u t) (hc : V2 S' W v cuts) :
  Calls Tryz.prog 134 #[.agg #[.int .i64 m.c, .int .i64 m.d, .int .i64 m.s, .int .i64 m.e, .int .i64 m.l, u], v, .int .i64 key, .int .i64 door] W fun e' w' => ∃ v', e' = .returned v' ∧ F2 W.heap.size w' v' (reasRows t cuts key door n) ∧ Below W.heap.size W w' := by
 obtain ⟨a, c, rfl, hmx⟩ := h.form
 obtain ⟨a', c', rfl, hmx'⟩ := hc.form
 have hmk := Mk.ok_iff.1 hf.ok
 have hrows := hf.rows
 have hfew := hf.few
 have hlk := hf.lens key hk
 have hkl : (getl cuts key).length = n := by omega
 have hn6 : n ≤ 6 := by omega
 have hdd : ∀ k, k < t.length → door < (getl t k).length := fun k hk => by rw [hf.cols k hk]; exact hd
 have hcc : ∀ k, k < cuts.length → (getl cuts k).length = n := fun k hk => by have := hf.lens k hk; omega
 have Hdd := Lib.hid hdd; clear hdd
 have Hcc := Lib.hid hcc; clear hcc
 have Hf := Lib.hid hf; clear hf
 have Hkl := Lib.hid hkl; clear hkl hmk
 clear hlk hn
 obtain ⟨W1, hW1, hB01, hz01, HZ01, hc01, hh01⟩ := box_facts W #[.int .i64 m.c, .int .i64 m.d, .int .i64 m.s, .int .i64 m.e, .int .i64 m.l, .slice a t.length c] 33
 have hV1 := h.below hB01
 have hC1 := hc.below hB01
 obtain ⟨b0, off0, a0, c0, rfl, _, hc0, hr0⟩ := hc.cell hk
 have hr01 := hr0.below hB01
 have hl0 := hr0.len
 unfold maxLen at hl0
 have hlen0 : (getl cuts key).length ≤ 6 := by rw [Hkl.out]; exact hn6
 have hcA : ∀ o1 o2, ((W.alloc o1).alloc o2).cell? ⟨b0, off0 + key, none⟩ = some (.slice a0 (getl cuts key).length c0) := fun o1 o2 => cell_keep hc0 ((show Below W.heap.size W ((W.alloc o1).alloc o2) from by go_grown).block _ (lt_of_cell hc0))
 have hout0 := Out2.start W1 W1.heap.size (Nat.le_refl _)
 have Hout0 := Lib.hid hout0; clear hout0 hc0
 go_enter Tryz.func134, Tryz.ntmps134
 go_wp2_with fail
 rw [← hW1, show W.heap.size + 1 = W1.heap.size from HZ01.out.symm]
 have HW1 := Lib.hid hW1; clear hW1 hh01 hcA
 have Hc01 := Lib.hid hc01; clear hc01
 go_loopw [9, 10, 11, 12, 13, 14, 21] (fun ou _ _ _ _ _ i wr => ∃ x : Nat, x ≤ n ∧ i = .int .i64 (x : Int) ∧ Out2 W1.heap.size wr ou (reasRows t cuts key door x) ∧ Below W1.heap.size W1 wr) (fun _ _ _ _ _ _ i _ => n - (intOf i).toNat)
 case atStart => exact ⟨0, Nat.zero_le _, rfl, Hout0.out, (Below.refl _ _).alloc (Nat.le_refl _) _⟩
 case round =>
  obtain ⟨x, hx, rfl, hO, hB⟩ := hrel
  obtain ⟨wo, rfl⟩ : ∃ wo, wo = wr := ⟨_, rfl⟩
  have hzr := hB.size
  by_cases hxn : x < n
  ·obtain ⟨wrB, hwrB⟩ : ∃ B, B = wo.heap.size := ⟨_, rfl⟩
   have hxk : x < (getl cuts key).length := by rw [Hkl.out]; exact hxn
   obtain ⟨bx, offx, rfl, _, hcx⟩ := (hr01.below hB).cell hxk
   have hown0 := own_lit0 wo wrB 2 1 (by omega)
   have HO := Lib.hid hO; clear hO
   have hB2 := hB.alloc hzr (.cells #[] 2)
   go_wp2_with fail
   go_loopw [12, 13, 14, 29] (fun ro _ _ i wn => ∃ k : Nat, k ≤ cuts.length ∧ i = .int .i64 (k : Int) ∧ wn.ownsRow wrB 2 1 ro (reasRow t cuts key door x k).length ((reasRow t cuts key door x k).map (Value.int .i64)) ∧ Below wrB wo wn) (fun _ _ _ i _ => cuts.length - (intOf i).toNat)
   case atStart => exact ⟨0, Nat.zero_le _, rfl, hown0, (Below.refl _ _).alloc (by omega) _⟩
   case round =>
    obtain ⟨k, hk2, rfl, hown, hBn⟩ := hrel
    have hrl := reasRow_len t cuts key door x k
    have hzn := hBn.size
    by_cases hkk : k < cuts.length
    ·have hBW := hB.trans (hBn.mono (by omega))
     have hxb : ∀ o, wr.cell? ⟨W.heap.size, o, none⟩ = (#[.int .i64 m.c, .int .i64 m.d, .int .i64 m.s, .int .i64 m.e, .int .i64 m.l, .slice a t.length c] : Array Value)[o]? := fun o => by rw [(bcell hBW).1 _ _ hz01, Hc01.out]
     obtain ⟨b1, off1, a1, c1, e1, _, hc1, hr1⟩ := (hC1.below hBW).cell hkk
     simp only [Option.some.injEq, Addr.mk.injEq, and_true] at e1
     obtain ⟨rfl, rfl⟩ := e1
     obtain ⟨b2, off2, a2, c2, rfl, _, hc2, hr2⟩ := (hV1.below hBW).cell (k := k) (by omega)
     obtain ⟨b3, off3, rfl, _, hc3⟩ := hr2.cell (Hdd.out k (by omega))
     have hxk2 : x < (getl cuts k).length := by rw [Hcc.out k hkk]; exact hxn
     obtain ⟨b4, off4, rfl, _, hc4⟩ := hr1.cell hxk2
     have hl2 := hr2.len
     have hl1 := hr1.len
     have hdk := Hdd.out k (by omega)
     unfold maxLen at hl1 hl2
     by_cases h1 : geti (getl t k) door = 1
     ·have e2 : (geti (getl t k) door == 1) = true := by simp [h1]
      by_cases h2 : geti (getl cuts k) x = geti (getl cuts key) x
      ·have e3 : (geti (getl cuts k) x == geti (getl cuts key) x) = true := by simp [h2]
       have hst : reasRow t cuts key door x (k + 1) = reasRow t cuts key door x k ++ [(k : Int)] := by rw [reasRow, if_pos ⟨h1, h2⟩]
       have Hst := Lib.hid hst; clear hst
       have H1 := Lib.hid h1; clear h1
       have H2 := Lib.hid h2; clear h2
       go_wp2_with (at_builtin; refine wp_app1 _ rfl _ _ 44 rfl wrB 2 (.int .i64 0) 8 Tryz.underlying44 inf_int rfl _ _ _ rfl hown (.int .i64 k) _ rfl rfl (by omega) (by omega) (by omega) ?_; intro v1 w1 hown1 hgrow1 hblk1 hB1)
       go_roundw
       case rel => exact ⟨k + 1, by omega, by go_num, by rw [Hst.out, List.map_append, List.length_append]; exact hown1, hBn.trans (hB1.mono (Nat.le_refl _))⟩
       case measure => simp [intOf]; omega
      ·have e3 : (geti (getl cuts k) x == geti (getl cuts key) x) = false := by simp [h2]
       have hst : reasRow t cuts key door x (k + 1) = reasRow t cuts key door x k := by rw [reasRow, if_neg (fun h => h2 h.2)]
       have Hst := Lib.hid hst; clear hst
       have H1 := Lib.hid h1; clear h1
       have H2 := Lib.hid h2; clear h2
       go_wp2_with fail
       go_roundw
       case rel => exact ⟨k + 1, by omega, by go_num, by rw [Hst.out]; exact hown, hBn⟩
       case measure => simp [intOf]; omega
     ·have e2 : (geti (getl t k) door == 1) = false := by simp [h1]
      have hst : reasRow t cuts key door x (k + 1) = reasRow t cuts key door x k := by rw [reasRow, if_neg (fun h => h1 h.1)]
      have Hst := Lib.hid hst; clear hst
      have H1 := Lib.hid h1; clear h1
      go_wp2_with fail
      go_roundw
      case rel => exact ⟨k + 1, by omega, by go_num, by rw [Hst.out]; exact hown, hBn⟩
      case measure => simp [intOf]; omega
    ·obtain rfl : k = cuts.length := by omega
     obtain ⟨vs, bk, g1, g2, g3⟩ := HO.out
     have hBwo : Below wo.heap.size wo wr := hBn.mono (by omega)
     obtain ⟨bx1, hx1, hbx⟩ := own_F1 hown
     have hO4 := own_chg g1 (Chg.of_below (F := fun _ => False) hBwo) (fun _ _ h => h)
     obtain ⟨ra, rc, rfl, hrc1, hrc2⟩ := own_form hown
     have hlx := Nat.le_of_eq (reasRows_len t cuts key door x)
     have G := Lib.hid (And.intro g1 (And.intro g2 g3)); clear g1 g2 g3
     have Hx1 := Lib.hid (And.intro hx1 hbx); clear hx1 hbx hown
     go_wp2_with (at_builtin; refine wp_app1 _ rfl _ _ 24 rfl W1.heap.size 44 (.slice none 0 0) 24 Tryz.underlying24 inf_ints rfl _ _ _ rfl hO4 (.slice ra (reasRow t cuts key door x cuts.length).length rc) _ rfl rfl (by omega) (by omega) (by omega) ?_; intro v1 w1 hown1 hgrow1 hblk1 hB1)
     go_roundw
     case rel => exact ⟨x + 1, by omega, by go_num, by rw [reasRows_succ]; exact Out2.push G.out.1 G.out.2.1 G.out.2.2 hzr hBwo Hx1.out.1 (fun hn => by have := Hx1.out.2 hn; omega) hown1 hgrow1 hblk1, (hB.trans (hBwo.mono hzr)).trans hB1⟩
     case measure => simp [intOf]; omega
  ·obtain rfl : x = n := by omega
   have hfx := hO.f2
   have hkl2 := Nat.le_of_eq Hkl.out
   go_wp2_with fail
   go_ret
   exact ⟨_, rfl, F2.mono hfx (by omega), hB01.trans (hB.mono (by omega))⟩
/-- The first of a list, and whether there is one. -/
def nextAns : List (List Int) → List Int × Bool
 | [] => ([], false)
 | k :: _ => (k, true)
theorem nextAns_append (a b : List (List Int)) : nextAns (a ++ b) = if (nextAns a).2 = true then nextAns a else nextAns b := by
 cases a <;> simp [nextAns]
theorem nextAns_true {l : List (List Int)} (h : (nextAns l).2 = true) : ∃ k r, l = k :: r := by
 cases l with
 | nil => cases h
 | cons k r => exact ⟨k, r, rfl⟩
section
variable {σ : Type} {m : Mk} {W0 : World} {F0 : Nat → Prop} {f : FuncId} {caps : Array Value} {step : σ → List Int → List Int → σ × Bool} {s0 : σ} {L : List (List Int)} {cuts : List (List Int)} {locks : List (List (List Int))} {Inv : σ → (Nat → Prop) → World → Prop}
end
/-- Block G holds the numbers l and nothing else. -/
def BlkI (w : World) (G : Nat) (l : List Int) : Prop := ∃ T, w.heap[G]? = some (.cells (l.map (Value.int .i64)).toArray T (0, 0))
theorem BlkI.cell {w : World} {G k : Nat} {l : List Int} (h : BlkI w G l) (hk : k < l.length) : w.cell? ⟨G, k, none⟩ = some (.int .i64 (geti l k)) := by
 obtain ⟨T, h⟩ := h
 rw [cell_of_block h, geti_eq hk]
 simp [hk]
theorem BlkI.frozen {w : World} {G : Nat} {l : List Int} (h : BlkI w G l) (k : Nat) : w.frozen? ⟨G, k, none⟩ = false := by
 obtain ⟨T, h⟩ := h; exact frozen_of_block h k
theorem BlkI.set {w : World} {G : Nat} {l : List Int} (h : BlkI w G l) (k : Nat) (x : Int) : BlkI (w.setCell ⟨G, k, none⟩ (.int .i64 x)) G (l.set k x) := by
 obtain ⟨T, h⟩ := h
 refine ⟨T, ?_⟩
 rw [heap_setCell_self h]
 congr 2
 apply Array.ext'
 simp [List.map_set]
theorem BlkI.keep {w w' : World} {G : Nat} {l : List Int} (h : BlkI w G l) (hk : w'.heap[G]? = w.heap[G]?) : BlkI w' G l := by
 obtain ⟨T, h⟩ := h; exact ⟨T, by rw [hk]; exact h⟩
theorem BlkI.lt {w : World} {G : Nat} {l : List Int} (h : BlkI w G l) : G < w.heap.size := by
 obtain ⟨T, h⟩ := h; exact lt_of_heap h
theorem BlkI.x1 {w : World} {G off : Nat} {l : List Int} (h : BlkI w G l) (ho : off ≤ l.length) (hl : l.length ≤ 1000000) : X1 w (.slice (some ⟨G, off, none⟩) (l.length - off) (l.length - off)) (l.drop off) G := by
 obtain ⟨T, h⟩ := h
 refine ⟨_, l.length - off, by rw [List.length_drop], by rw [List.length_drop]; exact Nat.le_refl _, by unfold maxLen; omega, fun _ => ⟨off, _, T, rfl, h, fun k hk => ?_⟩⟩
 rw [List.length_drop] at hk
 have e : geti (l.drop off) k = geti l (off + k) := by simp [geti]
 rw [e, geti_eq (by omega)]
 simp [show off + k < l.length from by omega]
end Go.Proofs.YtmjplkbmhdkggaaGreat
