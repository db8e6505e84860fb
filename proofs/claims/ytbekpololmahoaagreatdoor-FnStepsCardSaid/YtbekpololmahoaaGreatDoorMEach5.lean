/- The program's visit of all keys, as it is called. No conditions. -/
import Derived.Laws.EntriesVeiled
import Derived.Laws.AppendOwnNone
import Derived.Deep.RegionHeld3
import Derived.Deep.AppendLies
import Derived.Laws.OwnMore
import Derived.Deep.DrawnRows
import Derived.Test.YtbekpololmahoaaGreatDoorProg
import Derived.StillTailTactics
import Derived.Laws.StructEq
import Derived.Test.YtbekpololmahoaaGreatDoorEach4
import Derived.Test.YtbekpololmahoaaGreatDoorMFalse
import Derived.Test.YtbekpololmahoaaGreatDoorMLib
import Derived.Test.YtbekpololmahoaaGreatDoorMTable
import Derived.Test.YtbekpololmahoaaGreatDoorMStops
import Derived.Test.YtbekpololmahoaaGreatDoorMShelf0
namespace Go.Proofs.YtbekpololmahoaaGreatDoor
open Go.RowKit
set_option linter.unusedVariables false
set_option linter.unusedSimpArgs false
theorem neqNilS (w : World) : Sem.run Tryz.prog (binOp .neq 57 (.slice none 0 0) (.slice none 0 0)) w = .ok (.bool false) w := by kernel_rfl
theorem heap_alloc_at (w : World) (o : Obj) (k : Nat) : (w.alloc o).heap[k]? = if k = w.heap.size then some o else w.heap[k]? := by
 show (w.heap.push o)[k]? = _
 rw [Array.getElem?_push]
/-- The blocks as they are made, one by one. -/
def ekAt (N : Nat) : EK := ⟨N + 1 + 1 + 1 + 1 + 1, N, N + 1 + 1 + 1, N + 1, N + 1 + 1, N + 1 + 1 + 1 + 1 + 1 + 1⟩
theorem es_make {σ : Type} {Inv : σ → (Nat → Prop) → World → Prop} {F0 : Nat → Prop} {s0 : σ} (m : Mk) (w : World) (fv av vv : Value) (Tm Tf Ta Tv Tk Tc : TypeId)
  (V : ∀ s F w w', Inv s F w → w.heap.size ≤ w'.heap.size → (∀ b, F b → w'.heap[b]? = w.heap[b]?) → Inv s F w') (hl : ∀ b, F0 b → b < w.heap.size) (hI : Inv s0 F0 w) :
  ES m w F0 Inv (ekAt w.heap.size) fv av vv s0 F0 (((((((w.alloc (.cells #[.int .i64 m.c, .int .i64 m.d, .int .i64 m.s, .int .i64 m.e, .int .i64 m.l] Tm)).alloc (.cells #[fv] Tf)).alloc (.cells #[av] Ta)).alloc (.cells #[vv] Tv)).alloc (.cells #[] 2)).alloc (.cells #[.slice (some ⟨w.heap.size + 1 + 1 + 1 + 1, 0, none⟩) 0 0] Tk)).alloc (.cells #[cutV (ekAt w.heap.size)] Tc)) [] (.slice (some ⟨w.heap.size + 1 + 1 + 1 + 1, 0, none⟩) 0 0) := by
 have hb : ∀ (o1 o2 o3 o4 o5 o6 o7 : Obj), Below w.heap.size w (((((((w.alloc o1).alloc o2).alloc o3).alloc o4).alloc o5).alloc o6).alloc o7) := fun _ _ _ _ _ _ _ => by
  repeat (first | exact Below.refl _ _ | refine Below.alloc ?_ (by simp; try omega) _)
 refine ⟨Chg.of_below (hb _ _ _ _ _ _ _), fun b h => .inl h, V _ _ _ _ hI (hb _ _ _ _ _ _ _).size (fun b h => (hb _ _ _ _ _ _ _).block b (hl b h)), fun b h => Nat.lt_of_lt_of_le (hl b h) (hb _ _ _ _ _ _ _).size, ?_, ?_, ⟨Tm, ?_⟩, ⟨Tv, ?_⟩, ⟨Tf, ?_⟩, ⟨Ta, ?_⟩, ⟨Tc, ?_⟩, ⟨Tk, ?_⟩, ?_, ?_⟩
 ·intro b h
  simp only [EK.has, ekAt] at h
  simp only [World.size_alloc]
  refine ⟨by omega, by omega, fun hf => by have := hl b hf; omega⟩
 ·simp only [ekAt]; omega
 ·simp only [ekAt, heap_alloc_at, World.size_alloc]; (repeat rw [if_neg (by omega)]); simp
 ·simp only [ekAt, heap_alloc_at, World.size_alloc]; simp
 ·simp only [ekAt, heap_alloc_at, World.size_alloc]; simp
 ·simp only [ekAt, heap_alloc_at, World.size_alloc]; simp
 ·simp only [heap_alloc_at, World.size_alloc]; simp [ekAt]
 ·simp only [ekAt, heap_alloc_at, World.size_alloc]; simp
 ·refine ⟨rfl, .inr ⟨w.heap.size + 1 + 1 + 1 + 1, 0, #[], rfl, by omega, ?_, Nat.le_refl _, Nat.zero_le _, rfl, rfl⟩⟩
  simp only [heap_alloc_at, World.size_alloc]; simp
 ·intro g hg
  simp only [Value.ownBlock, Option.some.injEq] at hg
  subst hg
  refine ⟨fun hf => by have := hl _ hf; omega, fun h => ?_⟩
  simp only [EK.has, ekAt] at h
  omega
section
variable {σ : Type} {m : Mk} {w0 : World} {F0 : Nat → Prop} {f : FuncId} {caps : Array Value} {step : σ → List Int → σ × Bool} {s0 : σ} {L : List (List Int)} {Inv : σ → (Nat → Prop) → World → Prop} {o : EK} {fv av : Value} {A : Nat → Int → Bool} {fr : List Int}
set_option maxRecDepth 100000 in
theorem eachKey_any (hm : m.ok = true) (w : World) (V : VisOk m.c.toNat w F0 f caps step s0 (genF m A [] false m.c.toNat []) Inv) (hA : AOk m w F0 av A) (hI : Inv s0 F0 w) :
  Calls Tryz.prog 52 #[.agg #[.int .i64 m.c, .int .i64 m.d, .int .i64 m.s, .int .i64 m.e, .int .i64 m.l], .slice none 0 0, av, .func (.func f) #[] caps] w
   (fun e w' => ∃ F', Inv (runL step s0 (genF m A [] false m.c.toNat [])).1 F' w' ∧ Chg F0 w w' ∧ (∀ b, F' b → F0 b ∨ w.heap.size ≤ b) ∧ e = .returned undef) := by
 have hS := neqNilS
 have hmk := Mk.ok_iff.1 hm
 have hl : (([] : List Int).length : Int) + m.c.toNat = m.c := by simp; omega
 have Hl := Lib.hid hl; clear hl hmk
 have HA := Lib.hid hA
 rcases hA with ⟨rfl, hA1⟩ | ⟨fa, ac, rfl, hen, hcl⟩
 ·clear hA1
  have hES := es_make (σ := σ) m w (.slice none 0 0) .nilFunc (.func (.func f) #[] caps) 32 57 109 93 57 110 V.keep (V.lt _ _ _ hI) hI
  have HES := Lib.hid hES; clear hES
  have HV := Lib.hid V; clear V hI
  go_enter Tryz.func52, Tryz.ntmps52
  go_wp2_with fail
  refine (cut_free (fr := []) hm HV.out HA.out m.c.toNat s0 F0 _ [] _ [] [] Hl.out (fun k hk => by simp at hk) (by simp) rfl HES.out).mono ?_
  rintro e w' ⟨F', kv', rfl, hE⟩
  have HE := Lib.hid hE; clear hE
  go_wp2_with fail
  go_end0
  exact ⟨F', HE.out.inv, HE.out.chg, HE.out.sub, rfl⟩
 ·clear hcl
  have hES := es_make (σ := σ) m w (.slice none 0 0) (.func (.func fa) #[] ac) (.func (.func f) #[] caps) 32 57 109 93 57 110 V.keep (V.lt _ _ _ hI) hI
  have HES := Lib.hid hES; clear hES
  have HV := Lib.hid V; clear V hI hen
  go_enter Tryz.func52, Tryz.ntmps52
  go_wp2_with fail
  refine (cut_free (fr := []) hm HV.out HA.out m.c.toNat s0 F0 _ [] _ [] [] Hl.out (fun k hk => by simp at hk) (by simp) rfl HES.out).mono ?_
  rintro e w' ⟨F', kv', rfl, hE⟩
  have HE := Lib.hid hE; clear hE
  go_wp2_with fail
  go_end0
  exact ⟨F', HE.out.inv, HE.out.chg, HE.out.sub, rfl⟩
end
theorem fit_run {m : Mk} {l : List Int} {k : Nat} {r : Int} (hr : (runAt l k : Int) = r) (h : m.e < r) : fitAt m l k = false := by
 unfold fitAt; rw [hr, decide_eq_false (by omega)]; rfl
theorem fit_step {m : Mk} {l : List Int} {k : Nat} {q : Int} (hq : absI (geti l k - geti l (k - 1)) = q) (h0 : 0 < k) (h : m.s < q) : fitAt m l k = false := by
 unfold fitAt; rw [hq]
 have h1 : (k == 0) = false := by simp; omega
 rw [h1, decide_eq_false (show ¬ q ≤ m.s by omega)]; simp
theorem fit_ok {m : Mk} {l : List Int} {k : Nat} {r : Int} (hr : (runAt l k : Int) = r) (h : ¬ m.e < r) (hs : k = 0 ∨ ¬ m.s < absI (geti l k - geti l (k - 1))) : fitAt m l k = true := by
 unfold fitAt; rw [hr, decide_eq_true (show r ≤ m.e by omega), Bool.true_and]
 rcases hs with h | h
 ·subst h; rfl
 ·rw [decide_eq_true (show absI (geti l k - geti l (k - 1)) ≤ m.s by omega)]; simp
theorem begins_not {m : Mk} {l : List Int} {k : Nat} (h : k < l.length) (hf : fitAt m l k = false) : begins m l = false := by
 rw [← Bool.not_eq_true, begins_iff]; intro hc; rw [hc k h] at hf; cases hf
set_option maxRecDepth 100000 in
theorem l02Begins_any {S : Nat → Prop} (m : Mk) (v : Value) (l : List Int) (W : World) (h : V1 S W v l) (hlen : l.length ≤ 1000) (hrange : ∀ k, k < l.length → 0 ≤ geti l k ∧ geti l k ≤ 7) :
  Calls Tryz.prog 85 #[.agg #[.int .i64 m.c, .int .i64 m.d, .int .i64 m.s, .int .i64 m.e, .int .i64 m.l], v] W fun e' w' => e' = .returned (.bool (begins m l)) ∧ Below W.heap.size W w' := by
 have hV := h
 have Hrange := Lib.hid hrange; clear hrange
 obtain ⟨a, c, rfl, hmx⟩ := h.form
 obtain ⟨W1, hW1, hB01, hz01, HZ01, hc01, hh01⟩ := box_facts W #[.int .i64 m.c, .int .i64 m.d, .int .i64 m.s, .int .i64 m.e, .int .i64 m.l] 32
 have hV1 := hV.below hB01
 go_enter Tryz.func85, Tryz.ntmps85
 go_wp2_with fail
 rw [← hW1]
 have HW1 := Lib.hid hW1; clear hW1
 clear hh01
 go_wp2_with fail
 go_loopw [5, 6] (fun ru i wr => ∃ k n : Nat, k ≤ l.length ∧ i = .int .i64 (k : Int) ∧ ru = .int .i64 (lastRun l k : Int) ∧ (∀ j, j < k → fitAt m l j = true) ∧ wr = W1.drewN n) (fun _ i _ => l.length - (intOf i).toNat)
 case atStart => exact ⟨0, 0, Nat.zero_le _, rfl, rfl, fun j hj => by omega, rfl⟩
 case round =>
  obtain ⟨k, n, hk, rfl, rfl, hpre, rfl⟩ := hrel
  have Hpre := Lib.hid hpre; clear hpre
  have hlr := lastRun_le l k
  by_cases hkk : k < l.length
  ·obtain ⟨b1, off1, rfl, _, hc1⟩ := hV1.cell hkk
   have hr1 := Hrange.out _ hkk
   by_cases h0 : k = 0
   ·have hru : runAt l k = lastRun l k + 1 := runAt_last (.inl h0)
    have hd : decide (0 < k) = false := by simp [h0]
    have H0 := Lib.hid h0; clear h0
    have hru' : (runAt l k : Int) = (lastRun l k : Int) + 1 := by rw [hru]; rfl
    have Hru := Lib.hid hru; clear hru
    have Hru' := Lib.hid hru'; clear hru'
    by_cases hbad : m.e < (lastRun l k : Int) + 1
    ·have hfin := begins_not hkk (fit_run Hru'.out hbad)
     have Hf := Lib.hid hfin; clear hfin
     generalize hLR : lastRun l k = lr at *
     have HLR := Lib.hid hLR; clear hLR
     have hdd : decide (m.e < (lr : Int) + 1) = true := decide_eq_true hbad
     go_wp2_with fail
     go_quiet (fail)
     go_wp2_with fail
     go_quiet (fail)
     go_wp2_with fail
     go_ret
     exact ⟨ret_bool Hf.out.symm, by repeat' first | refine below_drewN ?_ _ | exact hB01⟩
    ·have hfit := fit_ok Hru'.out hbad (.inl H0.out)
     have Hfit := Lib.hid hfit; clear hfit
     generalize hLR : lastRun l k = lr at *
     have HLR := Lib.hid hLR; clear hLR
     have hdd : decide (m.e < (lr : Int) + 1) = false := decide_eq_false hbad
     go_wp2_with fail
     go_quiet (fail)
     go_wp2_with fail
     go_quiet (fail)
     go_wp2_with fail
     go_roundw
     case rel => exact ⟨k + 1, _, by omega, by go_num, by rw [show lastRun l (k + 1) = runAt l k from rfl, Hru.out]; go_num, fun j hj => by
      by_cases e : j = k
      ·subst e; exact Hfit.out
      ·exact Hpre.out j (by omega), by first | rfl | simp only [World.drewN_drewN]⟩
     case measure => simp [intOf]; omega
   ·have h1 : 0 < k := by omega
    obtain ⟨b2, off2, e3, _, hc2⟩ := hV1.cell (k := k - 1) (by omega)
    simp only [Option.some.injEq, Addr.mk.injEq, and_true] at e3
    obtain ⟨rfl, rfl⟩ := e3
    have hr2 := Hrange.out (k - 1) (by omega)
    obtain ⟨q, hq⟩ : ∃ q, absI (geti l k - geti l (k - 1)) = q := ⟨_, rfl⟩
    have hw : IntKind.i64.wrap (geti l k - geti l (k - 1)) = geti l k - geti l (k - 1) := IntWalk.i64_in _ (by omega)
    have Hq := Lib.hid hq; clear hq
    clear h0
    by_cases he : geti l k = geti l (k - 1)
    ·have e4 : (geti l k != geti l (k - 1)) = false := by simp [he]
     have hru : runAt l k = lastRun l k + 1 := runAt_last (.inr he)
     have hru' : (runAt l k : Int) = (lastRun l k : Int) + 1 := by rw [hru]; rfl
     have Hru := Lib.hid hru; clear hru
     have Hru' := Lib.hid hru'; clear hru'
     have He := Lib.hid he; clear he
     by_cases hbad : m.e < (lastRun l k : Int) + 1
     ·have hfin := begins_not hkk (fit_run Hru'.out hbad)
      have Hf := Lib.hid hfin; clear hfin
      generalize hLR : lastRun l k = lr at *
      have HLR := Lib.hid hLR; clear hLR
      have hdd : decide (m.e < (lr : Int) + 1) = true := decide_eq_true hbad
      go_wp2_with fail
      go_quiet (fail)
      go_wp2_with fail
      go_quiet (fail)
      go_wp2_with fail
      go_ret
      exact ⟨ret_bool Hf.out.symm, by repeat' first | refine below_drewN ?_ _ | exact hB01⟩
     ·by_cases hstep : m.s < q
      ·have hfin := begins_not hkk (fit_step Hq.out h1 hstep)
       have Hf := Lib.hid hfin; clear hfin
       generalize hLR : lastRun l k = lr at *
       have HLR := Lib.hid hLR; clear hLR
       have hdd : decide (m.e < (lr : Int) + 1) = false := decide_eq_false hbad
       go_wp2_with fail
       go_quiet (fail)
       go_wp2_with fail
       go_quiet ((go_at_call 110; first | exact quiet_same (l01Abs_b _ _ _ Hq.out (by omega)) | exact quiet_same0 (l01Abs_b _ _ _ Hq.out (by omega))))
       go_wp2_with fail
       go_ret
       exact ⟨ret_bool Hf.out.symm, by repeat' first | refine below_drewN ?_ _ | exact hB01⟩
      ·have hfit := fit_ok Hru'.out hbad (.inr (by rw [Hq.out]; exact hstep))
       have Hfit := Lib.hid hfit; clear hfit
       generalize hLR : lastRun l k = lr at *
       have HLR := Lib.hid hLR; clear hLR
       have hdd : decide (m.e < (lr : Int) + 1) = false := decide_eq_false hbad
       have hds : decide (m.s < q) = false := decide_eq_false hstep
       go_wp2_with fail
       go_quiet (fail)
       go_wp2_with fail
       go_quiet ((go_at_call 110; first | exact quiet_same (l01Abs_b _ _ _ Hq.out (by omega)) | exact quiet_same0 (l01Abs_b _ _ _ Hq.out (by omega))))
       go_wp2_with fail
       go_roundw
       case rel => exact ⟨k + 1, _, by omega, by go_num, by rw [show lastRun l (k + 1) = runAt l k from rfl, Hru.out]; go_num, fun j hj => by
        by_cases e : j = k
        ·subst e; exact Hfit.out
        ·exact Hpre.out j (by omega), by first | rfl | simp only [World.drewN_drewN]⟩
       case measure => simp [intOf]; omega
    ·have e4 : (geti l k != geti l (k - 1)) = true := by simp [he]
     have hru : runAt l k = 1 := runAt_new h1 he
     have hru' : (runAt l k : Int) = 1 := by rw [hru]; rfl
     have Hru := Lib.hid hru; clear hru
     have Hru' := Lib.hid hru'; clear hru'
     have He := Lib.hid he; clear he
     by_cases hbad : m.e < 1
     ·have hfin := begins_not hkk (fit_run Hru'.out hbad)
      have Hf := Lib.hid hfin; clear hfin
      generalize hLR : lastRun l k = lr at *
      have HLR := Lib.hid hLR; clear hLR
      have hdd : decide (m.e < 1) = true := decide_eq_true hbad
      go_wp2_with fail
      go_quiet (fail)
      go_wp2_with fail
      go_quiet (fail)
      go_wp2_with fail
      go_ret
      exact ⟨ret_bool Hf.out.symm, by repeat' first | refine below_drewN ?_ _ | exact hB01⟩
     ·by_cases hstep : m.s < q
      ·have hfin := begins_not hkk (fit_step Hq.out h1 hstep)
       have Hf := Lib.hid hfin; clear hfin
       generalize hLR : lastRun l k = lr at *
       have HLR := Lib.hid hLR; clear hLR
       have hdd : decide (m.e < 1) = false := decide_eq_false hbad
       go_wp2_with fail
       go_quiet (fail)
       go_wp2_with fail
       go_quiet ((go_at_call 110; first | exact quiet_same (l01Abs_b _ _ _ Hq.out (by omega)) | exact quiet_same0 (l01Abs_b _ _ _ Hq.out (by omega))))
       go_wp2_with fail
       go_ret
       exact ⟨ret_bool Hf.out.symm, by repeat' first | refine below_drewN ?_ _ | exact hB01⟩
      ·have hfit := fit_ok Hru'.out hbad (.inr (by rw [Hq.out]; exact hstep))
       have Hfit := Lib.hid hfit; clear hfit
       generalize hLR : lastRun l k = lr at *
       have HLR := Lib.hid hLR; clear hLR
       have hdd : decide (m.e < 1) = false := decide_eq_false hbad
       have hds : decide (m.s < q) = false := decide_eq_false hstep
       go_wp2_with fail
       go_quiet (fail)
       go_wp2_with fail
       go_quiet ((go_at_call 110; first | exact quiet_same (l01Abs_b _ _ _ Hq.out (by omega)) | exact quiet_same0 (l01Abs_b _ _ _ Hq.out (by omega))))
       go_wp2_with fail
       go_roundw
       case rel => exact ⟨k + 1, _, by omega, by go_num, by rw [show lastRun l (k + 1) = runAt l k from rfl, Hru.out]; rfl, fun j hj => by
        by_cases e : j = k
        ·subst e; exact Hfit.out
        ·exact Hpre.out j (by omega), by first | rfl | simp only [World.drewN_drewN]⟩
       case measure => simp [intOf]; omega
  ·obtain rfl : k = l.length := by omega
   have hfin : begins m l = true := begins_iff.2 Hpre.out
   have Hf := Lib.hid hfin; clear hfin
   generalize hLR : lastRun l l.length = lr at *
   have HLR := Lib.hid hLR; clear hLR
   go_wp2_with fail
   go_ret
   exact ⟨ret_bool Hf.out.symm, by repeat' first | refine below_drewN ?_ _ | exact hB01⟩
theorem l02Begins_b {S : Nat → Prop} (m : Mk) (v : Value) (l : List Int) (W : World) (r : Bool) (hr : begins m l = r) (h : V1 S W v l) (hlen : l.length ≤ 1000) (hrange : ∀ k, k < l.length → 0 ≤ geti l k ∧ geti l k ≤ 7) :
  Calls Tryz.prog 85 #[.agg #[.int .i64 m.c, .int .i64 m.d, .int .i64 m.s, .int .i64 m.e, .int .i64 m.l], v] W fun e' w' => e' = .returned (.bool r) ∧ Below W.heap.size W w' := by subst hr; exact l02Begins_any m v l W h hlen hrange
theorem V1.pv {S : Nat → Prop} {w : World} {v : Value} {l : List Int} (h : V1 S w v l) (hn : l ≠ []) : PV v := by
 obtain ⟨a, c, rfl, _, _, h⟩ := h
 obtain ⟨b, off, ev, rfl, _⟩ := h 0 (by cases l with | nil => exact absurd rfl hn | cons x xs => simp)
 exact .inr ⟨_, _, _, _, rfl⟩
def OwnPost (W : World) (l : List Int) (e' : Ending) (w' : World) : Prop := ∃ v', e' = .returned v' ∧ w'.ownsRow W.heap.size 2 1 v' l.length (l.map (Value.int .i64)) ∧ Below W.heap.size W w'
theorem l01Own_any {S : Nat → Prop} (v : Value) (l : List Int) (W : World) (h : V1 S W v l) (hp : l = [] → PV v) (hlen : l.length ≤ 1000000) :
  Calls Tryz.prog 87 #[v] W (OwnPost W l) := by
 obtain ⟨i0, hi, hz0, hz1, hz2⟩ := info_parts inf_int
 have hV := h
 obtain ⟨a, c, rfl, hm⟩ := h.form
 by_cases hn : l = []
 ·subst hn
  rcases hp rfl with e | ⟨b, off, n, c', e⟩
  ·simp only [List.length_nil, Value.slice.injEq] at e
   obtain ⟨rfl, _, rfl⟩ := e
   have hown0 := own_lit0 W W.heap.size 2 1 (Nat.le_refl _)
   go_enter Tryz.func87, Tryz.ntmps87
   go_wp2_with (at_builtin; refine wpList_append_own_none rfl _ _ 57 rfl W.heap.size 2 i0 1 Tryz.underlying57 hi _ _ _ rfl hown0 rfl ?_)
   go_ret
   exact ⟨_, rfl, hown0, (Below.refl _ _).alloc (Nat.le_refl _) _⟩
  ·simp only [List.length_nil, Value.slice.injEq] at e
   obtain ⟨rfl, rfl, rfl⟩ := e
   have hown0 := own_lit0 W W.heap.size 2 1 (Nat.le_refl _)
   go_enter Tryz.func87, Tryz.ntmps87
   go_wp2_with (at_builtin; refine wp_app rfl _ _ 57 rfl W.heap.size 2 (.int .i64 0) 1 8 Tryz.underlying57 inf_int rfl (by omega) _ _ _ rfl hown0 _ _ _ [] rfl rfl (fun j u hj => by simp at hj) (by simp) (by unfold maxLen; omega) (by omega) (by simp) ?_; intro v1 w1 hown1 hgrow1 hblk1)
   go_ret
   exact ⟨_, rfl, hown1, ((Below.refl _ _).alloc (Nat.le_refl _) _).grown hgrow1 (by simp) (fun k hk => by have := hown0.lt k hk; exact this.1)⟩
 ·obtain ⟨b, off, rfl, _, _⟩ := hV.cell (k := 0) (by cases l with | nil => exact absurd rfl hn | cons x xs => simp)
  have hown0 := own_lit0 W W.heap.size 2 1 (Nat.le_refl _)
  have hV2 := hV.below ((Below.refl W.heap.size W).alloc (Nat.le_refl _) (.cells #[] 2))
  have hnews : ∀ j u, (l.map (Value.int .i64))[j]? = some u → (W.alloc (.cells #[] 2)).cell? ((⟨b, off, none⟩ : Addr).add j) = some u := by
   intro j u hj
   have hjl : j < l.length := by
    rw [List.getElem?_map] at hj
    by_cases hjl : j < l.length
    ·exact hjl
    ·rw [List.getElem?_eq_none (by omega)] at hj; cases hj
   obtain ⟨b', off', e, _, hc⟩ := hV2.cell hjl
   simp only [Option.some.injEq, Addr.mk.injEq, and_true] at e
   obtain ⟨rfl, rfl⟩ := e
   rw [List.getElem?_map, List.getElem?_eq_getElem hjl] at hj
   have hadd : (⟨b, off, none⟩ : Addr).add j = ⟨b, off + j, none⟩ := by unfold Addr.add; split <;> simp_all
   rw [hadd, hc, ← hj, geti_eq hjl]; rfl
  have Hnews := Lib.hid hnews; clear hnews
  have Hn := Lib.hid hn; clear hn hp
  go_enter Tryz.func87, Tryz.ntmps87
  go_wp2_with (at_builtin; refine wp_app rfl _ _ 57 rfl W.heap.size 2 (.int .i64 0) 1 8 Tryz.underlying57 inf_int rfl (by omega) _ _ _ rfl hown0 _ _ _ (l.map (Value.int .i64)) rfl (by simp) Hnews.out (by intro u hu; simp at hu; obtain ⟨x, _, rfl⟩ := hu; rfl) (by unfold maxLen; omega) (by omega) (by simp) ?_; intro v1 w1 hown1 hgrow1 hblk1)
  go_ret
  refine ⟨_, rfl, ?_, ((Below.refl _ _).alloc (Nat.le_refl _) _).grown hgrow1 (by simp) (fun k hk => by have := hown0.lt k hk; exact this.1)⟩
  simpa using hown1
theorem mkB_keep {b B : Nat} {w0 w w' : World} {c0 c1 c2 c3 c4 : Value} (hbB : b < B) (h : w.cell? ⟨b, 0, none⟩ = some c0 ∧ w.cell? ⟨b, 1, none⟩ = some c1 ∧ w.cell? ⟨b, 2, none⟩ = some c2 ∧ w.cell? ⟨b, 3, none⟩ = some c3 ∧ w.cell? ⟨b, 4, none⟩ = some c4 ∧ Below B w0 w) (hb : Below B w w') :
  w'.cell? ⟨b, 0, none⟩ = some c0 ∧ w'.cell? ⟨b, 1, none⟩ = some c1 ∧ w'.cell? ⟨b, 2, none⟩ = some c2 ∧ w'.cell? ⟨b, 3, none⟩ = some c3 ∧ w'.cell? ⟨b, 4, none⟩ = some c4 ∧ Below B w0 w' := by
 obtain ⟨h0, h1, h2, h3, h4, h5⟩ := h
 have hk := hb.block b hbB
 exact ⟨cell_keep h0 hk, cell_keep h1 hk, cell_keep h2 hk, cell_keep h3 hk, cell_keep h4 hk, h5.trans hb⟩
section
variable {b : Nat} {w0 w w' : World} {c0 c1 c2 c3 c4 : Value}
theorem mkB_call (hbB : b < w0.heap.size) (h : w.cell? ⟨b, 0, none⟩ = some c0 ∧ w.cell? ⟨b, 1, none⟩ = some c1 ∧ w.cell? ⟨b, 2, none⟩ = some c2 ∧ w.cell? ⟨b, 3, none⟩ = some c3 ∧ w.cell? ⟨b, 4, none⟩ = some c4 ∧ Below w0.heap.size w0 w) (hb : Below w.heap.size w w') :
  w'.cell? ⟨b, 0, none⟩ = some c0 ∧ w'.cell? ⟨b, 1, none⟩ = some c1 ∧ w'.cell? ⟨b, 2, none⟩ = some c2 ∧ w'.cell? ⟨b, 3, none⟩ = some c3 ∧ w'.cell? ⟨b, 4, none⟩ = some c4 ∧ Below w0.heap.size w0 w' :=
 mkB_keep hbB h (hb.mono h.2.2.2.2.2.size)
theorem mkB_alloc (hbB : b < w0.heap.size) (h : w.cell? ⟨b, 0, none⟩ = some c0 ∧ w.cell? ⟨b, 1, none⟩ = some c1 ∧ w.cell? ⟨b, 2, none⟩ = some c2 ∧ w.cell? ⟨b, 3, none⟩ = some c3 ∧ w.cell? ⟨b, 4, none⟩ = some c4 ∧ Below w0.heap.size w0 w) (o : Obj) :
  (w.alloc o).cell? ⟨b, 0, none⟩ = some c0 ∧ (w.alloc o).cell? ⟨b, 1, none⟩ = some c1 ∧ (w.alloc o).cell? ⟨b, 2, none⟩ = some c2 ∧ (w.alloc o).cell? ⟨b, 3, none⟩ = some c3 ∧ (w.alloc o).cell? ⟨b, 4, none⟩ = some c4 ∧ Below w0.heap.size w0 (w.alloc o) :=
 mkB_call hbB h ((Below.refl _ _).alloc (Nat.le_refl _) _)
theorem mkB_grown {ob : Option Nat} (hbB : b < w0.heap.size) (h : w.cell? ⟨b, 0, none⟩ = some c0 ∧ w.cell? ⟨b, 1, none⟩ = some c1 ∧ w.cell? ⟨b, 2, none⟩ = some c2 ∧ w.cell? ⟨b, 3, none⟩ = some c3 ∧ w.cell? ⟨b, 4, none⟩ = some c4 ∧ Below w0.heap.size w0 w) (hg : w.grownBy w' ob) (ho : ∀ k, ob = some k → w0.heap.size ≤ k) :
  w'.cell? ⟨b, 0, none⟩ = some c0 ∧ w'.cell? ⟨b, 1, none⟩ = some c1 ∧ w'.cell? ⟨b, 2, none⟩ = some c2 ∧ w'.cell? ⟨b, 3, none⟩ = some c3 ∧ w'.cell? ⟨b, 4, none⟩ = some c4 ∧ Below w0.heap.size w0 w' :=
 mkB_keep hbB h ((Below.refl _ _).grown hg h.2.2.2.2.2.size ho)
theorem mkB_below (h : w.cell? ⟨b, 0, none⟩ = some c0 ∧ w.cell? ⟨b, 1, none⟩ = some c1 ∧ w.cell? ⟨b, 2, none⟩ = some c2 ∧ w.cell? ⟨b, 3, none⟩ = some c3 ∧ w.cell? ⟨b, 4, none⟩ = some c4 ∧ Below w0.heap.size w0 w) : Below w0.heap.size w0 w := h.2.2.2.2.2
theorem mkB_size (h : w.cell? ⟨b, 0, none⟩ = some c0 ∧ w.cell? ⟨b, 1, none⟩ = some c1 ∧ w.cell? ⟨b, 2, none⟩ = some c2 ∧ w.cell? ⟨b, 3, none⟩ = some c3 ∧ w.cell? ⟨b, 4, none⟩ = some c4 ∧ Below w0.heap.size w0 w) : w0.heap.size ≤ w.heap.size := h.2.2.2.2.2.size
end
theorem news_old {w w' : World} {cs : Array Value} {T : TypeId} (hb : Below (w.alloc (.cells cs T)).drew.heap.size (w.alloc (.cells cs T)).drew w') : ∀ j u, cs.toList[j]? = some u → w'.cell? ((⟨w.heap.size, 0, none⟩ : Addr).add j) = some u :=
 World.news_of_block (heap_below (w := (w.alloc (.cells cs T)).drew) (heap_alloc_new w _) hb (by simp))
theorem range_snoc {l : List Int} {x : Nat} (h : ∀ k, k < l.length → 0 ≤ geti l k ∧ geti l k ≤ 7) (hx : x < 8) : ∀ k, k < (l ++ [(x : Int)]).length → 0 ≤ geti (l ++ [(x : Int)]) k ∧ geti (l ++ [(x : Int)]) k ≤ 7 := by
 intro k hk
 by_cases hkl : k < l.length
 ·rw [geti_append hkl]; exact h k hkl
 ·rw [show k = l.length from by simp at hk; omega, geti_snoc]; omega
theorem isSys_parts {m : Mk} {t : List (List Int)} (h : isSys m t = true) : m.ok = true ∧ isTab t = true ∧ upAll (doorOpen t) (getl t 0).length 0 = true := by
 simp only [isSys, Bool.and_eq_true] at h; exact ⟨h.1, h.2.1, h.2.2⟩
theorem one1_keep {b b' off : Nat} {w0 w w' : World} {cs : Array Value} {v : Value} (hb1 : b < w0.heap.size ∧ b' < w0.heap.size) (h : (∀ o, w.cell? ⟨b, o, none⟩ = cs[o]?) ∧ w.cell? ⟨b', off, none⟩ = some v ∧ Below w0.heap.size w0 w) (hb : Below w.heap.size w w') :
  (∀ o, w'.cell? ⟨b, o, none⟩ = cs[o]?) ∧ w'.cell? ⟨b', off, none⟩ = some v ∧ Below w0.heap.size w0 w' := by
 obtain ⟨h1, h2, h3⟩ := h
 have := h3.size
 exact ⟨fun o => by rw [(bcell hb).1 _ _ (by omega), h1], by rw [(bcell hb).1 _ _ (by omega), h2], h3.trans (hb.mono h3.size)⟩
theorem one1_below {b b' off : Nat} {w0 w : World} {cs : Array Value} {v : Value} (h : (∀ o, w.cell? ⟨b, o, none⟩ = cs[o]?) ∧ w.cell? ⟨b', off, none⟩ = some v ∧ Below w0.heap.size w0 w) : Below w0.heap.size w0 w := h.2.2
def allKeys (m : Mk) (cuts : List (List Int)) : Bool := cuts.all (isKeyB m)
theorem allKeys_iff {m : Mk} {l : List (List Int)} : allKeys m l = true ↔ ∀ k, k < l.length → isKeyB m (getl l k) = true := by
 simp only [allKeys, List.all_eq_true]
 constructor
 ·intro h k hk; exact h _ (getl_mem hk)
 ·intro h x hx
  obtain ⟨k, hk, rfl⟩ := List.getElem_of_mem hx
  have := h k hk
  rwa [getl_eq hk] at this
/-- The code of a system and partial cuts. -/
def partC (m : Mk) (t cuts : List (List Int)) : Int := if isSys m t = false then 1 else if t.length < cuts.length then 2 else if allKeys m cuts = false then 2 else 0
theorem partC_ok {m : Mk} {t cuts : List (List Int)} : partC m t cuts = 0 ↔ isSys m t = true ∧ cuts.length ≤ t.length ∧ allKeys m cuts = true := by
 unfold partC
 cases isSys m t <;> cases allKeys m cuts <;> simp <;> split <;> simp_all <;> omega
theorem fits_of {m : Mk} {t cuts : List (List Int)} (h : partC m t cuts = 0) : Fits m t cuts := by
 obtain ⟨h1, h2, h3⟩ := partC_ok.1 h
 obtain ⟨hok, htab, _⟩ := isSys_parts h1
 obtain ⟨htl, htr⟩ := isTab_iff.1 htab
 have hk := allKeys_iff.1 h3
 exact ⟨hok, htl, fun k hk => (htr k hk).1, (htr 0 (by omega)).2.1, fun k hk => (htr k hk).2.2, h2, hk, fun k hkk => (isKey_iff.1 (hk k hkk)).1, fun k hkk c hc => (isKey_iff.1 (hk k hkk)).2.1 _ (geti_mem hc)⟩
/-- The first of a list, and whether there is one. -/
def nextAns : List (List Int) → List Int × Bool
 | [] => ([], false)
 | k :: _ => (k, true)
theorem nextAns_append (a b : List (List Int)) : nextAns (a ++ b) = if (nextAns a).2 = true then nextAns a else nextAns b := by
 cases a <;> simp [nextAns]
theorem nextAns_true {l : List (List Int)} (h : (nextAns l).2 = true) : ∃ k r, l = k :: r := by
 cases l with
 | nil => cases h
 | cons k r => exact ⟨k, r, rfl⟩
/-- What the cells of a slice read as. -/
def readI (w : World) : Value → List Int
 | .slice (some ⟨b, off, none⟩) n _ => (List.range n).map fun k => match w.cell? ⟨b, off + k, none⟩ with
   | some (.int _ x) => x
   | _ => 0
 | _ => []
theorem V1.read {S : Nat → Prop} {w : World} {v : Value} {l : List Int} (h : V1 S w v l) : readI w v = l := by
 obtain ⟨a, c, rfl, h1, h2, h⟩ := h
 by_cases hn : l.length = 0
 ·obtain rfl := List.eq_nil_of_length_eq_zero hn
  cases a with
  | none => rfl
  | some a => obtain ⟨b, off, s⟩ := a; cases s <;> rfl
 ·obtain ⟨b, off, ev, rfl, _, _, _⟩ := h 0 (by omega)
  unfold readI
  apply List.ext_getElem (by simp)
  intro k g1 g2
  obtain ⟨b', off', ev, e, _, hc, hr⟩ := h k g2
  simp only [Option.some.injEq, Addr.mk.injEq, and_true] at e
  obtain ⟨rfl, rfl⟩ := e
  rw [show ev = .int .i64 (geti l k) from hr] at hc
  simp only [List.getElem_map, List.getElem_range, hc]
  exact geti_eq g2
/-- How many keys are still to come: for the measure of a loop over keys. -/
def isOk : Value → Bool
 | .bool b => b
 | _ => false
def toCome (m : Mk) (w : World) (kv okv : Value) : Nat := if isOk okv = true then (behind m (readI w kv)).length + 1 else 0
theorem toCome_last {m : Mk} {w : World} {kv : Value} : toCome m w kv (.bool false) = 0 := by unfold toCome; rw [if_neg (by simp [isOk])]
theorem toCome_more {m : Mk} {w : World} {kv : Value} {S : Nat → Prop} {l : List Int} (h : V1 S w kv l) : toCome m w kv (.bool true) = (behind m l).length + 1 := by unfold toCome; simp [isOk, h.read]
section
variable {σ : Type} {m : Mk} {W0 : World} {F0 : Nat → Prop} {f : FuncId} {caps : Array Value} {step : σ → List Int → List Int → σ × Bool} {s0 : σ} {L : List (List Int)} {cuts : List (List Int)} {locks : List (List (List Int))} {Inv : σ → (Nat → Prop) → World → Prop}
end
/-- Block G holds the numbers l and nothing else. -/
def BlkI (w : World) (G : Nat) (l : List Int) : Prop := ∃ T, w.heap[G]? = some (.cells (l.map (Value.int .i64)).toArray T (0, 0))
theorem BlkI.cell {w : World} {G k : Nat} {l : List Int} (h : BlkI w G l) (hk : k < l.length) : w.cell? ⟨G, k, none⟩ = some (.int .i64 (geti l k)) := by
 obtain ⟨T, h⟩ := h
 rw [cell_of_block h, geti_eq hk]
 simp [hk]
theorem BlkI.frozen {w : World} {G : Nat} {l : List Int} (h : BlkI w G l) (k : Nat) : w.frozen? ⟨G, k, none⟩ = false := by
 obtain ⟨T, h⟩ := h; exact frozen_of_block h k
theorem BlkI.set {w : World} {G : Nat} {l : List Int} (h : BlkI w G l) (k : Nat) (x : Int) : BlkI (w.setCell ⟨G, k, none⟩ (.int .i64 x)) G (l.set k x) := by
 obtain ⟨T, h⟩ := h
 refine ⟨T, ?_⟩
 rw [heap_setCell_self h]
 congr 2
 apply Array.ext'
 simp [List.map_set]
theorem BlkI.keep {w w' : World} {G : Nat} {l : List Int} (h : BlkI w G l) (hk : w'.heap[G]? = w.heap[G]?) : BlkI w' G l := by
 obtain ⟨T, h⟩ := h; exact ⟨T, by rw [hk]; exact h⟩
theorem BlkI.lt {w : World} {G : Nat} {l : List Int} (h : BlkI w G l) : G < w.heap.size := by
 obtain ⟨T, h⟩ := h; exact lt_of_heap h
theorem BlkI.x1 {w : World} {G off : Nat} {l : List Int} (h : BlkI w G l) (ho : off ≤ l.length) (hl : l.length ≤ 1000000) : X1 w (.slice (some ⟨G, off, none⟩) (l.length - off) (l.length - off)) (l.drop off) G := by
 obtain ⟨T, h⟩ := h
 refine ⟨_, l.length - off, by rw [List.length_drop], by rw [List.length_drop]; exact Nat.le_refl _, by unfold maxLen; omega, fun _ => ⟨off, _, T, rfl, h, fun k hk => ?_⟩⟩
 rw [List.length_drop] at hk
 have e : geti (l.drop off) k = geti l (off + k) := by simp [geti]
 rw [e, geti_eq (by omega)]
 simp [show off + k < l.length from by omega]
/-- The keys that begin with l and a cut from x on. -/
def fromB (m : Mk) (rem : Nat) (l : List Int) (x : Nat) : List (List Int) := (depths x m.d.toNat).flatMap fun y => genB m rem (l ++ [y])
theorem fromB_step {m : Mk} {rem : Nat} {l : List Int} {x : Nat} (h : x < m.d.toNat) : fromB m rem l x = genB m rem (l ++ [(x : Int)]) ++ fromB m rem l (x + 1) := by
 unfold fromB; rw [depths_cons h, List.flatMap_cons]
theorem fromB_end {m : Mk} {rem : Nat} {l : List Int} {x : Nat} (h : m.d.toNat ≤ x) : fromB m rem l x = [] := by
 unfold fromB; rw [depths_nil h]; rfl
theorem fromB_next {m : Mk} {rem : Nat} {l : List Int} {x : Nat} {t : List (List Int)} (h : x < m.d.toNat) : nextAns (fromB m rem l x ++ t) = if (nextAns (genB m rem (l ++ [(x : Int)]))).2 = true then nextAns (genB m rem (l ++ [(x : Int)])) else nextAns (fromB m rem l (x + 1) ++ t) := by
 rw [fromB_step h, List.append_assoc, nextAns_append]
/-- The keys behind k that share fewer than n cuts with it. -/
def lowB (m : Mk) (C : Nat) (k : List Int) : Nat → List (List Int)
 | 0 => []
 | n + 1 => fromB m (C - 1 - n) (k.take n) ((geti k n).toNat + 1) ++ lowB m C k n
theorem lowB_all {m : Mk} {C : Nat} {k : List Int} : ∀ n, n ≤ C → behindFrom m C k n ++ lowB m C k n = behindFrom m C k 0
 | 0, _ => by simp [lowB]
 | n + 1, h => by
   rw [← lowB_all n (by omega), behindFrom_step (by omega : n < C), List.append_assoc]
   rfl
theorem lowB_behind (m : Mk) (k : List Int) : lowB m m.c.toNat k m.c.toNat = behind m k := by
 have := lowB_all (m := m) (C := m.c.toNat) (k := k) m.c.toNat (Nat.le_refl _)
 rw [behindFrom_end, List.nil_append] at this
 exact this
theorem own_V1B {w : World} {B : Nat} {e : TypeId} {v : Value} {n : Nat} {l : List Int} {xs : List Value} (h : w.ownsRow B e 1 v n xs) (hx : xs = l.map (Value.int .i64)) : V1 (fun b => B ≤ b) w v l := by
 subst hx; exact (own_F1 h).v1
/-- A key, in memory of S or new. -/
def FirstPost (S : Nat → Prop) (W : World) (a : List Int × Bool) (e' : Ending) (w' : World) : Prop :=
 ∃ v', e' = .returned (.tuple #[v', .bool a.2]) ∧ (a.2 = true → V1 (fun b => S b ∨ W.heap.size ≤ b) w' v' a.1) ∧ Below W.heap.size W w'
set_option maxRecDepth 100000 in
set_option maxHeartbeats 2000000 in
theorem l02First_any (m : Mk) (hm : m.ok = true) : ∀ (rem : Nat) (S : Nat → Prop) (v : Value) (l : List Int) (W : World), V1 S W v l → (l = [] → PV v) → (l.length : Int) + rem = m.c → (∀ k, k < l.length → 0 ≤ geti l k ∧ geti l k ≤ 7) →
  Calls Tryz.prog 60 #[.agg #[.int .i64 m.c, .int .i64 m.d, .int .i64 m.s, .int .i64 m.e, .int .i64 m.l], v] W (FirstPost S W (nextAns (genB m rem l))) := by
 have hmk := Mk.ok_iff.1 hm
 obtain ⟨i0, hi, hz0, hz1, hz2⟩ := info_parts inf_int
 intro rem
 induction rem with
 | zero =>
   intro S v l W h hp hlr hrange
   have hV := h
   have Hrange := Lib.hid hrange; clear hrange
   have Hmk := Lib.hid hmk
   obtain ⟨a, c, rfl, hmx⟩ := h.form
   clear hp hm
   have hlen : l.length ≤ 6 := by omega
   have hl : (l.length : Int) = m.c := by omega
   have e2 : ((l.length : Int) == m.c) = true := by simp [hl]
   have Hl := Lib.hid hl; clear hl hlr hmk
   obtain ⟨W1, hW1, hB01, hz01, HZ01, hc01, hh01⟩ := box_facts W #[.int .i64 m.c, .int .i64 m.d, .int .i64 m.s, .int .i64 m.e, .int .i64 m.l] 32
   have hV1 := hV.below hB01
   cases hb : begins m l
   ·have hfin : nextAns (genB m 0 l) = ([], false) := by unfold genB; rw [if_neg (by rw [hb]; decide)]; rfl
    rw [hfin]
    have Hb := Lib.hid hb; clear hb hfin
    go_enter Tryz.func60, Tryz.ntmps60
    go_wp2_with fail
    rw [← hW1]
    go_wp2_with fail
    refine (l02Begins_b m _ l _ _ Hb.out hV1 (by omega) Hrange.out).mono ?_; rintro e' w2 ⟨rfl, hb_w2⟩; have hB2 := (Below.refl W1.heap.size W1).trans (hb_w2.mono (Below.refl W1.heap.size W1).size)
    clear hc01 hh01
    go_wp2_with fail
    go_ret2
    exact ⟨_, rfl, (fun h => by cases h), hB01.trans (hB2.mono (by omega))⟩
   ·have Hb := Lib.hid hb; clear hb
    obtain ⟨q, hq⟩ : ∃ q, decide (m.l ≤ (kinds l : Int)) = q := ⟨_, rfl⟩
    have hfin : (nextAns (genB m 0 l)).2 = q ∧ (q = true → (nextAns (genB m 0 l)).1 = l) := by
     unfold genB gen; rw [if_pos Hb.out]
     by_cases hk : m.l ≤ (kinds l : Int)
     ·rw [if_pos hk, ← hq, decide_eq_true hk]; exact ⟨rfl, fun _ => rfl⟩
     ·rw [if_neg hk, ← hq, decide_eq_false hk]; exact ⟨rfl, fun h => by cases h⟩
    obtain ⟨ans, hans⟩ : ∃ ans, nextAns (genB m 0 l) = ans := ⟨_, rfl⟩
    rw [hans] at hfin ⊢
    obtain ⟨r1, r2⟩ := ans
    obtain ⟨rfl, hfin⟩ : r2 = q ∧ (q = true → r1 = l) := hfin
    have Hf := Lib.hid hfin; clear hfin hans
    go_enter Tryz.func60, Tryz.ntmps60
    go_wp2_with fail
    rw [← hW1]
    go_wp2_with fail
    refine (l02Begins_b m _ l _ _ Hb.out hV1 (by omega) Hrange.out).mono ?_; rintro e' w2 ⟨rfl, hb_w2⟩; have hB2 := (Below.refl W1.heap.size W1).trans (hb_w2.mono (Below.refl W1.heap.size W1).size)
    have hx2 : ∀ o, (w2).cell? ⟨W.heap.size, o, none⟩ = (#[.int .i64 m.c, .int .i64 m.d, .int .i64 m.s, .int .i64 m.e, .int .i64 m.l] : Array Value)[o]? := fun o => by rw [(bcell hB2).1 _ _ hz01, hc01]
    have HVo := Lib.hid ((hV1.below hB2).mono (S' := fun b => S b ∨ W.heap.size ≤ b) (fun _ h _ => .inl h) (fun _ _ _ => rfl))
    clear hc01 hh01
    go_wp2_with fail
    go_quiet ((go_at_call 86; first | exact quiet_at (l02Kinds_q _ _ _ (V1.drewN (hV1.below hB2))) | exact quiet_at0 (l02Kinds_q _ _ _ (V1.drewN (hV1.below hB2)))))
    go_wp2_with fail
    go_ret2
    exact ⟨_, rfl, (fun h => by rw [Hf.out h]; exact HVo.out.drewN), by repeat' first | refine below_drewN ?_ _ | exact hB01.trans (hB2.mono (by omega))⟩
 | succ rem ih =>
   intro S v l W h hp hlr hrange
   have hV := h
   have Hrange := Lib.hid hrange; clear hrange
   have Hmk := Lib.hid hmk
   obtain ⟨a, c, rfl, hmx⟩ := h.form
   have hlen : l.length ≤ 6 ∧ rem ≤ 5 := by omega
   have hl : ¬ (l.length : Int) = m.c := by omega
   have e2 : ((l.length : Int) == m.c) = false := by simp [hl]
   have Hl := Lib.hid hl; clear hl
   have IH := Lib.hid ih; clear ih
   have Hp := Lib.hid hp; clear hp
   obtain ⟨W1, hW1, hB01, hz01, HZ01, hc01, hh01⟩ := box_facts W #[.int .i64 m.c, .int .i64 m.d, .int .i64 m.s, .int .i64 m.e, .int .i64 m.l] 32
   have hV1 := hV.below hB01
   cases hb : begins m l
   ·have hfin : nextAns (genB m (rem + 1) l) = ([], false) := by unfold genB; rw [if_neg (by rw [hb]; decide)]; rfl
    rw [hfin]
    have Hb := Lib.hid hb; clear hb hlr hmk hfin
    go_enter Tryz.func60, Tryz.ntmps60
    go_wp2_with fail
    rw [← hW1]
    go_wp2_with fail
    refine (l02Begins_b m _ l _ _ Hb.out hV1 (by omega) Hrange.out).mono ?_; rintro e' w2 ⟨rfl, hb_w2⟩; have hB2 := (Below.refl W1.heap.size W1).trans (hb_w2.mono (Below.refl W1.heap.size W1).size)
    clear hc01 hh01
    go_wp2_with fail
    go_ret2
    exact ⟨_, rfl, (fun h => by cases h), hB01.trans (hB2.mono (by omega))⟩
   ·have hfin : genB m (rem + 1) l = fromB m rem l 0 := by rw [genB_succ hb]; rfl
    obtain ⟨ans, hans⟩ : ∃ ans, nextAns (genB m (rem + 1) l) = ans := ⟨_, rfl⟩
    rw [hans]
    have hans0 : ans = nextAns (fromB m rem l 0 ++ []) := by rw [List.append_nil, ← hfin, hans]
    have Hans := Lib.hid hans0; clear hans0 hans hfin
    have Hb := Lib.hid hb; clear hb
    have Hlr := Lib.hid hlr; clear hlr
    obtain ⟨d, hd1, hd2, hd8, hdn⟩ : ∃ d : Nat, m.d ≤ d ∧ (d : Int) ≤ m.d ∧ d ≤ 8 ∧ m.d.toNat = d := ⟨m.d.toNat, by omega, by omega, by omega, rfl⟩
    have Hdn := Lib.hid hdn; clear hdn
    clear hmk
    have Hm := Lib.hid hm; clear hm
    go_enter Tryz.func60, Tryz.ntmps60
    go_wp2_with fail
    rw [← hW1]
    go_wp2_with fail
    refine (l02Begins_b m _ l _ _ Hb.out hV1 (by omega) Hrange.out).mono ?_; rintro e' w2 ⟨rfl, hb_w2⟩; have hB2 := (Below.refl W1.heap.size W1).trans (hb_w2.mono (Below.refl W1.heap.size W1).size)
    have hx2 : ∀ o, (w2).cell? ⟨W.heap.size, o, none⟩ = (#[.int .i64 m.c, .int .i64 m.d, .int .i64 m.s, .int .i64 m.e, .int .i64 m.l] : Array Value)[o]? := fun o => by rw [(bcell hB2).1 _ _ hz01, hc01]
    have Hc01 := Lib.hid hc01; clear hc01
    have HW1 := Lib.hid hW1; clear hW1
    clear hh01
    go_wp2_with fail
    have Hx2 := Lib.hid hx2; clear hx2
    go_loopw [6, 7, 8] (fun i _ _ wr => ∃ x : Nat, x ≤ d ∧ i = .int .i64 (x : Int) ∧ ans = nextAns (fromB m rem l x ++ []) ∧ Below W1.heap.size W1 wr) (fun i _ _ _ => d - (intOf i).toNat)
    case atStart => exact ⟨0, Nat.zero_le _, rfl, Hans.out, hB2⟩
    case round =>
     obtain ⟨x, hx, rfl, hrem, hB⟩ := hrel
     have Hrem := Lib.hid hrem; clear hrem
     have hxr : ∀ o, wr.cell? ⟨W.heap.size, o, none⟩ = (#[.int .i64 m.c, .int .i64 m.d, .int .i64 m.s, .int .i64 m.e, .int .i64 m.l] : Array Value)[o]? := fun o => by rw [(bcell hB).1 _ _ hz01, Hc01.out]
     have hzr := hB.size
     by_cases hxx : x < d
     ·obtain ⟨r, hr⟩ : ∃ r, nextAns (genB m rem (l ++ [(x : Int)])) = r := ⟨_, rfl⟩
      have hnx := fromB_next (m := m) (rem := rem) (l := l) (x := x) (t := []) (by rw [Hdn.out]; exact hxx)
      rw [hr] at hnx
      have Hr := Lib.hid hr; clear hr
      obtain ⟨r1, r2⟩ := r
      have Hnx := Lib.hid hnx; clear hnx
      have hcell0 := hxr 0
      have hcell1 := hxr 1
      have hcell2 := hxr 2
      have hcell3 := hxr 3
      have hcell4 := hxr 4
      simp at hcell0 hcell1 hcell2 hcell3 hcell4
      have Hxr := Lib.hid hxr
      have hbB : W.heap.size < wr.heap.size := by omega
      have hxd : decide ((x : Int) < m.d) = true := by simp; omega
      cases r2
      ·skip
       go_wp2_with fail
       go_region_held3 (fun w' => w'.cell? ⟨W.heap.size, 0, none⟩ = some (.int .i64 m.c) ∧ w'.cell? ⟨W.heap.size, 1, none⟩ = some (.int .i64 m.d) ∧ w'.cell? ⟨W.heap.size, 2, none⟩ = some (.int .i64 m.s) ∧ w'.cell? ⟨W.heap.size, 3, none⟩ = some (.int .i64 m.e) ∧ w'.cell? ⟨W.heap.size, 4, none⟩ = some (.int .i64 m.l) ∧ Below wr.heap.size wr w')
        (first | exact ⟨hcell0, hcell1, hcell2, hcell3, hcell4, (Below.refl _ _).drew⟩ | exact mkB_call hbB (by assumption) (by assumption) | exact mkB_alloc hbB (by assumption) _ | exact mkB_grown hbB (by assumption) (by assumption) (own_lo hown1 (Nat.le_refl _)))
        (first | (go_at_call 87; refine (l01Own_any _ l _ (hV1.below (hB.trans ((mkB_below (by assumption)).mono hzr))) Hp.out (by omega)).mono ?_; rintro e' w' ⟨v1, rfl, hown0, hb⟩; have hzz := Nat.le_trans (mkB_size (by assumption)) hb.size; have hown1 := own_base hown0 (mkB_size (by assumption)); clear hown0) | (refine step_append_lies _ (by rfl) _ _ _ (by rfl) wr.heap.size 2 i0 _ 1 8 Tryz.underlying57 hi hz0 hz1 hz2 rfl (by omega) _ l.length _ (by rfl) (hown1.alloc _) ⟨_, 0, none⟩ 1 1 [.int .i64 x] (by rfl) (by rfl) (World.news_of_block (heap_alloc_new _ _)) (by simp [Value.oneCell']) (by omega) (by unfold maxLen; omega) (by omega) (by simp; omega) _ rfl ?_; intro gg cap w1 hown2 hgrow hat hlt) | (refine step_append_lies _ (by rfl) _ _ _ (by rfl) wr.heap.size 2 i0 _ 1 8 Tryz.underlying57 hi hz0 hz1 hz2 rfl (by omega) _ l.length _ (by rfl) hown1 ⟨_, 0, none⟩ 1 1 [.int .i64 x] (by rfl) (by rfl) (news_old hb) (by simp [Value.oneCell']) (by omega) (by unfold maxLen; omega) (by omega) (by omega) _ rfl ?_; intro gg cap w1 hown2 hgrow hat hlt) | (go_at_call 60; refine (IH.out _ _ (l ++ [(x : Int)]) _ (own_V1B (by assumption) (by simp)) (fun h => by simp at h) (by have := Hlr.out; simp; omega) (range_snoc Hrange.out (by omega))).mono ?_; rintro e' wq ⟨v2, he2, hk2, hb⟩; rw [Hr.out] at he2 hk2; subst he2; have hk3 := (fun hh => V1.mono (S' := fun b => W.heap.size ≤ b) (hk2 hh) (fun b h _ => by have g1 := (hown2.lt _ rfl).1; have g2 := (hown2.lt _ rfl).2; rcases h with h | h <;> exact Nat.le_trans (by omega) h) (fun _ _ _ => rfl)); clear hk2))
       all_goals
        have hBw := mkB_below (w0 := wr) (by assumption)
        have Hk2 := Lib.hid hk3; clear hk3
        go_wp2_with fail
        go_roundw
        case rel => exact ⟨x + 1, by omega, by go_num, by rw [Hrem.out, Hnx.out]; rfl, hB.trans (hBw.mono hzr)⟩
        case measure => simp [intOf]; omega
      ·have ha : ans = (r1, true) := by rw [Hrem.out, Hnx.out]; rfl
       have Ha := Lib.hid ha; clear ha
       go_wp2_with fail
       go_region_held3 (fun w' => w'.cell? ⟨W.heap.size, 0, none⟩ = some (.int .i64 m.c) ∧ w'.cell? ⟨W.heap.size, 1, none⟩ = some (.int .i64 m.d) ∧ w'.cell? ⟨W.heap.size, 2, none⟩ = some (.int .i64 m.s) ∧ w'.cell? ⟨W.heap.size, 3, none⟩ = some (.int .i64 m.e) ∧ w'.cell? ⟨W.heap.size, 4, none⟩ = some (.int .i64 m.l) ∧ Below wr.heap.size wr w')
        (first | exact ⟨hcell0, hcell1, hcell2, hcell3, hcell4, (Below.refl _ _).drew⟩ | exact mkB_call hbB (by assumption) (by assumption) | exact mkB_alloc hbB (by assumption) _ | exact mkB_grown hbB (by assumption) (by assumption) (own_lo hown1 (Nat.le_refl _)))
        (first | (go_at_call 87; refine (l01Own_any _ l _ (hV1.below (hB.trans ((mkB_below (by assumption)).mono hzr))) Hp.out (by omega)).mono ?_; rintro e' w' ⟨v1, rfl, hown0, hb⟩; have hzz := Nat.le_trans (mkB_size (by assumption)) hb.size; have hown1 := own_base hown0 (mkB_size (by assumption)); clear hown0) | (refine step_append_lies _ (by rfl) _ _ _ (by rfl) wr.heap.size 2 i0 _ 1 8 Tryz.underlying57 hi hz0 hz1 hz2 rfl (by omega) _ l.length _ (by rfl) (hown1.alloc _) ⟨_, 0, none⟩ 1 1 [.int .i64 x] (by rfl) (by rfl) (World.news_of_block (heap_alloc_new _ _)) (by simp [Value.oneCell']) (by omega) (by unfold maxLen; omega) (by omega) (by simp; omega) _ rfl ?_; intro gg cap w1 hown2 hgrow hat hlt) | (refine step_append_lies _ (by rfl) _ _ _ (by rfl) wr.heap.size 2 i0 _ 1 8 Tryz.underlying57 hi hz0 hz1 hz2 rfl (by omega) _ l.length _ (by rfl) hown1 ⟨_, 0, none⟩ 1 1 [.int .i64 x] (by rfl) (by rfl) (news_old hb) (by simp [Value.oneCell']) (by omega) (by unfold maxLen; omega) (by omega) (by omega) _ rfl ?_; intro gg cap w1 hown2 hgrow hat hlt) | (go_at_call 60; refine (IH.out _ _ (l ++ [(x : Int)]) _ (own_V1B (by assumption) (by simp)) (fun h => by simp at h) (by have := Hlr.out; simp; omega) (range_snoc Hrange.out (by omega))).mono ?_; rintro e' wq ⟨v2, he2, hk2, hb⟩; rw [Hr.out] at he2 hk2; subst he2; have hk3 := (fun hh => V1.mono (S' := fun b => W.heap.size ≤ b) (hk2 hh) (fun b h _ => by have g1 := (hown2.lt _ rfl).1; have g2 := (hown2.lt _ rfl).2; rcases h with h | h <;> exact Nat.le_trans (by omega) h) (fun _ _ _ => rfl)); clear hk2))
       all_goals
        have hBw := mkB_below (w0 := wr) (by assumption)
        have Hk2 := Lib.hid hk3; clear hk3
        go_wp2_with fail
        go_ret2
        unfold FirstPost
        rw [Ha.out]
        exact ⟨_, rfl, (fun _ => (Hk2.out (by trivial)).mono (fun _ h _ => .inr h) (fun _ _ _ => rfl)), hB01.trans ((hB.trans (hBw.mono hzr)).mono (by omega))⟩
     ·have hfx : ans = ([], false) := by rw [Hrem.out, fromB_end (by rw [Hdn.out]; omega)]; rfl
      have Hfx := Lib.hid hfx; clear hfx
      go_wp2_with fail
      go_ret2
      unfold FirstPost
      rw [Hfx.out]
      exact ⟨_, rfl, (fun h => by cases h), hB01.trans (hB.mono (by omega))⟩
theorem behind_nextAns {m : Mk} {k : List Int} {C : Nat} (hC : m.c.toNat = C) : nextAns (behind m k) = nextAns (lowB m C k C) := by rw [← hC, lowB_behind]
set_option maxRecDepth 100000 in
set_option maxHeartbeats 4000000 in
theorem l02Next_any {S : Nat → Prop} (m : Mk) (hm : m.ok = true) (v : Value) (l : List Int) (W : World) (h : V1 S W v l) (hlr : (l.length : Int) = m.c) (hrange : ∀ k, k < l.length → 0 ≤ geti l k ∧ geti l k ≤ 7) :
  Calls Tryz.prog 64 #[.agg #[.int .i64 m.c, .int .i64 m.d, .int .i64 m.s, .int .i64 m.e, .int .i64 m.l], v] W (FirstPost (fun _ => False) W (nextAns (behind m l))) := by
 have hmk := Mk.ok_iff.1 hm
 obtain ⟨i0, hi, hz0, hz1, hz2⟩ := info_parts inf_int
 obtain ⟨C, hC⟩ : ∃ C, m.c.toNat = C := ⟨_, rfl⟩
 obtain ⟨ans, hans⟩ : ∃ ans, nextAns (behind m l) = ans := ⟨_, rfl⟩
 rw [hans]
 have hans0 : ans = nextAns (lowB m C l C) := by rw [← hans, behind_nextAns hC]
 have hlC : l.length = C := by omega
 have hC6 : 2 ≤ C ∧ C ≤ 6 := by omega
 have hCm : (C : Int) = m.c := by omega
 obtain ⟨b0, off0, c, rfl, hcl⟩ : ∃ b0 off0 c, v = .slice (some ⟨b0, off0, none⟩) l.length c ∧ l.length ≤ c := by
  obtain ⟨a, c, rfl, hc, _⟩ := id h
  obtain ⟨b0, off0, rfl, _⟩ := h.cell (k := 0) (by omega)
  exact ⟨b0, off0, c, rfl, hc⟩
 obtain ⟨d, hd1, hd2, hd8, hdn⟩ : ∃ d : Nat, m.d ≤ d ∧ (d : Int) ≤ m.d ∧ d ≤ 8 ∧ m.d.toNat = d := ⟨m.d.toNat, by omega, by omega, by omega, rfl⟩
 have hlen := h.len
 unfold maxLen at hlen
 have Hdn := Lib.hid hdn; clear hdn
 have Hrange := Lib.hid hrange; clear hrange
 have Hans := Lib.hid hans0; clear hans0 hans
 have Hm := Lib.hid hm; clear hm hmk hC
 have HC := Lib.hid hCm; clear hCm hlr
 have hl1 : l.length ≤ C := by omega
 have hl2 : C ≤ l.length := by omega
 have HlC := Lib.hid hlC; clear hlC
 obtain ⟨W1, hW1, hB01, hz01, HZ01, hc01, hh01⟩ := box_facts W #[.int .i64 m.c, .int .i64 m.d, .int .i64 m.s, .int .i64 m.e, .int .i64 m.l] 32
 have hV1 := h.below hB01
 go_enter Tryz.func64, Tryz.ntmps64
 go_wp2_with fail
 rw [← hW1]
 have Hc01 := Lib.hid hc01; clear hc01
 have HW1 := Lib.hid hW1; clear hW1
 clear hh01
 go_loopw [6, 7, 8, 9] (fun i _ _ _ wr => ∃ (j : Nat) (z : Int), j ≤ C ∧ i = .int .i64 z ∧ z = (j : Int) - 1 ∧ ans = nextAns (lowB m C l j) ∧ Below W1.heap.size W1 wr) (fun i _ _ _ _ => (intOf i + 1).toNat)
 case atStart => exact ⟨C, _, Nat.le_refl _, rfl, by rw [HlC.out], Hans.out, Below.refl _ _⟩
 case round =>
  obtain ⟨j, z, hj, rfl, hz, hrem, hBo⟩ := hrel
  have Hrem := Lib.hid hrem; clear hrem
  obtain ⟨wo, rfl⟩ : ∃ wo, wo = wr := ⟨_, rfl⟩
  have hzo := hBo.size
  by_cases hj0 : j = 0
  ·have hfx : ans = ([], false) := by rw [Hrem.out, hj0]; rfl
   subst hj0
   have hzn : z < 0 := by omega
   have Hz := Lib.hid hz; clear hz
   have Hfx := Lib.hid hfx; clear hfx
   go_wp2_with fail
   go_ret2
   unfold FirstPost
   rw [Hfx.out]
   exact ⟨_, rfl, (fun h => by cases h), hB01.trans (hBo.mono (by omega))⟩
  ·obtain ⟨n, rfl⟩ : ∃ n, j = n + 1 := ⟨j - 1, by omega⟩
   obtain rfl : z = (n : Int) := by omega
   clear hz
   have hnl : n < l.length := by omega
   have hrg := Hrange.out n hnl
   obtain ⟨b1, off1, e1, _, hc1⟩ := (hV1.below hBo).cell hnl
   simp only [Option.some.injEq, Addr.mk.injEq, and_true] at e1
   obtain ⟨rfl, rfl⟩ := e1
   obtain ⟨g, hg, hg7⟩ : ∃ g : Nat, geti l n = g ∧ g ≤ 7 := ⟨(geti l n).toNat, by omega, by omega⟩
   rw [hg] at hc1
   have hst : lowB m C l (n + 1) = fromB m (C - 1 - n) (l.take n) (g + 1) ++ lowB m C l n := by rw [lowB, hg, Int.toNat_natCast]
   have Hst := Lib.hid hst; clear hst
   have htk : V1 S wo (.slice (some ⟨b0, off0, none⟩) n c) (l.take n) := (hV1.below hBo).take (by omega)
   have htl : (l.take n).length = n := by rw [List.length_take]; omega
   have hrt : ∀ x : Nat, x < 8 → ∀ k, k < (l.take n ++ [(x : Int)]).length → 0 ≤ geti (l.take n ++ [(x : Int)]) k ∧ geti (l.take n ++ [(x : Int)]) k ≤ 7 := fun x hx => range_snoc (fun k hk => by rw [htl] at hk; rw [geti_take hk]; exact Hrange.out k (by omega)) hx
   have Hrt0 := Lib.hid hrt; clear hrt hrg hg
   have Htl := Lib.hid htl; clear htl
   have hpv : l.take n = [] → PV (.slice (some ⟨b0, off0, none⟩) n c) := fun _ => .inr ⟨_, _, _, _, rfl⟩
   have Hpv := Lib.hid hpv; clear hpv
   have hn0 : (0 : Int) ≤ (n : Int) := by omega
   have hnc : (n : Int) ≤ (c : Int) := by omega
   go_wp2_with fail
   clear hc1
   go_loopw [7, 8, 9] (fun i _ _ wr => ∃ x : Nat, g + 1 ≤ x ∧ x ≤ max d (g + 1) ∧ i = .int .i64 (x : Int) ∧ ans = nextAns (fromB m (C - 1 - n) (l.take n) x ++ lowB m C l n) ∧ Below wo.heap.size wo wr) (fun i _ _ _ => d - (intOf i).toNat)
   case atStart => exact ⟨g + 1, Nat.le_refl _, by omega, by go_num, by rw [← Hst.out]; exact Hrem.out, Below.refl _ _⟩
   case round =>
    obtain ⟨x, hx1, hx2, rfl, hrem, hBn⟩ := hrel
    have Hrem2 := Lib.hid hrem; clear hrem
    have hzr := hBn.size
    have hBW := hBo.trans (hBn.mono hzo)
    have hxr : ∀ o, wr.cell? ⟨W.heap.size, o, none⟩ = (#[.int .i64 m.c, .int .i64 m.d, .int .i64 m.s, .int .i64 m.e, .int .i64 m.l] : Array Value)[o]? := fun o => by rw [(bcell hBW).1 _ _ hz01, Hc01.out]
    by_cases hxx : x < d
    ·obtain ⟨r, hr⟩ : ∃ r, nextAns (genB m (C - 1 - n) (l.take n ++ [(x : Int)])) = r := ⟨_, rfl⟩
     have hnx := fromB_next (m := m) (rem := C - 1 - n) (l := l.take n) (x := x) (t := lowB m C l n) (by rw [Hdn.out]; exact hxx)
     rw [hr] at hnx
     have Hr := Lib.hid hr; clear hr
     obtain ⟨r1, r2⟩ := r
     have Hnx := Lib.hid hnx; clear hnx
     have htk := htk.below hBn
     have Hrt := Lib.hid (Hrt0.out x (by omega))
     have hcell0 := hxr 0
     have hcell1 := hxr 1
     have hcell2 := hxr 2
     have hcell3 := hxr 3
     have hcell4 := hxr 4
     simp at hcell0 hcell1 hcell2 hcell3 hcell4
     have Hxr := Lib.hid hxr
     have hbB : W.heap.size < wr.heap.size := by omega
     have hxd : decide ((x : Int) < m.d) = true := by simp; omega
     cases r2
     ·skip
      go_wp2_with fail
      go_region_held3 (fun w' => w'.cell? ⟨W.heap.size, 0, none⟩ = some (.int .i64 m.c) ∧ w'.cell? ⟨W.heap.size, 1, none⟩ = some (.int .i64 m.d) ∧ w'.cell? ⟨W.heap.size, 2, none⟩ = some (.int .i64 m.s) ∧ w'.cell? ⟨W.heap.size, 3, none⟩ = some (.int .i64 m.e) ∧ w'.cell? ⟨W.heap.size, 4, none⟩ = some (.int .i64 m.l) ∧ Below wr.heap.size wr w')
       (first | exact ⟨hcell0, hcell1, hcell2, hcell3, hcell4, (Below.refl _ _).drew⟩ | exact mkB_call hbB (by assumption) (by assumption) | exact mkB_alloc hbB (by assumption) _ | exact mkB_grown hbB (by assumption) (by assumption) (own_lo hown1 (Nat.le_refl _)))
       (first | (go_at_call 87; refine (l01Own_any _ (l.take n) _ (htk.below ((mkB_below (by assumption)))) Hpv.out (by rw [Htl.out]; omega)).mono ?_; rintro e' w' ⟨v1, rfl, hown0, hb⟩; rw [Htl.out] at hown0; have hzz := Nat.le_trans (mkB_size (by assumption)) hb.size; have hown1 := own_base hown0 (mkB_size (by assumption)); clear hown0) | (refine step_append_lies _ (by rfl) _ _ _ (by rfl) wr.heap.size 2 i0 _ 1 8 Tryz.underlying57 hi hz0 hz1 hz2 rfl (by omega) _ n _ (by rfl) (hown1.alloc _) ⟨_, 0, none⟩ 1 1 [.int .i64 x] (by rfl) (by rfl) (World.news_of_block (heap_alloc_new _ _)) (by simp [Value.oneCell']) (by omega) (by unfold maxLen; omega) (by omega) (by simp; omega) _ rfl ?_; intro gg cap w1 hown2 hgrow hat hlt) | (refine step_append_lies _ (by rfl) _ _ _ (by rfl) wr.heap.size 2 i0 _ 1 8 Tryz.underlying57 hi hz0 hz1 hz2 rfl (by omega) _ n _ (by rfl) hown1 ⟨_, 0, none⟩ 1 1 [.int .i64 x] (by rfl) (by rfl) (news_old hb) (by simp [Value.oneCell']) (by omega) (by unfold maxLen; omega) (by omega) (by omega) _ rfl ?_; intro gg cap w1 hown2 hgrow hat hlt) | (go_at_call 60; refine (l02First_any m Hm.out (C - 1 - n) _ _ (l.take n ++ [(x : Int)]) _ (own_V1B (by assumption) (by simp)) (fun h => by simp at h) (by have := Htl.out; have := HC.out; simp [Htl.out]; omega) Hrt.out).mono ?_; rintro e' wq ⟨v2, he2, hk2, hb⟩; rw [Hr.out] at he2 hk2; subst he2; have hk3 := (fun hh => V1.mono (S' := fun b => W.heap.size ≤ b) (hk2 hh) (fun b h _ => by have g1 := (hown2.lt _ rfl).1; have g2 := (hown2.lt _ rfl).2; rcases h with h | h <;> exact Nat.le_trans (by omega) h) (fun _ _ _ => rfl)); clear hk2))
      all_goals
       have hBw := mkB_below (w0 := wr) (by assumption)
       have Hk2 := Lib.hid hk3; clear hk3
       go_wp2_with fail
       go_roundw
       case rel => exact ⟨x + 1, by omega, by omega, by go_num, by rw [Hrem2.out, Hnx.out]; rfl, hBn.trans (hBw.mono hzr)⟩
       case measure => simp [intOf]; omega
     ·have ha : ans = (r1, true) := by rw [Hrem2.out, Hnx.out]; rfl
      have Ha := Lib.hid ha; clear ha
      go_wp2_with fail
      go_region_held3 (fun w' => w'.cell? ⟨W.heap.size, 0, none⟩ = some (.int .i64 m.c) ∧ w'.cell? ⟨W.heap.size, 1, none⟩ = some (.int .i64 m.d) ∧ w'.cell? ⟨W.heap.size, 2, none⟩ = some (.int .i64 m.s) ∧ w'.cell? ⟨W.heap.size, 3, none⟩ = some (.int .i64 m.e) ∧ w'.cell? ⟨W.heap.size, 4, none⟩ = some (.int .i64 m.l) ∧ Below wr.heap.size wr w')
       (first | exact ⟨hcell0, hcell1, hcell2, hcell3, hcell4, (Below.refl _ _).drew⟩ | exact mkB_call hbB (by assumption) (by assumption) | exact mkB_alloc hbB (by assumption) _ | exact mkB_grown hbB (by assumption) (by assumption) (own_lo hown1 (Nat.le_refl _)))
       (first | (go_at_call 87; refine (l01Own_any _ (l.take n) _ (htk.below ((mkB_below (by assumption)))) Hpv.out (by rw [Htl.out]; omega)).mono ?_; rintro e' w' ⟨v1, rfl, hown0, hb⟩; rw [Htl.out] at hown0; have hzz := Nat.le_trans (mkB_size (by assumption)) hb.size; have hown1 := own_base hown0 (mkB_size (by assumption)); clear hown0) | (refine step_append_lies _ (by rfl) _ _ _ (by rfl) wr.heap.size 2 i0 _ 1 8 Tryz.underlying57 hi hz0 hz1 hz2 rfl (by omega) _ n _ (by rfl) (hown1.alloc _) ⟨_, 0, none⟩ 1 1 [.int .i64 x] (by rfl) (by rfl) (World.news_of_block (heap_alloc_new _ _)) (by simp [Value.oneCell']) (by omega) (by unfold maxLen; omega) (by omega) (by simp; omega) _ rfl ?_; intro gg cap w1 hown2 hgrow hat hlt) | (refine step_append_lies _ (by rfl) _ _ _ (by rfl) wr.heap.size 2 i0 _ 1 8 Tryz.underlying57 hi hz0 hz1 hz2 rfl (by omega) _ n _ (by rfl) hown1 ⟨_, 0, none⟩ 1 1 [.int .i64 x] (by rfl) (by rfl) (news_old hb) (by simp [Value.oneCell']) (by omega) (by unfold maxLen; omega) (by omega) (by omega) _ rfl ?_; intro gg cap w1 hown2 hgrow hat hlt) | (go_at_call 60; refine (l02First_any m Hm.out (C - 1 - n) _ _ (l.take n ++ [(x : Int)]) _ (own_V1B (by assumption) (by simp)) (fun h => by simp at h) (by have := Htl.out; have := HC.out; simp [Htl.out]; omega) Hrt.out).mono ?_; rintro e' wq ⟨v2, he2, hk2, hb⟩; rw [Hr.out] at he2 hk2; subst he2; have hk3 := (fun hh => V1.mono (S' := fun b => W.heap.size ≤ b) (hk2 hh) (fun b h _ => by have g1 := (hown2.lt _ rfl).1; have g2 := (hown2.lt _ rfl).2; rcases h with h | h <;> exact Nat.le_trans (by omega) h) (fun _ _ _ => rfl)); clear hk2))
      all_goals
       have hBw := mkB_below (w0 := wr) (by assumption)
       have Hk2 := Lib.hid hk3; clear hk3
       go_wp2_with fail
       go_ret2
       unfold FirstPost
       rw [Ha.out]
       exact ⟨_, rfl, (fun _ => (Hk2.out (by trivial)).mono (fun _ h _ => .inr h) (fun _ _ _ => rfl)), hB01.trans ((hBW.trans (hBw.mono (by omega))).mono (by omega))⟩
    ·have hfx : ans = nextAns (lowB m C l n) := by rw [Hrem2.out, fromB_end (by rw [Hdn.out]; omega), List.nil_append]
     have Hfx := Lib.hid hfx; clear hfx
     go_wp2_with fail
     go_roundw
     case rel => exact ⟨n, _, by omega, rfl, by omega, Hfx.out, hBW⟩
     case measure => simp [intOf]
theorem RowVs.mono {S S' : Nat → Prop} {w : World} {vs : List Value} {ls : List (List Int)} (h : RowVs S w vs ls) (hS : ∀ b, S b → b < w.heap.size → S' b) : RowVs S' w vs ls :=
 ⟨h.1, fun k hk => by obtain ⟨ev, h1, h2⟩ := h.2 k hk; exact ⟨ev, h1, V1.mono h2 hS (fun _ _ _ => rfl)⟩⟩
theorem V1.far {w w1 : World} {ou v1 kv : Value} {k : List Int} (h : V1 (fun b => ou.ownBlock ≠ some b) w kv k) (hg : w.grownBy w1 ou.ownBlock) (hblk : v1.ownBlock = ou.ownBlock ∨ ∃ g, v1.ownBlock = some g ∧ w.heap.size ≤ g) : V1 (fun b => v1.ownBlock ≠ some b) w1 kv k :=
 h.mono (fun b h1 h2 e => by
  rcases hblk with e1 | ⟨g, e1, hge⟩
  ·exact h1 (e1.symm.trans e)
  ·rw [e] at e1; cases e1; omega) (grow_keep hg fun g hgg hS => hS hgg)
theorem RowVs.far {w w1 : World} {ou v1 : Value} {vs : List Value} {ls : List (List Int)} (h : RowVs (fun b => ou.ownBlock ≠ some b) w vs ls) (hg : w.grownBy w1 ou.ownBlock) (hblk : v1.ownBlock = ou.ownBlock ∨ ∃ g, v1.ownBlock = some g ∧ w.heap.size ≤ g) : RowVs (fun b => v1.ownBlock ≠ some b) w1 vs ls :=
 ⟨h.1, fun k hk => by obtain ⟨ev, h1, h2⟩ := h.2 k hk; exact ⟨ev, h1, V1.far h2 hg hblk⟩⟩
theorem big_any {S : Nat → Prop} (v : Value) (l : List Int) (W : World) (r : Bool) (hr : decide (4096 < l.length) = r) (h : VB S W v l) :
  Calls Tryz.prog 4 #[v] W fun e' w' => e' = .returned (.bool r) ∧ W = w' := by
 obtain ⟨a, c, rfl, hm⟩ := h.form
 clear h
 have hr2 : decide ((4096 : Int) < (l.length : Int)) = r := by rw [← hr]; exact decide_eq_decide.2 (by omega)
 go_enter Tryz.func4, Tryz.ntmps4
 go_wp2_with fail
 go_ret
 first | exact ⟨rfl, rfl⟩ | exact ⟨ret_bool hr, rfl⟩ | exact ⟨ret_bool hr2, rfl⟩
def openS (x : Int × Int) : Bool := x.1 == -1 && x.2 == 0
theorem isOpenStep_any (x : Int × Int) (W : World) :
  Calls Tryz.prog 21 #[.agg #[.int .i64 x.1, .int .i64 x.2]] W fun e' w' => e' = .returned (.bool (openS x)) ∧ Below W.heap.size W w' := by
 obtain ⟨k, d⟩ := x
 go_enter Tryz.func21, Tryz.ntmps21
 go_wp2
 all_goals go_ret
 all_goals exact ⟨by simp_all [openS], by (repeat (first | (with_reducible refine Below.setCell ?_ ?_ _) | (with_reducible refine Below.alloc ?_ ?_ _) | (with_reducible refine Below.drew ?_) | (with_reducible refine below_drewN ?_ _) | (with_reducible exact Below.refl _ _) | (with_reducible assumption) | (with_reducible refine Below.trans ?_ (Below.mono (by with_reducible assumption) ?_)) | go_size))⟩
theorem l19Open_any (x : Int × Int) (W : World) :
  Calls Tryz.prog 37 #[.agg #[.int .i64 x.1, .int .i64 x.2]] W fun e' w' => e' = .returned (.bool (openS x)) ∧ Below W.heap.size W w' := by
 obtain ⟨k, d⟩ := x
 go_enter Tryz.func37, Tryz.ntmps37
 go_wp2
 all_goals go_ret
 all_goals exact ⟨by simp_all [openS], by (repeat (first | (with_reducible refine Below.setCell ?_ ?_ _) | (with_reducible refine Below.alloc ?_ ?_ _) | (with_reducible refine Below.drew ?_) | (with_reducible refine below_drewN ?_ _) | (with_reducible exact Below.refl _ _) | (with_reducible assumption) | (with_reducible refine Below.trans ?_ (Below.mono (by with_reducible assumption) ?_)) | go_size))⟩
end Go.Proofs.YtbekpololmahoaaGreatDoor
